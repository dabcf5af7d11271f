/- Walks. No condition. -/
import Derived.Test.YtjmnnljfhoeaaaaWy
namespace Evl.T
open Go Evl Go.Proofs
set_option maxRecDepth 100000
/-! impl.clash2 -/
def Dimpl_clash2 (_n : Nat) (a0 : Pl) (a1 : Pl) : Option Bool :=
  (Dimpl_parallel a0 a1).bind fun v0 => frk (decide (v0 ≥ 0)) (some false) ((Dimpl_normal a0).bind fun v1 => (Dimpl_normal a1).bind fun v2 => frk (v1.1 != 0) (some (decide ((w64 ((w64 (a0.D * (maxN v2.1 [w64 (0 - v2.1)]))) + (w64 (a1.D * (maxN v1.1 [w64 (0 - v1.1)]))))) ≤ 0))) (frk (v1.2.1 != 0) (some (decide ((w64 ((w64 (a0.D * (maxN v2.2.1 [w64 (0 - v2.2.1)]))) + (w64 (a1.D * (maxN v1.2.1 [w64 (0 - v1.2.1)]))))) ≤ 0))) (frk (v1.2.2 != 0) (some (decide ((w64 ((w64 (a0.D * (maxN v2.2.2 [w64 (0 - v2.2.2)]))) + (w64 (a1.D * (maxN v1.2.2 [w64 (0 - v1.2.2)]))))) ≤ 0))) (some false))))
theorem Timpl_clash2 {Y} (n : Nat) (a0 : Pl) (a1 : Pl) (r : Bool) (h : Dimpl_clash2 n a0 a1 = some r) : Big Try.prog H Y (.call 122 [.agg [i64 a0.A, i64 a0.B, i64 a0.C, i64 a0.D], .agg [i64 a1.A, i64 a1.B, i64 a1.C, i64 a1.D]] (lk []) (bl r) (lk [])) := by
  unfold Dimpl_clash2 at h
  refine x_call (fn := Try.f122) (c := bodyOf Try.f122) (bs0 := []) Try.func122 (by kernel_rfl) (by kernel_rfl) ?_
  obtain ⟨v0, hv0, h⟩ := bind_some h
  refine x_frk 14 [(5, .call [] [] (i64 v0) [])] (ocons (Timpl_parallel (Y := Y) a0 a1 _ hv0) onil) h (by kernel_rfl) (fun h => ?_) (fun h => ?_)
  · replace h := Option.some.inj h; subst h
    exact x_end 4 [] [] onil onil (by kernel_rfl)
  · obtain ⟨v1, hv1, h⟩ := bind_some h
    obtain ⟨v2, hv2, h⟩ := bind_some h
    refine x_frk 40 [(1, .call [] [] (.agg [i64 v1.1, i64 v1.2.1, i64 v1.2.2]) []), (1, .call [] [] (.agg [i64 v2.1, i64 v2.2.1, i64 v2.2.2]) [])] (ocons (Timpl_normal (Y := Y) a0 _ hv1) (ocons (Timpl_normal (Y := Y) a1 _ hv2) onil)) h (by kernel_rfl) (fun h => ?_) (fun h => ?_)
    · replace h := Option.some.inj h; subst h
      exact x_end 28 [(9, .val (.lit (.int .i64 (maxN v2.1 [w64 (0 - v2.1)])))), (10, .val (.lit (.int .i64 (maxN v1.1 [w64 (0 - v1.1)]))))] [] (ocons (maxNok .i64 [w64 (0 - v2.1)] v2.1) (ocons (maxNok .i64 [w64 (0 - v1.1)] v1.1) onil)) onil (by kernel_rfl)
    · refine x_frk 29 [] onil h (by kernel_rfl) (fun h => ?_) (fun h => ?_)
      · replace h := Option.some.inj h; subst h
        exact x_end 28 [(9, .val (.lit (.int .i64 (maxN v2.2.1 [w64 (0 - v2.2.1)])))), (10, .val (.lit (.int .i64 (maxN v1.2.1 [w64 (0 - v1.2.1)]))))] [] (ocons (maxNok .i64 [w64 (0 - v2.2.1)] v2.2.1) (ocons (maxNok .i64 [w64 (0 - v1.2.1)] v1.2.1) onil)) onil (by kernel_rfl)
      · refine x_frk 29 [] onil h (by kernel_rfl) (fun h => ?_) (fun h => ?_)
        · replace h := Option.some.inj h; subst h
          exact x_end 28 [(9, .val (.lit (.int .i64 (maxN v2.2.2 [w64 (0 - v2.2.2)])))), (10, .val (.lit (.int .i64 (maxN v1.2.2 [w64 (0 - v1.2.2)]))))] [] (ocons (maxNok .i64 [w64 (0 - v2.2.2)] v2.2.2) (ocons (maxNok .i64 [w64 (0 - v1.2.2)] v1.2.2) onil)) onil (by kernel_rfl)
        · replace h := Option.some.inj h; subst h
          exact x_end 19 [] [] onil onil (by kernel_rfl)
/-! impl.det -/
def Dimpl_det (a0 : (Int × Int × Int)) (a1 : (Int × Int × Int)) (a2 : (Int × Int × Int)) : Option Int :=
  (Dimpl_crossOf a1 a2).bind fun v0 => (Dimpl_dot a0 v0).bind fun v1 => some v1
theorem Timpl_det {Y} (a0 : (Int × Int × Int)) (a1 : (Int × Int × Int)) (a2 : (Int × Int × Int)) (r : Int) (h : Dimpl_det a0 a1 a2 = some r) : Big Try.prog H Y (.call 136 [.agg [i64 a0.1, i64 a0.2.1, i64 a0.2.2], .agg [i64 a1.1, i64 a1.2.1, i64 a1.2.2], .agg [i64 a2.1, i64 a2.2.1, i64 a2.2.2]] (lk []) (i64 r) (lk [])) := by
  unfold Dimpl_det at h
  refine x_call (fn := Try.f136) (c := bodyOf Try.f136) (bs0 := []) Try.func136 (by kernel_rfl) (by kernel_rfl) ?_
  obtain ⟨v0, hv0, h⟩ := bind_some h
  obtain ⟨v1, hv1, h⟩ := bind_some h
  replace h := Option.some.inj h; subst h
  exact x_end 16 [(7, .call [] [] (.agg [i64 v0.1, i64 v0.2.1, i64 v0.2.2]) []), (0, .call [] [] (i64 v1) [])] [] (ocons (Timpl_crossOf (Y := Y) a1 a2 _ hv0) (ocons (Timpl_dot (Y := Y) a0 v0 _ hv1) onil)) onil (by kernel_rfl)
/-! impl.weighs -/
def Dimpl_weighs_0 (_n : Nat) (rec0 : (Int × Int) → Option Bool) (t1 : List Int) (_t5 : Int) (_t13 : List Int) (_t14 t6 t7 t8 t15 : Int) (t27 : Bool) : Option Bool :=
  frk t27 (some false) ((lget t1 t7).bind fun v4 => rec0 (w64 (t6 + (w64 (t8 * v4))), w64 (t15 + 1)))
theorem Timpl_weighs_0 {Y} (n : Nat) (rec0 : (Int × Int) → Option Bool) (t1 : List Int) (t5 : Int) (t13 : List Int) (t14 : Int) (hrec0 : ∀ (a : (Int × Int)) (r : Bool), rec0 a = some r → Wk Try.prog H Y 138 [.code (cp [1, 1, 1, 0, 1, 0] (bodyOf Try.f138)), .blk 0, .code (cp [1, 1, 1, 1] (bodyOf Try.f138))] (FinX Try.prog Try.f138 [] (bl r) []) ⟨[(1, .sl false 1 t1.length ((eInt).f t1)), (5, i64 t5), (6, i64 a.1), (13, .sl false 1 t13.length ((eInt).f t13)), (14, i64 t14), (15, i64 a.2)], []⟩) (t6 t7 t8 t15 : Int) (t27 r : Bool) (h : Dimpl_weighs_0 n rec0 t1 t5 t13 t14 t6 t7 t8 t15 t27 = some r) : Wk Try.prog H Y 138 [.code (cp [1, 1, 1, 0, 1, 0, 0, 1, 1, 0, 0, 1, 0, 1] (bodyOf Try.f138)), .code (cp [1, 1, 1, 0, 1, 0, 0, 1, 1, 0, 0, 1, 1] (bodyOf Try.f138)), .blk 1, .code (cp [1, 1, 1, 0, 1, 0, 0, 1, 1, 1] (bodyOf Try.f138)), .lp (cp [1, 1, 1, 0, 1, 0] (bodyOf Try.f138)), .blk 0, .code (cp [1, 1, 1, 1] (bodyOf Try.f138))] (FinX Try.prog Try.f138 [] (bl r) []) ⟨[(1, .sl false 1 t1.length ((eInt).f t1)), (5, i64 t5), (6, i64 t6), (7, i64 t7), (8, i64 t8), (13, .sl false 1 t13.length ((eInt).f t13)), (14, i64 t14), (15, i64 t15), (27, bl t27)], []⟩ := by
  unfold Dimpl_weighs_0 at h
  refine x_frk 0 [] onil h (by kernel_rfl) (fun h => ?_) (fun h => ?_)
  · replace h := Option.some.inj h; subst h
    exact x_end 4 [] [] onil onil (by kernel_rfl)
  · obtain ⟨v4, hv4, h⟩ := bind_some h
    exact x_to 18 [(4, .val (.cptr (eInt.c v4 ++ (eInt).f ((t1).drop (Int.toNat t7 + 1)))))] (ocons (ix eInt hv4) onil) (hrec0 (w64 (t6 + (w64 (t8 * v4))), w64 (t15 + 1)) r h) (by kernel_rfl)
def Dimpl_weighs_1 (n : Nat) (t1 : List Int) (t5 : Int) (t13 : List Int) (t14 : Int) (rec0 : (Int × Int) → Option Bool) (a : (Int × Int)) : Option Bool :=
  match a with
  | (t6, t15) => frk (decide (t15 < t14)) ((lget t13 t15).bind fun v2 => frk (t5 == 0) (some false) ((Dimpl_sign v2).bind fun v3 => Dimpl_weighs_0 n rec0 t1 t5 t13 t14 t6 t15 v2 t15 (v3 != t5))) (some (decide ((w64 (t6 * t5)) ≤ 0)))
theorem Timpl_weighs_1 {Y} (n : Nat) (t1 : List Int) (t5 : Int) (t13 : List Int) (t14 : Int) : ∀ (m : Nat) (a : (Int × Int)) (r : Bool), loopN (Dimpl_weighs_1 n t1 t5 t13 t14) m a = some r → Wk Try.prog H Y 138 [.code (cp [1, 1, 1, 0, 1, 0] (bodyOf Try.f138)), .blk 0, .code (cp [1, 1, 1, 1] (bodyOf Try.f138))] (FinX Try.prog Try.f138 [] (bl r) []) ⟨[(1, .sl false 1 t1.length ((eInt).f t1)), (5, i64 t5), (6, i64 a.1), (13, .sl false 1 t13.length ((eInt).f t13)), (14, i64 t14), (15, i64 a.2)], []⟩ := by
  refine loopN_ind (fun rec0 hrec0 a r h => ?_)
  obtain ⟨t6, t15⟩ := a
  unfold Dimpl_weighs_1 at h
  refine x_frk 6 [] onil h (by kernel_rfl) (fun h => ?_) (fun h => ?_)
  · obtain ⟨v2, hv2, h⟩ := bind_some h
    refine x_frk 17 [(1, .val (.cptr (eInt.c v2 ++ (eInt).f ((t13).drop (Int.toNat t15 + 1)))))] (ocons (ix eInt hv2) onil) h (by kernel_rfl) (fun h => ?_) (fun h => ?_)
    · replace h := Option.some.inj h; subst h
      exact x_end 11 [] [] onil onil (by kernel_rfl)
    · obtain ⟨v3, hv3, h⟩ := bind_some h
      exact x_to 6 [(1, .call [] [] (i64 v3) [])] (ocons (Timpl_sign (Y := Y) v2 _ hv3) onil) (Timpl_weighs_0 n rec0 t1 t5 t13 t14 hrec0 t6 t15 v2 t15 (v3 != t5) r h) (by kernel_rfl)
  · replace h := Option.some.inj h; subst h
    exact x_end 9 [] [] onil onil (by kernel_rfl)
def Dimpl_weighs (n : Nat) (a0 : (List Int)) (a1 : (List Int)) : Option Bool :=
  (lget a0 0).bind fun v0 => (Dimpl_sign v0).bind fun v1 => loopN (Dimpl_weighs_1 n a1 v1 a0 (a0.length : Int)) n (0, 0)
theorem Timpl_weighs {Y} (n : Nat) (a0 : (List Int)) (a1 : (List Int)) (r : Bool) (h : Dimpl_weighs n a0 a1 = some r) : Big Try.prog H Y (.call 138 [.sl false 1 a0.length ((eInt).f a0), .sl false 1 a1.length ((eInt).f a1)] (lk []) (bl r) (lk [])) := by
  unfold Dimpl_weighs at h
  refine x_call (fn := Try.f138) (c := bodyOf Try.f138) (bs0 := []) Try.func138 (by kernel_rfl) (by kernel_rfl) ?_
  obtain ⟨v0, hv0, h⟩ := bind_some h
  obtain ⟨v1, hv1, h⟩ := bind_some h
  exact x_to 24 [(2, .val (.cptr (eInt.c v0 ++ (eInt).f ((a0).drop (Int.toNat 0 + 1))))), (1, .call [] [] (i64 v1) [])] (ocons (ix eInt hv0) (ocons (Timpl_sign (Y := Y) v0 _ hv1) onil)) (Timpl_weighs_1 n a1 v1 a0 (a0.length : Int) n (0, 0) r h) (by kernel_rfl)
/-! impl.clash3 -/
def Dimpl_clash3 (n : Nat) (a0 : Pl) (a1 : Pl) (a2 : Pl) : Option Bool :=
  (Dimpl_normal a0).bind fun v0 => (Dimpl_normal a1).bind fun v1 => (Dimpl_normal a2).bind fun v2 => (Dimpl_det v0 v1 v2).bind fun v3 => frk (v3 != 0) (some false) ((Dimpl_crossOf v0 v1).bind fun v4 => (Dimpl_crossOf v1 v2).bind fun v5 => (Dimpl_dot v5 v4).bind fun v6 => (Dimpl_crossOf v2 v0).bind fun v7 => (Dimpl_dot v7 v4).bind fun v8 => (Dimpl_dot v4 v4).bind fun v9 => (Dimpl_weighs n [v6, v8, v9] [a0.D, a1.D, a2.D]).bind fun v10 => some v10)
theorem Timpl_clash3 {Y} (n : Nat) (a0 : Pl) (a1 : Pl) (a2 : Pl) (r : Bool) (h : Dimpl_clash3 n a0 a1 a2 = some r) : Big Try.prog H Y (.call 123 [.agg [i64 a0.A, i64 a0.B, i64 a0.C, i64 a0.D], .agg [i64 a1.A, i64 a1.B, i64 a1.C, i64 a1.D], .agg [i64 a2.A, i64 a2.B, i64 a2.C, i64 a2.D]] (lk []) (bl r) (lk [])) := by
  unfold Dimpl_clash3 at h
  refine x_call (fn := Try.f123) (c := bodyOf Try.f123) (bs0 := []) Try.func123 (by kernel_rfl) (by kernel_rfl) ?_
  obtain ⟨v0, hv0, h⟩ := bind_some h
  obtain ⟨v1, hv1, h⟩ := bind_some h
  obtain ⟨v2, hv2, h⟩ := bind_some h
  obtain ⟨v3, hv3, h⟩ := bind_some h
  refine x_frk 31 [(5, .call [] [] (.agg [i64 v0.1, i64 v0.2.1, i64 v0.2.2]) []), (1, .call [] [] (.agg [i64 v1.1, i64 v1.2.1, i64 v1.2.2]) []), (1, .call [] [] (.agg [i64 v2.1, i64 v2.2.1, i64 v2.2.2]) []), (9, .call [] [] (i64 v3) [])] (ocons (Timpl_normal (Y := Y) a0 _ hv0) (ocons (Timpl_normal (Y := Y) a1 _ hv1) (ocons (Timpl_normal (Y := Y) a2 _ hv2) (ocons (Timpl_det (Y := Y) v0 v1 v2 _ hv3) onil)))) h (by kernel_rfl) (fun h => ?_) (fun h => ?_)
  · replace h := Option.some.inj h; subst h
    exact x_end 4 [] [] onil onil (by kernel_rfl)
  · obtain ⟨v4, hv4, h⟩ := bind_some h
    obtain ⟨v5, hv5, h⟩ := bind_some h
    obtain ⟨v6, hv6, h⟩ := bind_some h
    obtain ⟨v7, hv7, h⟩ := bind_some h
    obtain ⟨v8, hv8, h⟩ := bind_some h
    obtain ⟨v9, hv9, h⟩ := bind_some h
    obtain ⟨v10, hv10, h⟩ := bind_some h
    replace h := Option.some.inj h; subst h
    exact x_end 35 [(2, .call [] [] (.agg [i64 v4.1, i64 v4.2.1, i64 v4.2.2]) []), (4, .call [] [] (.agg [i64 v5.1, i64 v5.2.1, i64 v5.2.2]) []), (1, .call [] [] (i64 v6) []), (2, .call [] [] (.agg [i64 v7.1, i64 v7.2.1, i64 v7.2.2]) []), (1, .call [] [] (i64 v8) []), (2, .call [] [] (i64 v9) []), (8, .call [] [(eInt).f [a0.D, a1.D, a2.D], (eInt).f [v6, v8, v9]] (bl v10) [])] [] (ocons (Timpl_crossOf (Y := Y) v0 v1 _ hv4) (ocons (Timpl_crossOf (Y := Y) v1 v2 _ hv5) (ocons (Timpl_dot (Y := Y) v5 v4 _ hv6) (ocons (Timpl_crossOf (Y := Y) v2 v0 _ hv7) (ocons (Timpl_dot (Y := Y) v7 v4 _ hv8) (ocons (Timpl_dot (Y := Y) v4 v4 _ hv9) (ocons (Timpl_weighs (Y := Y) n [v6, v8, v9] [a0.D, a1.D, a2.D] _ hv10) (ocons (len_row (L := [v6, v8, v9]) eInt) (ocons (Enc.share eInt eInt sInt [v6, v8, v9]) (ocons (len_row (L := [a0.D, a1.D, a2.D]) eInt) (ocons (Enc.share eInt eInt sInt [a0.D, a1.D, a2.D]) onil))))))))))) onil (by kernel_rfl)
/-! impl.det3 -/
def Dimpl_det3 (a0 : Pl) (a1 : Pl) (a2 : Pl) : Option Int :=
  (Dimpl_normal a0).bind fun v0 => (Dimpl_normal a1).bind fun v1 => (Dimpl_normal a2).bind fun v2 => (Dimpl_det v0 v1 v2).bind fun v3 => some v3
theorem Timpl_det3 {Y} (a0 : Pl) (a1 : Pl) (a2 : Pl) (r : Int) (h : Dimpl_det3 a0 a1 a2 = some r) : Big Try.prog H Y (.call 140 [.agg [i64 a0.A, i64 a0.B, i64 a0.C, i64 a0.D], .agg [i64 a1.A, i64 a1.B, i64 a1.C, i64 a1.D], .agg [i64 a2.A, i64 a2.B, i64 a2.C, i64 a2.D]] (lk []) (i64 r) (lk [])) := by
  unfold Dimpl_det3 at h
  refine x_call (fn := Try.f140) (c := bodyOf Try.f140) (bs0 := []) Try.func140 (by kernel_rfl) (by kernel_rfl) ?_
  obtain ⟨v0, hv0, h⟩ := bind_some h
  obtain ⟨v1, hv1, h⟩ := bind_some h
  obtain ⟨v2, hv2, h⟩ := bind_some h
  obtain ⟨v3, hv3, h⟩ := bind_some h
  replace h := Option.some.inj h; subst h
  exact x_end 18 [(5, .call [] [] (.agg [i64 v0.1, i64 v0.2.1, i64 v0.2.2]) []), (1, .call [] [] (.agg [i64 v1.1, i64 v1.2.1, i64 v1.2.2]) []), (1, .call [] [] (.agg [i64 v2.1, i64 v2.2.1, i64 v2.2.2]) []), (0, .call [] [] (i64 v3) [])] [] (ocons (Timpl_normal (Y := Y) a0 _ hv0) (ocons (Timpl_normal (Y := Y) a1 _ hv1) (ocons (Timpl_normal (Y := Y) a2 _ hv2) (ocons (Timpl_det (Y := Y) v0 v1 v2 _ hv3) onil)))) onil (by kernel_rfl)
/-! impl.clash4 -/
def Dimpl_clash4 (n : Nat) (a0 : Pl) (a1 : Pl) (a2 : Pl) (a3 : Pl) : Option Bool :=
  (Dimpl_det3 a1 a2 a3).bind fun v0 => (Dimpl_det3 a0 a2 a3).bind fun v1 => (Dimpl_det3 a0 a1 a3).bind fun v2 => (Dimpl_det3 a0 a1 a2).bind fun v3 => (Dimpl_weighs n [v0, w64 (0 - v1), v2, w64 (0 - v3)] [a0.D, a1.D, a2.D, a3.D]).bind fun v4 => some v4
theorem Timpl_clash4 {Y} (n : Nat) (a0 : Pl) (a1 : Pl) (a2 : Pl) (a3 : Pl) (r : Bool) (h : Dimpl_clash4 n a0 a1 a2 a3 = some r) : Big Try.prog H Y (.call 124 [.agg [i64 a0.A, i64 a0.B, i64 a0.C, i64 a0.D], .agg [i64 a1.A, i64 a1.B, i64 a1.C, i64 a1.D], .agg [i64 a2.A, i64 a2.B, i64 a2.C, i64 a2.D], .agg [i64 a3.A, i64 a3.B, i64 a3.C, i64 a3.D]] (lk []) (bl r) (lk [])) := by
  unfold Dimpl_clash4 at h
  refine x_call (fn := Try.f124) (c := bodyOf Try.f124) (bs0 := []) Try.func124 (by kernel_rfl) (by kernel_rfl) ?_
  obtain ⟨v0, hv0, h⟩ := bind_some h
  obtain ⟨v1, hv1, h⟩ := bind_some h
  obtain ⟨v2, hv2, h⟩ := bind_some h
  obtain ⟨v3, hv3, h⟩ := bind_some h
  obtain ⟨v4, hv4, h⟩ := bind_some h
  replace h := Option.some.inj h; subst h
  exact x_end 46 [(8, .call [] [] (i64 v0) []), (3, .call [] [] (i64 v1) []), (4, .call [] [] (i64 v2) []), (3, .call [] [] (i64 v3) []), (13, .call [] [(eInt).f [a0.D, a1.D, a2.D, a3.D], (eInt).f [v0, w64 (0 - v1), v2, w64 (0 - v3)]] (bl v4) [])] [] (ocons (Timpl_det3 (Y := Y) a1 a2 a3 _ hv0) (ocons (Timpl_det3 (Y := Y) a0 a2 a3 _ hv1) (ocons (Timpl_det3 (Y := Y) a0 a1 a3 _ hv2) (ocons (Timpl_det3 (Y := Y) a0 a1 a2 _ hv3) (ocons (Timpl_weighs (Y := Y) n [v0, w64 (0 - v1), v2, w64 (0 - v3)] [a0.D, a1.D, a2.D, a3.D] _ hv4) (ocons (len_row (L := [v0, w64 (0 - v1), v2, w64 (0 - v3)]) eInt) (ocons (Enc.share eInt eInt sInt [v0, w64 (0 - v1), v2, w64 (0 - v3)]) (ocons (len_row (L := [a0.D, a1.D, a2.D, a3.D]) eInt) (ocons (Enc.share eInt eInt sInt [a0.D, a1.D, a2.D, a3.D]) onil))))))))) onil (by kernel_rfl)
/-! impl.room -/
def Dimpl_room_0 (n : Nat) (rec1 : Int → Option Bool) (_rec0 : Int → Option Bool) (_t13 : Int) (_t23 : List Pl) (_t24 b6_0 b6_1 b6_2 b6_3 : Int) (_t0 : List Pl) (_t11 : List Pl) (_t12 b3_0 b3_1 b3_2 b3_3 t25 : Int) (t36 : List Pl) (t37 b8_0 b8_1 b8_2 b8_3 : Int) (rec2 : Int → Option Bool) (a : Int) : Option Bool :=
  match a with
  | t38 => frk (decide (t38 < t37)) ((lget t36 t38).bind fun v6 => (Dimpl_clash4 n v6 (Pl.mk b8_0 b8_1 b8_2 b8_3) (Pl.mk b6_0 b6_1 b6_2 b6_3) (Pl.mk b3_0 b3_1 b3_2 b3_3)).bind fun v7 => frk v7 (some false) (rec2 (w64 (t38 + 1)))) (rec1 (w64 (t25 + 1)))
theorem Timpl_room_0 {Y} (n : Nat) (rec1 : Int → Option Bool) (rec0 : Int → Option Bool) (t13 : Int) (t23 : List Pl) (t24 b6_0 b6_1 b6_2 b6_3 : Int) (t0 : List Pl) (t11 : List Pl) (t12 b3_0 b3_1 b3_2 b3_3 : Int) (hrec1 : ∀ (a : Int) (r : Bool), rec1 a = some r → Wk Try.prog H Y 99 [.code (cp [1, 0, 1, 0, 0, 1, 1, 0, 0, 1, 1, 1, 0] (bodyOf Try.f99)), .blk 2, .blk 1, .code (cp [1, 0, 1, 0, 0, 1, 1, 1] (bodyOf Try.f99)), .lp (cp [1, 0, 1, 0] (bodyOf Try.f99)), .blk 0, .code (cp [1, 1] (bodyOf Try.f99))] (FinX Try.prog Try.f99 [] (bl r) []) ⟨[(0, .sl false 4 t0.length ((ePl).f t0)), (3, .ptr 3 0), (6, .ptr 6 0), (11, .sl false 4 t11.length ((ePl).f t11)), (12, i64 t12), (13, i64 t13), (23, .sl false 4 t23.length ((ePl).f t23)), (24, i64 t24), (25, i64 a)], [(3, ⟨true, 0, [i64 b3_0, i64 b3_1, i64 b3_2, i64 b3_3]⟩), (6, ⟨true, 0, [i64 b6_0, i64 b6_1, i64 b6_2, i64 b6_3]⟩)]⟩) (_hrec0 : ∀ (a : Int) (r : Bool), rec0 a = some r → Wk Try.prog H Y 99 [.code (cp [1, 0, 1, 0] (bodyOf Try.f99)), .blk 0, .code (cp [1, 1] (bodyOf Try.f99))] (FinX Try.prog Try.f99 [] (bl r) []) ⟨[(0, .sl false 4 t0.length ((ePl).f t0)), (3, .ptr 3 0), (11, .sl false 4 t11.length ((ePl).f t11)), (12, i64 t12), (13, i64 a)], [(3, ⟨true, 0, [i64 b3_0, i64 b3_1, i64 b3_2, i64 b3_3]⟩)]⟩) (t25 : Int) (t36 : List Pl) (t37 b8_0 b8_1 b8_2 b8_3 : Int) : ∀ (m : Nat) (a : Int) (r : Bool), loopN (Dimpl_room_0 n rec1 rec0 t13 t23 t24 b6_0 b6_1 b6_2 b6_3 t0 t11 t12 b3_0 b3_1 b3_2 b3_3 t25 t36 t37 b8_0 b8_1 b8_2 b8_3) m a = some r → Wk Try.prog H Y 99 [.code (cp [1, 0, 1, 0, 0, 1, 1, 0, 0, 1, 1, 1, 0, 0, 1, 1, 0, 0, 1, 1, 1, 0] (bodyOf Try.f99)), .blk 4, .blk 3, .code (cp [1, 0, 1, 0, 0, 1, 1, 0, 0, 1, 1, 1, 0, 0, 1, 1, 1] (bodyOf Try.f99)), .lp (cp [1, 0, 1, 0, 0, 1, 1, 0, 0, 1, 1, 1, 0] (bodyOf Try.f99)), .blk 2, .blk 1, .code (cp [1, 0, 1, 0, 0, 1, 1, 1] (bodyOf Try.f99)), .lp (cp [1, 0, 1, 0] (bodyOf Try.f99)), .blk 0, .code (cp [1, 1] (bodyOf Try.f99))] (FinX Try.prog Try.f99 [] (bl r) []) ⟨[(0, .sl false 4 t0.length ((ePl).f t0)), (3, .ptr 3 0), (6, .ptr 6 0), (8, .ptr 8 0), (11, .sl false 4 t11.length ((ePl).f t11)), (12, i64 t12), (13, i64 t13), (23, .sl false 4 t23.length ((ePl).f t23)), (24, i64 t24), (25, i64 t25), (36, .sl false 4 t36.length ((ePl).f t36)), (37, i64 t37), (38, i64 a)], [(3, ⟨true, 0, [i64 b3_0, i64 b3_1, i64 b3_2, i64 b3_3]⟩), (6, ⟨true, 0, [i64 b6_0, i64 b6_1, i64 b6_2, i64 b6_3]⟩), (8, ⟨true, 0, [i64 b8_0, i64 b8_1, i64 b8_2, i64 b8_3]⟩)]⟩ := by
  refine loopN_ind (fun _rec2 hrec2 a r h => ?_)
  obtain ⟨t38, rfl⟩ : ∃ x, x = a := ⟨a, rfl⟩
  unfold Dimpl_room_0 at h
  refine x_frk 6 [] onil h (by kernel_rfl) (fun h => ?_) (fun h => ?_)
  · obtain ⟨v6, hv6, h⟩ := bind_some h
    obtain ⟨v7, hv7, h⟩ := bind_some h
    refine x_frk 18 [(0, .val (.cptr (ePl.c v6 ++ (ePl).f ((t36).drop (Int.toNat t38 + 1))))), (7, .call [] [] (bl v7) [])] (ocons (ix ePl hv6) (ocons (Timpl_clash4 (Y := Y) n v6 (Pl.mk b8_0 b8_1 b8_2 b8_3) (Pl.mk b6_0 b6_1 b6_2 b6_3) (Pl.mk b3_0 b3_1 b3_2 b3_3) _ hv7) onil)) h (by kernel_rfl) (fun h => ?_) (fun h => ?_)
    · replace h := Option.some.inj h; subst h
      exact x_end 4 [] [] onil onil (by kernel_rfl)
    · exact x_to 7 [] onil (hrec2 (w64 (t38 + 1)) r h) (by kernel_rfl)
  · exact x_to 7 [] onil (hrec1 (w64 (t25 + 1)) r h) (by kernel_rfl)
def Dimpl_room_1 (n : Nat) (rec0 : Int → Option Bool) (t0 : List Pl) (t11 : List Pl) (t12 b3_0 b3_1 b3_2 b3_3 t13 : Int) (t23 : List Pl) (t24 b6_0 b6_1 b6_2 b6_3 : Int) (rec1 : Int → Option Bool) (a : Int) : Option Bool :=
  match a with
  | t25 => frk (decide (t25 < t24)) ((lget t23 t25).bind fun v3 => (Dimpl_clash3 n v3 (Pl.mk b6_0 b6_1 b6_2 b6_3) (Pl.mk b3_0 b3_1 b3_2 b3_3)).bind fun v4 => frk v4 (some false) ((lsl t0 0 t25).bind fun v5 => loopN (Dimpl_room_0 n rec1 rec0 t13 t23 t24 b6_0 b6_1 b6_2 b6_3 t0 t11 t12 b3_0 b3_1 b3_2 b3_3 t25 v5 (v5.length : Int) v3.A v3.B v3.C v3.D) n 0)) (rec0 (w64 (t13 + 1)))
theorem Timpl_room_1 {Y} (n : Nat) (rec0 : Int → Option Bool) (t0 : List Pl) (t11 : List Pl) (t12 b3_0 b3_1 b3_2 b3_3 : Int) (hrec0 : ∀ (a : Int) (r : Bool), rec0 a = some r → Wk Try.prog H Y 99 [.code (cp [1, 0, 1, 0] (bodyOf Try.f99)), .blk 0, .code (cp [1, 1] (bodyOf Try.f99))] (FinX Try.prog Try.f99 [] (bl r) []) ⟨[(0, .sl false 4 t0.length ((ePl).f t0)), (3, .ptr 3 0), (11, .sl false 4 t11.length ((ePl).f t11)), (12, i64 t12), (13, i64 a)], [(3, ⟨true, 0, [i64 b3_0, i64 b3_1, i64 b3_2, i64 b3_3]⟩)]⟩) (t13 : Int) (t23 : List Pl) (t24 b6_0 b6_1 b6_2 b6_3 : Int) : ∀ (m : Nat) (a : Int) (r : Bool), loopN (Dimpl_room_1 n rec0 t0 t11 t12 b3_0 b3_1 b3_2 b3_3 t13 t23 t24 b6_0 b6_1 b6_2 b6_3) m a = some r → Wk Try.prog H Y 99 [.code (cp [1, 0, 1, 0, 0, 1, 1, 0, 0, 1, 1, 1, 0] (bodyOf Try.f99)), .blk 2, .blk 1, .code (cp [1, 0, 1, 0, 0, 1, 1, 1] (bodyOf Try.f99)), .lp (cp [1, 0, 1, 0] (bodyOf Try.f99)), .blk 0, .code (cp [1, 1] (bodyOf Try.f99))] (FinX Try.prog Try.f99 [] (bl r) []) ⟨[(0, .sl false 4 t0.length ((ePl).f t0)), (3, .ptr 3 0), (6, .ptr 6 0), (11, .sl false 4 t11.length ((ePl).f t11)), (12, i64 t12), (13, i64 t13), (23, .sl false 4 t23.length ((ePl).f t23)), (24, i64 t24), (25, i64 a)], [(3, ⟨true, 0, [i64 b3_0, i64 b3_1, i64 b3_2, i64 b3_3]⟩), (6, ⟨true, 0, [i64 b6_0, i64 b6_1, i64 b6_2, i64 b6_3]⟩)]⟩ := by
  refine loopN_ind (fun rec1 hrec1 a r h => ?_)
  obtain ⟨t25, rfl⟩ : ∃ x, x = a := ⟨a, rfl⟩
  unfold Dimpl_room_1 at h
  refine x_frk 6 [] onil h (by kernel_rfl) (fun h => ?_) (fun h => ?_)
  · obtain ⟨v3, hv3, h⟩ := bind_some h
    obtain ⟨v4, hv4, h⟩ := bind_some h
    refine x_frk 20 [(1, .val (.cptr (ePl.c v3 ++ (ePl).f ((t23).drop (Int.toNat t25 + 1))))), (7, .call [] [] (bl v4) [])] (ocons (ix ePl hv3) (ocons (Timpl_clash3 (Y := Y) n v3 (Pl.mk b6_0 b6_1 b6_2 b6_3) (Pl.mk b3_0 b3_1 b3_2 b3_3) _ hv4) onil)) h (by kernel_rfl) (fun h => ?_) (fun h => ?_)
    · replace h := Option.some.inj h; subst h
      exact x_end 4 [] [] onil onil (by kernel_rfl)
    · obtain ⟨v5, hv5, h⟩ := bind_some h
      exact x_to 10 [(2, .val (.sl false 4 v5.length ((ePl).f v5)))] (ocons (slF ePl hv5) onil) (Timpl_room_0 n rec1 rec0 t13 t23 t24 b6_0 b6_1 b6_2 b6_3 t0 t11 t12 b3_0 b3_1 b3_2 b3_3 hrec1 hrec0 t25 v5 (v5.length : Int) v3.A v3.B v3.C v3.D n 0 r h) (by kernel_rfl)
  · exact x_to 7 [] onil (hrec0 (w64 (t13 + 1)) r h) (by kernel_rfl)
def Dimpl_room_2 (n : Nat) (t0 : List Pl) (t11 : List Pl) (t12 b3_0 b3_1 b3_2 b3_3 : Int) (rec0 : Int → Option Bool) (a : Int) : Option Bool :=
  match a with
  | t13 => frk (decide (t13 < t12)) ((lget t11 t13).bind fun v0 => (Dimpl_clash2 n v0 (Pl.mk b3_0 b3_1 b3_2 b3_3)).bind fun v1 => frk v1 (some false) ((lsl t0 0 t13).bind fun v2 => loopN (Dimpl_room_1 n rec0 t0 t11 t12 b3_0 b3_1 b3_2 b3_3 t13 v2 (v2.length : Int) v0.A v0.B v0.C v0.D) n 0)) (some true)
theorem Timpl_room_2 {Y} (n : Nat) (t0 : List Pl) (t11 : List Pl) (t12 b3_0 b3_1 b3_2 b3_3 : Int) : ∀ (m : Nat) (a : Int) (r : Bool), loopN (Dimpl_room_2 n t0 t11 t12 b3_0 b3_1 b3_2 b3_3) m a = some r → Wk Try.prog H Y 99 [.code (cp [1, 0, 1, 0] (bodyOf Try.f99)), .blk 0, .code (cp [1, 1] (bodyOf Try.f99))] (FinX Try.prog Try.f99 [] (bl r) []) ⟨[(0, .sl false 4 t0.length ((ePl).f t0)), (3, .ptr 3 0), (11, .sl false 4 t11.length ((ePl).f t11)), (12, i64 t12), (13, i64 a)], [(3, ⟨true, 0, [i64 b3_0, i64 b3_1, i64 b3_2, i64 b3_3]⟩)]⟩ := by
  refine loopN_ind (fun rec0 hrec0 a r h => ?_)
  obtain ⟨t13, rfl⟩ : ∃ x, x = a := ⟨a, rfl⟩
  unfold Dimpl_room_2 at h
  refine x_frk 6 [] onil h (by kernel_rfl) (fun h => ?_) (fun h => ?_)
  · obtain ⟨v0, hv0, h⟩ := bind_some h
    obtain ⟨v1, hv1, h⟩ := bind_some h
    refine x_frk 19 [(1, .val (.cptr (ePl.c v0 ++ (ePl).f ((t11).drop (Int.toNat t13 + 1))))), (6, .call [] [] (bl v1) [])] (ocons (ix ePl hv0) (ocons (Timpl_clash2 (Y := Y) n v0 (Pl.mk b3_0 b3_1 b3_2 b3_3) _ hv1) onil)) h (by kernel_rfl) (fun h => ?_) (fun h => ?_)
    · replace h := Option.some.inj h; subst h
      exact x_end 4 [] [] onil onil (by kernel_rfl)
    · obtain ⟨v2, hv2, h⟩ := bind_some h
      exact x_to 10 [(2, .val (.sl false 4 v2.length ((ePl).f v2)))] (ocons (slF ePl hv2) onil) (Timpl_room_1 n rec0 t0 t11 t12 b3_0 b3_1 b3_2 b3_3 hrec0 t13 v2 (v2.length : Int) v0.A v0.B v0.C v0.D n 0 r h) (by kernel_rfl)
  · replace h := Option.some.inj h; subst h
    exact x_end 5 [] [] onil onil (by kernel_rfl)
def Dimpl_room (n : Nat) (a0 : (List Pl)) (a1 : Pl) : Option Bool :=
  loopN (Dimpl_room_2 n a0 a0 (a0.length : Int) a1.A a1.B a1.C a1.D) n 0
theorem Timpl_room {Y} (n : Nat) (a0 : (List Pl)) (a1 : Pl) (r : Bool) (h : Dimpl_room n a0 a1 = some r) : Big Try.prog H Y (.call 99 [.sl false 4 a0.length ((ePl).f a0), .agg [i64 a1.A, i64 a1.B, i64 a1.C, i64 a1.D]] (lk []) (bl r) (lk [])) := by
  unfold Dimpl_room at h
  refine x_call (fn := Try.f99) (c := bodyOf Try.f99) (bs0 := []) Try.func99 (by kernel_rfl) (by kernel_rfl) ?_
  exact x_to 13 [] onil (Timpl_room_2 n a0 a0 (a0.length : Int) a1.A a1.B a1.C a1.D n 0 r h) (by kernel_rfl)
/-! impl.with -/
def Dimpl_with (a0 : (List Pl)) (a1 : Pl) : Option (List Pl) :=
  chk (apB 32 (0 + a0.length)) (chk (apB 32 (([] ++ a0).length + 1)) (some (([] ++ a0) ++ [a1])))
theorem Timpl_with {Y} (a0 : (List Pl)) (a1 : Pl) (r : (List Pl)) (h : Dimpl_with a0 a1 = some r) : Big Try.prog H Y (.call 49 [.sl false 4 a0.length ((ePl).f a0), .agg [i64 a1.A, i64 a1.B, i64 a1.C, i64 a1.D]] (lk []) (.sl true 4 r.length ((ePl).f r)) (lk [])) := by
  unfold Dimpl_with at h
  refine x_call (fn := Try.f49) (c := bodyOf Try.f49) (bs0 := []) Try.func49 (by kernel_rfl) (by kernel_rfl) ?_
  obtain ⟨c0, h⟩ := chk_some h
  obtain ⟨c1, h⟩ := chk_some h
  replace h := Option.some.inj h; subst h
  exact x_end 15 [(4, .app false (List.length ([] ++ a0)) ((ePl).f ([] ++ a0))), (2, .app false (List.length (([] ++ a0) ++ [a1])) ((ePl).f (([] ++ a0) ++ [a1])))] [] (ocons (len_row' (L := []) ePl) (ocons (app_one (L := []) (M := a0) ePl c0) (ocons (app_new (L := []) (M := a0) ePl) (ocons (app_m (L := []) (M := a0) ePl rfl) (ocons (len_row' (L := a0) ePl) (ocons (len_row' (L := ([] ++ a0)) ePl) (ocons (app_one (L := ([] ++ a0)) (M := [a1]) ePl c1) (ocons (app_new (L := ([] ++ a0)) (M := [a1]) ePl) (ocons (app_m (L := ([] ++ a0)) (M := [a1]) ePl rfl) (ocons (len_row' (L := [a1]) ePl) (ocons (Enc.noOwn ePl (fun _ => rfl) [a1]) onil))))))))))) (ocons (len_row (L := (([] ++ a0) ++ [a1])) ePl) onil) (by kernel_rfl)
/-! impl.checker).right -/
def Dimpl_checker_right_1 (_n : Nat) (self : (Int × Sol × (List Pl)) → Option (Bool × Int)) (t2 : List Pl) (t59 _b4_0 : Bool) (b4_1 b4_2 b4_3 b4_4 : Int) (b4_5 : List Sol) (b7_0 b7_1 b7_2 b7_3 b1000_0 : Int) : Option (Bool × Int) :=
  frk t59 (some (false, b1000_0)) ((lget b4_5 0).bind fun v5 => (Dimpl_with t2 (Pl.mk b4_1 b4_2 b4_3 b4_4)).bind fun v6 => (self (b1000_0, v5, v6)).bind fun v7 => frk v7.1 ((lget b4_5 1).bind fun v8 => (Dimpl_with t2 (Pl.mk b7_0 b7_1 b7_2 b7_3)).bind fun v9 => (self (v7.2, v8, v9)).bind fun v10 => some v10) (some (false, v7.2)))
theorem Timpl_checker_right_1 {Y} (n : Nat) (self : (Int × Sol × (List Pl)) → Option (Bool × Int)) (hself : ∀ (a : (Int × Sol × (List Pl))) (r : (Bool × Int)), self a = some r → Big Try.prog H Y (.call 76 [.ptr 1000 0, .agg [bl a.2.1.inn, i64 a.2.1.pl.A, i64 a.2.1.pl.B, i64 a.2.1.pl.C, i64 a.2.1.pl.D, .sl false 6 a.2.1.kids.length ((eSol false).f a.2.1.kids)], .sl false 4 a.2.2.length ((ePl).f a.2.2)] (lk [(1000, ⟨true, 0, [i64 a.1]⟩)]) (bl r.1) (lk [(1000, ⟨true, 0, [i64 r.2]⟩)]))) (t2 : List Pl) (t59 b4_0 : Bool) (b4_1 b4_2 b4_3 b4_4 : Int) (b4_5 : List Sol) (b7_0 b7_1 b7_2 b7_3 b1000_0 : Int) (r : (Bool × Int)) (h : Dimpl_checker_right_1 n self t2 t59 b4_0 b4_1 b4_2 b4_3 b4_4 b4_5 b7_0 b7_1 b7_2 b7_3 b1000_0 = some r) : Wk Try.prog H Y 76 [.code (cp [1, 1, 1, 1, 1, 0, 1] (bodyOf Try.f76)), .code (cp [1, 1, 1, 1, 1, 1] (bodyOf Try.f76))] (FinX Try.prog Try.f76 [(1000, ⟨true, 0, [.bad]⟩)] (bl r.1) [(1000, ⟨true, 0, [i64 r.2]⟩)]) ⟨[(0, .ptr 1000 0), (2, .sl false 4 t2.length ((ePl).f t2)), (4, .ptr 4 0), (7, .ptr 7 0), (59, bl t59)], [(4, ⟨true, 0, [bl b4_0, i64 b4_1, i64 b4_2, i64 b4_3, i64 b4_4, .sl false 6 b4_5.length ((eSol false).f b4_5)]⟩), (7, ⟨true, 0, [i64 b7_0, i64 b7_1, i64 b7_2, i64 b7_3]⟩), (1000, ⟨true, 0, [i64 b1000_0]⟩)]⟩ := by
  unfold Dimpl_checker_right_1 at h
  refine x_frk 0 [] onil h (by kernel_rfl) (fun h => ?_) (fun h => ?_)
  · replace h := Option.some.inj h; subst h
    exact x_end 4 [] [] onil onil (by kernel_rfl)
  · obtain ⟨v5, hv5, h⟩ := bind_some h
    obtain ⟨v6, hv6, h⟩ := bind_some h
    obtain ⟨v7, hv7, h⟩ := bind_some h
    refine x_frk 14 [(3, .val (.cptr ((eSol false).c v5 ++ (eSol false).f ((b4_5).drop (Int.toNat 0 + 1))))), (4, .call [] [] (.sl false 4 v6.length ((ePl).f v6)) []), (0, .call [] [] (bl v7.1) [(1000, ⟨true, 0, [i64 v7.2]⟩)])] (ocons (ix (eSol false) hv5) (ocons (shSl (L := v6) ePl ePl sPl (Timpl_with (Y := Y) t2 (Pl.mk b4_1 b4_2 b4_3 b4_4) _ hv6)) (ocons (hself (b1000_0, v5, v6) _ hv7) onil))) h (by kernel_rfl) (fun h => ?_) (fun h => ?_)
    · obtain ⟨v8, hv8, h⟩ := bind_some h
      obtain ⟨v9, hv9, h⟩ := bind_some h
      obtain ⟨v10, hv10, h⟩ := bind_some h
      replace h := Option.some.inj h; subst h
      exact x_end 12 [(3, .val (.cptr ((eSol false).c v8 ++ (eSol false).f ((b4_5).drop (Int.toNat 1 + 1))))), (3, .call [] [] (.sl false 4 v9.length ((ePl).f v9)) []), (0, .call [] [] (bl v10.1) [(1000, ⟨true, 0, [i64 v10.2]⟩)])] [] (ocons (ix (eSol false) hv8) (ocons (shSl (L := v9) ePl ePl sPl (Timpl_with (Y := Y) t2 (Pl.mk b7_0 b7_1 b7_2 b7_3) _ hv9)) (ocons (hself (v7.2, v8, v9) _ hv10) onil))) onil (by kernel_rfl)
    · replace h := Option.some.inj h; subst h
      exact x_end 12 [] [] onil onil (by kernel_rfl)
def Dimpl_checker_right_0 (n : Nat) (self : (Int × Sol × (List Pl)) → Option (Bool × Int)) (t2 : List Pl) (t45 b4_0 : Bool) (b4_1 b4_2 b4_3 b4_4 : Int) (b4_5 : List Sol) (b1000_0 : Int) : Option (Bool × Int) :=
  frk t45 (some (false, b1000_0)) ((Dimpl_flip (Pl.mk b4_1 b4_2 b4_3 b4_4)).bind fun v2 => (Dimpl_room n t2 (Pl.mk b4_1 b4_2 b4_3 b4_4)).bind fun v3 => frk (!v3) (some (false, b1000_0)) ((Dimpl_room n t2 v2).bind fun v4 => Dimpl_checker_right_1 n self t2 (!v4) b4_0 b4_1 b4_2 b4_3 b4_4 b4_5 v2.A v2.B v2.C v2.D b1000_0))
theorem Timpl_checker_right_0 {Y} (n : Nat) (self : (Int × Sol × (List Pl)) → Option (Bool × Int)) (hself : ∀ (a : (Int × Sol × (List Pl))) (r : (Bool × Int)), self a = some r → Big Try.prog H Y (.call 76 [.ptr 1000 0, .agg [bl a.2.1.inn, i64 a.2.1.pl.A, i64 a.2.1.pl.B, i64 a.2.1.pl.C, i64 a.2.1.pl.D, .sl false 6 a.2.1.kids.length ((eSol false).f a.2.1.kids)], .sl false 4 a.2.2.length ((ePl).f a.2.2)] (lk [(1000, ⟨true, 0, [i64 a.1]⟩)]) (bl r.1) (lk [(1000, ⟨true, 0, [i64 r.2]⟩)]))) (t2 : List Pl) (t45 b4_0 : Bool) (b4_1 b4_2 b4_3 b4_4 : Int) (b4_5 : List Sol) (b1000_0 : Int) (r : (Bool × Int)) (h : Dimpl_checker_right_0 n self t2 t45 b4_0 b4_1 b4_2 b4_3 b4_4 b4_5 b1000_0 = some r) : Wk Try.prog H Y 76 [.code (cp [1, 1, 1, 0, 1] (bodyOf Try.f76)), .code (cp [1, 1, 1, 1] (bodyOf Try.f76))] (FinX Try.prog Try.f76 [(1000, ⟨true, 0, [.bad]⟩)] (bl r.1) [(1000, ⟨true, 0, [i64 r.2]⟩)]) ⟨[(0, .ptr 1000 0), (2, .sl false 4 t2.length ((ePl).f t2)), (4, .ptr 4 0), (45, bl t45)], [(4, ⟨true, 0, [bl b4_0, i64 b4_1, i64 b4_2, i64 b4_3, i64 b4_4, .sl false 6 b4_5.length ((eSol false).f b4_5)]⟩), (1000, ⟨true, 0, [i64 b1000_0]⟩)]⟩ := by
  unfold Dimpl_checker_right_0 at h
  refine x_frk 0 [] onil h (by kernel_rfl) (fun h => ?_) (fun h => ?_)
  · replace h := Option.some.inj h; subst h
    exact x_end 4 [] [] onil onil (by kernel_rfl)
  · obtain ⟨v2, hv2, h⟩ := bind_some h
    obtain ⟨v3, hv3, h⟩ := bind_some h
    refine x_frk 18 [(2, .call [] [] (.agg [i64 v2.A, i64 v2.B, i64 v2.C, i64 v2.D]) []), (5, .call [] [] (bl v3) [])] (ocons (Timpl_flip (Y := Y) (Pl.mk b4_1 b4_2 b4_3 b4_4) _ hv2) (ocons (Timpl_room (Y := Y) n t2 (Pl.mk b4_1 b4_2 b4_3 b4_4) _ hv3) onil)) h (by kernel_rfl) (fun h => ?_) (fun h => ?_)
    · replace h := Option.some.inj h; subst h
      exact x_end 11 [] [] onil onil (by kernel_rfl)
    · obtain ⟨v4, hv4, h⟩ := bind_some h
      exact x_to 6 [(2, .call [] [] (bl v4) [])] (ocons (Timpl_room (Y := Y) n t2 v2 _ hv4) onil) (Timpl_checker_right_1 n self hself t2 (!v4) b4_0 b4_1 b4_2 b4_3 b4_4 b4_5 v2.A v2.B v2.C v2.D b1000_0 r h) (by kernel_rfl)
def Dimpl_checker_right_b (n : Nat) (self : (Int × Sol × (List Pl)) → Option (Bool × Int)) (a : (Int × Sol × (List Pl))) : Option (Bool × Int) :=
  match a with
  | (a0, a1, a2) => (Dimpl_Solid_isLeaf a1).bind fun v0 => frk v0 (some ((a1.pl.A == 0 && (a1.pl.B == 0 && (a1.pl.C == 0 && (a1.pl.D == 0 && true)))), a0)) (frk a1.inn (some (false, w64 (a0 + 1))) (frk ((a1.kids.length : Int) != 2) (some (false, w64 (a0 + 1))) (frk (decide ((w64 (a0 + 1)) > 300)) (some (false, w64 (a0 + 1))) (frk (decide ((a2.length : Int) ≥ 24)) (some (false, w64 (a0 + 1))) ((Dimpl_PlaneOk n a1.pl).bind fun v1 => Dimpl_checker_right_0 n self a2 (!v1) a1.inn a1.pl.A a1.pl.B a1.pl.C a1.pl.D a1.kids (w64 (a0 + 1)))))))
def Dimpl_checker_right (n : Nat) (a0 : Int) (a1 : Sol) (a2 : (List Pl)) : Option (Bool × Int) := loopN (Dimpl_checker_right_b n) n (a0, a1, a2)
theorem Timpl_checker_right_b {Y} (n : Nat) : ∀ (m : Nat) (a : (Int × Sol × (List Pl))) (r : (Bool × Int)), loopN (Dimpl_checker_right_b n) m a = some r → ∀ (_ : Unit), Big Try.prog H Y (.call 76 [.ptr 1000 0, .agg [bl a.2.1.inn, i64 a.2.1.pl.A, i64 a.2.1.pl.B, i64 a.2.1.pl.C, i64 a.2.1.pl.D, .sl false 6 a.2.1.kids.length ((eSol false).f a.2.1.kids)], .sl false 4 a.2.2.length ((ePl).f a.2.2)] (lk [(1000, ⟨true, 0, [i64 a.1]⟩)]) (bl r.1) (lk [(1000, ⟨true, 0, [i64 r.2]⟩)])) := by
  refine loopN_ind (fun self hs a r h => ?_)
  have hself : ∀ (a : (Int × Sol × (List Pl))) (r : (Bool × Int)), self a = some r → Big Try.prog H Y (.call 76 [.ptr 1000 0, .agg [bl a.2.1.inn, i64 a.2.1.pl.A, i64 a.2.1.pl.B, i64 a.2.1.pl.C, i64 a.2.1.pl.D, .sl false 6 a.2.1.kids.length ((eSol false).f a.2.1.kids)], .sl false 4 a.2.2.length ((ePl).f a.2.2)] (lk [(1000, ⟨true, 0, [i64 a.1]⟩)]) (bl r.1) (lk [(1000, ⟨true, 0, [i64 r.2]⟩)])) := fun a r h => hs a r h ()
  intro _
  obtain ⟨a0, a1, a2⟩ := a
  unfold Dimpl_checker_right_b at h
  refine x_call (fn := Try.f76) (c := bodyOf Try.f76) (bs0 := [(1000, ⟨true, 0, [.bad]⟩)]) Try.func76 (by kernel_rfl) (by kernel_rfl) ?_
  obtain ⟨v0, hv0, h⟩ := bind_some h
  refine x_frk 10 [(2, .call [] [] (bl v0) [])] (ocons (Timpl_Solid_isLeaf (Y := Y) a1 [] _ hv0) onil) h (by kernel_rfl) (fun h => ?_) (fun h => ?_)
  · replace h := Option.some.inj h; subst h
    exact x_end 8 [] [] onil onil (by kernel_rfl)
  · refine x_frk 18 [] onil h (by kernel_rfl) (fun h => ?_) (fun h => ?_)
    · replace h := Option.some.inj h; subst h
      exact x_end 29 [] [] onil onil (by kernel_rfl)
    · refine x_frk 6 [] onil h (by kernel_rfl) (fun h => ?_) (fun h => ?_)
      · replace h := Option.some.inj h; subst h
        exact x_end 23 [] [] onil onil (by kernel_rfl)
      · refine x_frk 7 [] onil h (by kernel_rfl) (fun h => ?_) (fun h => ?_)
        · replace h := Option.some.inj h; subst h
          exact x_end 16 [] [] onil onil (by kernel_rfl)
        · refine x_frk 5 [] onil h (by kernel_rfl) (fun h => ?_) (fun h => ?_)
          · replace h := Option.some.inj h; subst h
            exact x_end 11 [] [] onil onil (by kernel_rfl)
          · obtain ⟨v1, hv1, h⟩ := bind_some h
            exact x_to 6 [(2, .call [] [] (bl v1) [])] (ocons (Timpl_PlaneOk (Y := Y) n a1.pl _ hv1) onil) (Timpl_checker_right_0 n self hself a2 (!v1) a1.inn a1.pl.A a1.pl.B a1.pl.C a1.pl.D a1.kids (w64 (a0 + 1)) r h) (by kernel_rfl)
theorem Timpl_checker_right {Y} (n : Nat) (a0 : Int) (a1 : Sol) (a2 : (List Pl)) (r : (Bool × Int)) (h : Dimpl_checker_right n a0 a1 a2 = some r) : Big Try.prog H Y (.call 76 [.ptr 1000 0, .agg [bl a1.inn, i64 a1.pl.A, i64 a1.pl.B, i64 a1.pl.C, i64 a1.pl.D, .sl false 6 a1.kids.length ((eSol false).f a1.kids)], .sl false 4 a2.length ((ePl).f a2)] (lk [(1000, ⟨true, 0, [i64 a0]⟩)]) (bl r.1) (lk [(1000, ⟨true, 0, [i64 r.2]⟩)])) := Timpl_checker_right_b n n (a0, a1, a2) r h ()
/-! impl.SolidOk -/
def Dimpl_SolidOk (n : Nat) (a0 : Sol) : Option Bool :=
  (Dimpl_checker_right n 0 a0 []).bind fun v0 => some v0.1
theorem Timpl_SolidOk {Y} (n : Nat) (a0 : Sol) (r : Bool) (h : Dimpl_SolidOk n a0 = some r) : Big Try.prog H Y (.call 29 [.agg [bl a0.inn, i64 a0.pl.A, i64 a0.pl.B, i64 a0.pl.C, i64 a0.pl.D, .sl false 6 a0.kids.length ((eSol false).f a0.kids)]] (lk []) (bl r) (lk [])) := by
  unfold Dimpl_SolidOk at h
  refine x_call (fn := Try.f29) (c := bodyOf Try.f29) (bs0 := []) Try.func29 (by kernel_rfl) (by kernel_rfl) ?_
  obtain ⟨v0, hv0, h⟩ := bind_some h
  replace h := Option.some.inj h; subst h
  exact x_end 15 [(4, .call [(false, 4)] [] (bl v0.1) [(1000, ⟨true, 0, [i64 v0.2]⟩)])] [] (ocons (Timpl_checker_right (Y := Y) n 0 a0 [] _ hv0) onil) onil (by kernel_rfl)
/-! impl.low -/
def Dimpl_lowo0 (a0 : (List Int)) (a1 : Int) : Option (List Int) :=
  chk (apB 1 (a0.length + 2)) (some (a0 ++ [IntKind.u8.wrap a1, IntKind.u8.wrap (Int.fdiv a1 256)]))
theorem Timpl_lowo0 {Y} (a0 : (List Int)) (a1 : Int) (r : (List Int)) (h : Dimpl_lowo0 a0 a1 = some r) : Big Try.prog H Y (.call 40 [.sl true 1 a0.length ((eU8).f a0), i64 a1] (lk []) (.sl true 1 r.length ((eU8).f r)) (lk [])) := by
  unfold Dimpl_lowo0 at h
  refine x_call (fn := Try.f40) (c := bodyOf Try.f40) (bs0 := []) Try.func40 (by kernel_rfl) (by kernel_rfl) ?_
  obtain ⟨c0, h⟩ := chk_some h
  replace h := Option.some.inj h; subst h
  exact x_end 17 [(0, .adopt 0 700 a0.length 1 ((eU8).f a0)), (8, .app false (List.length (a0 ++ [IntKind.u8.wrap a1, IntKind.u8.wrap (Int.fdiv a1 256)])) ((eU8).f (a0 ++ [IntKind.u8.wrap a1, IntKind.u8.wrap (Int.fdiv a1 256)])))] [] (ocons (rflV (.sl true 1 a0.length ((eU8).f a0))) (ocons (show 700 < 1000 ∧ 1 ≠ 0 by decide) (ocons (len_row' (L := a0) eU8) (ocons (app_one (L := a0) (M := [IntKind.u8.wrap a1, IntKind.u8.wrap (Int.fdiv a1 256)]) eU8 c0) (ocons (app_new (L := a0) (M := [IntKind.u8.wrap a1, IntKind.u8.wrap (Int.fdiv a1 256)]) eU8) (ocons (app_m (L := a0) (M := [IntKind.u8.wrap a1, IntKind.u8.wrap (Int.fdiv a1 256)]) eU8 rfl) (ocons (len_row' (L := [IntKind.u8.wrap a1, IntKind.u8.wrap (Int.fdiv a1 256)]) eU8) (ocons (Enc.noOwn eU8 (fun _ => rfl) [IntKind.u8.wrap a1, IntKind.u8.wrap (Int.fdiv a1 256)]) onil)))))))) (ocons (len_row (L := (a0 ++ [IntKind.u8.wrap a1, IntKind.u8.wrap (Int.fdiv a1 256)])) eU8) onil) (by kernel_rfl)
/-! impl.putTree -/
def Dimpl_putTreeo0_b (_n : Nat) (self : ((List Int) × Sol) → Option (List Int)) (a : ((List Int) × Sol)) : Option (List Int) :=
  match a with
  | (a0, a1) => (Dimpl_Solid_isLeaf a1).bind fun v0 => frk v0 (frk a1.inn (chk (apB 1 (a0.length + 1)) (some (a0 ++ [1]))) (chk (apB 1 (a0.length + 1)) (some (a0 ++ [0])))) (chk (apB 1 (a0.length + 1)) ((Dimpl_lowo0 (a0 ++ [2]) (w64 (a1.pl.A + 500))).bind fun v4 => (Dimpl_lowo0 v4 (w64 (a1.pl.B + 500))).bind fun v5 => (Dimpl_lowo0 v5 (w64 (a1.pl.C + 500))).bind fun v6 => (Dimpl_lowo0 v6 (w64 (a1.pl.D + 500))).bind fun v7 => (lget a1.kids 0).bind fun v8 => (self (v7, v8)).bind fun v9 => (lget a1.kids 1).bind fun v10 => (self (v9, v10)).bind fun v11 => some v11))
def Dimpl_putTreeo0 (n : Nat) (a0 : (List Int)) (a1 : Sol) : Option (List Int) := loopN (Dimpl_putTreeo0_b n) n (a0, a1)
theorem Timpl_putTreeo0_b {Y} (n : Nat) : ∀ (m : Nat) (a : ((List Int) × Sol)) (r : (List Int)), loopN (Dimpl_putTreeo0_b n) m a = some r → ∀ (_ : Unit), Big Try.prog H Y (.call 38 [.sl true 1 a.1.length ((eU8).f a.1), .agg [bl a.2.inn, i64 a.2.pl.A, i64 a.2.pl.B, i64 a.2.pl.C, i64 a.2.pl.D, .sl false 6 a.2.kids.length ((eSol false).f a.2.kids)]] (lk []) (.sl true 1 r.length ((eU8).f r)) (lk [])) := by
  refine loopN_ind (fun self hs a r h => ?_)
  have hself : ∀ (a : ((List Int) × Sol)) (r : (List Int)), self a = some r → Big Try.prog H Y (.call 38 [.sl true 1 a.1.length ((eU8).f a.1), .agg [bl a.2.inn, i64 a.2.pl.A, i64 a.2.pl.B, i64 a.2.pl.C, i64 a.2.pl.D, .sl false 6 a.2.kids.length ((eSol false).f a.2.kids)]] (lk []) (.sl true 1 r.length ((eU8).f r)) (lk [])) := fun a r h => hs a r h ()
  intro _
  obtain ⟨a0, a1⟩ := a
  unfold Dimpl_putTreeo0_b at h
  refine x_call (fn := Try.f38) (c := bodyOf Try.f38) (bs0 := []) Try.func38 (by kernel_rfl) (by kernel_rfl) ?_
  obtain ⟨v0, hv0, h⟩ := bind_some h
  refine x_frk 11 [(0, .adopt 0 700 a0.length 1 ((eU8).f a0)), (2, .call [] [] (bl v0) [])] (ocons (rflV (.sl true 1 a0.length ((eU8).f a0))) (ocons (show 700 < 1000 ∧ 1 ≠ 0 by decide) (ocons (Timpl_Solid_isLeaf (Y := Y) a1 [] _ hv0) onil))) h (by kernel_rfl) (fun h => ?_) (fun h => ?_)
  · refine x_frk 6 [] onil h (by kernel_rfl) (fun h => ?_) (fun h => ?_)
    · obtain ⟨c1, h⟩ := chk_some h
      replace h := Option.some.inj h; subst h
      exact x_end 7 [(2, .app false (List.length (a0 ++ [1])) ((eU8).f (a0 ++ [1])))] [] (ocons (len_row' (L := a0) eU8) (ocons (app_one (L := a0) (M := [1]) eU8 c1) (ocons (app_new (L := a0) (M := [1]) eU8) (ocons (app_m (L := a0) (M := [1]) eU8 rfl) (ocons (len_row' (L := [1]) eU8) (ocons (Enc.noOwn eU8 (fun _ => rfl) [1]) onil)))))) (ocons (len_row (L := (a0 ++ [1])) eU8) onil) (by kernel_rfl)
    · obtain ⟨c2, h⟩ := chk_some h
      replace h := Option.some.inj h; subst h
      exact x_end 8 [(2, .app false (List.length (a0 ++ [0])) ((eU8).f (a0 ++ [0])))] [] (ocons (len_row' (L := a0) eU8) (ocons (app_one (L := a0) (M := [0]) eU8 c2) (ocons (app_new (L := a0) (M := [0]) eU8) (ocons (app_m (L := a0) (M := [0]) eU8 rfl) (ocons (len_row' (L := [0]) eU8) (ocons (Enc.noOwn eU8 (fun _ => rfl) [0]) onil)))))) (ocons (len_row (L := (a0 ++ [0])) eU8) onil) (by kernel_rfl)
  · obtain ⟨c3, h⟩ := chk_some h
    obtain ⟨v4, hv4, h⟩ := bind_some h
    obtain ⟨v5, hv5, h⟩ := bind_some h
    obtain ⟨v6, hv6, h⟩ := bind_some h
    obtain ⟨v7, hv7, h⟩ := bind_some h
    obtain ⟨v8, hv8, h⟩ := bind_some h
    obtain ⟨v9, hv9, h⟩ := bind_some h
    obtain ⟨v10, hv10, h⟩ := bind_some h
    obtain ⟨v11, hv11, h⟩ := bind_some h
    replace h := Option.some.inj h; subst h
    exact x_end 162 [(2, .app false (List.length (a0 ++ [2])) ((eU8).f (a0 ++ [2]))), (21, .call [] [] (.sl true 1 v4.length ((eU8).f v4)) []), (9, .call [] [] (.sl true 1 v5.length ((eU8).f v5)) []), (9, .call [] [] (.sl true 1 v6.length ((eU8).f v6)) []), (9, .call [] [] (.sl true 1 v7.length ((eU8).f v7)) []), (7, .val (.cptr ((eSol false).c v8 ++ (eSol false).f ((a1.kids).drop (Int.toNat 0 + 1))))), (1, .call [] [] (.sl true 1 v9.length ((eU8).f v9)) []), (2, .val (.cptr ((eSol false).c v10 ++ (eSol false).f ((a1.kids).drop (Int.toNat 1 + 1))))), (1, .call [] [] (.sl true 1 v11.length ((eU8).f v11)) [])] [] (ocons (len_row' (L := a0) eU8) (ocons (app_one (L := a0) (M := [2]) eU8 c3) (ocons (app_new (L := a0) (M := [2]) eU8) (ocons (app_m (L := a0) (M := [2]) eU8 rfl) (ocons (len_row' (L := [2]) eU8) (ocons (Enc.noOwn eU8 (fun _ => rfl) [2]) (ocons (Timpl_lowo0 (Y := Y) (a0 ++ [2]) (w64 (a1.pl.A + 500)) _ hv4) (ocons (len_row (L := (a0 ++ [2])) eU8) (ocons (Timpl_lowo0 (Y := Y) v4 (w64 (a1.pl.B + 500)) _ hv5) (ocons (len_row (L := v4) eU8) (ocons (Timpl_lowo0 (Y := Y) v5 (w64 (a1.pl.C + 500)) _ hv6) (ocons (len_row (L := v5) eU8) (ocons (Timpl_lowo0 (Y := Y) v6 (w64 (a1.pl.D + 500)) _ hv7) (ocons (len_row (L := v6) eU8) (ocons (ix (eSol false) hv8) (ocons (hself (v7, v8) _ hv9) (ocons (len_row (L := v7) eU8) (ocons (ix (eSol false) hv10) (ocons (hself (v9, v10) _ hv11) (ocons (len_row (L := v9) eU8) onil)))))))))))))))))))) (ocons (len_row (L := v11) eU8) onil) (by kernel_rfl)
theorem Timpl_putTreeo0 {Y} (n : Nat) (a0 : (List Int)) (a1 : Sol) (r : (List Int)) (h : Dimpl_putTreeo0 n a0 a1 = some r) : Big Try.prog H Y (.call 38 [.sl true 1 a0.length ((eU8).f a0), .agg [bl a1.inn, i64 a1.pl.A, i64 a1.pl.B, i64 a1.pl.C, i64 a1.pl.D, .sl false 6 a1.kids.length ((eSol false).f a1.kids)]] (lk []) (.sl true 1 r.length ((eU8).f r)) (lk [])) := Timpl_putTreeo0_b n n (a0, a1) r h ()
/-! impl.sums -/
def Dimpl_sums_0 (_n : Nat) (t8 : List Int) (t9 : Int) (rec0 : (Int × Int × Int) → Option (Int × Int)) (a : (Int × Int × Int)) : Option (Int × Int) :=
  match a with
  | (t4, t5, t10) => frk (decide (t10 < t9)) ((lget t8 t10).bind fun v0 => rec0 (Int.tmod (w64 (t4 + (w64 v0))) 65521, Int.tmod (w64 (t5 + (Int.tmod (w64 (t4 + (w64 v0))) 65521))) 65521, w64 (t10 + 1))) (some (t4, t5))
theorem Timpl_sums_0 {Y} (n : Nat) (t8 : List Int) (t9 : Int) : ∀ (m : Nat) (a : (Int × Int × Int)) (r : (Int × Int)), loopN (Dimpl_sums_0 n t8 t9) m a = some r → Wk Try.prog H Y 39 [.code (cp [1, 1, 0, 1, 0] (bodyOf Try.f39)), .blk 0, .code (cp [1, 1, 1] (bodyOf Try.f39))] (FinX Try.prog Try.f39 [] (.tup [i64 r.1, i64 r.2]) []) ⟨[(4, i64 a.1), (5, i64 a.2.1), (8, .sl false 1 t8.length ((eU8).f t8)), (9, i64 t9), (10, i64 a.2.2)], []⟩ := by
  refine loopN_ind (fun _rec0 hrec0 a r h => ?_)
  obtain ⟨t4, t5, t10⟩ := a
  unfold Dimpl_sums_0 at h
  refine x_frk 6 [] onil h (by kernel_rfl) (fun h => ?_) (fun h => ?_)
  · obtain ⟨v0, hv0, h⟩ := bind_some h
    exact x_to 31 [(0, .val (.cptr (eU8.c v0 ++ (eU8).f ((t8).drop (Int.toNat t10 + 1)))))] (ocons (ix eU8 hv0) onil) (hrec0 (Int.tmod (w64 (t4 + (w64 v0))) 65521, Int.tmod (w64 (t5 + (Int.tmod (w64 (t4 + (w64 v0))) 65521))) 65521, w64 (t10 + 1)) r h) (by kernel_rfl)
  · replace h := Option.some.inj h; subst h
    exact x_end 8 [] [] onil onil (by kernel_rfl)
def Dimpl_sums (n : Nat) (a0 : (List Int)) : Option (Int × Int) :=
  loopN (Dimpl_sums_0 n a0 (a0.length : Int)) n (1, 0, 0)
theorem Timpl_sums {Y} (n : Nat) (a0 : (List Int)) (r : (Int × Int)) (h : Dimpl_sums n a0 = some r) : Big Try.prog H Y (.call 39 [.sl false 1 a0.length ((eU8).f a0)] (lk []) (.tup [i64 r.1, i64 r.2]) (lk [])) := by
  unfold Dimpl_sums at h
  refine x_call (fn := Try.f39) (c := bodyOf Try.f39) (bs0 := []) Try.func39 (by kernel_rfl) (by kernel_rfl) ?_
  exact x_to 18 [] onil (Timpl_sums_0 n a0 (a0.length : Int) n (1, 0, 0) r h) (by kernel_rfl)
/-! impl.PutSolid -/
def Dimpl_PutSolid (n : Nat) (a0 : Sol) : Option (List Int) :=
  (Dimpl_SolidOk n a0).bind fun v0 => frk (!v0) (some []) ((Dimpl_putTreeo0 n [80, 87] a0).bind fun v1 => (Dimpl_sums n v1).bind fun v2 => (Dimpl_lowo0 v1 v2.1).bind fun v3 => (Dimpl_lowo0 v3 v2.2).bind fun v4 => some v4)
theorem Timpl_PutSolid {Y} (n : Nat) (a0 : Sol) (r : (List Int)) (h : Dimpl_PutSolid n a0 = some r) : Big Try.prog H Y (.call 9 [.agg [bl a0.inn, i64 a0.pl.A, i64 a0.pl.B, i64 a0.pl.C, i64 a0.pl.D, .sl false 6 a0.kids.length ((eSol false).f a0.kids)]] (lk []) (.sl true 1 r.length ((eU8).f r)) (lk [])) := by
  unfold Dimpl_PutSolid at h
  refine x_call (fn := Try.f9) (c := bodyOf Try.f9) (bs0 := []) Try.func9 (by kernel_rfl) (by kernel_rfl) ?_
  obtain ⟨v0, hv0, h⟩ := bind_some h
  refine x_frk 12 [(3, .call [] [] (bl v0) [])] (ocons (Timpl_SolidOk (Y := Y) n a0 _ hv0) onil) h (by kernel_rfl) (fun h => ?_) (fun h => ?_)
  · replace h := Option.some.inj h; subst h
    exact x_end 4 [] [(true, 1)] onil onil (by kernel_rfl)
  · obtain ⟨v1, hv1, h⟩ := bind_some h
    obtain ⟨v2, hv2, h⟩ := bind_some h
    obtain ⟨v3, hv3, h⟩ := bind_some h
    obtain ⟨v4, hv4, h⟩ := bind_some h
    replace h := Option.some.inj h; subst h
    exact x_end 28 [(3, .call [] [] (.sl true 1 v1.length ((eU8).f v1)) []), (2, .call [] [(eU8).f v1] (.tup [i64 v2.1, i64 v2.2]) []), (7, .call [] [] (.sl true 1 v3.length ((eU8).f v3)) []), (1, .call [] [] (.sl true 1 v4.length ((eU8).f v4)) [])] [] (ocons (Timpl_putTreeo0 (Y := Y) n [80, 87] a0 _ hv1) (ocons (len_row (L := [80, 87]) eU8) (ocons (Timpl_sums (Y := Y) n v1 _ hv2) (ocons (len_row (L := v1) eU8) (ocons (Enc.share eU8 eU8 sU8 v1) (ocons (Timpl_lowo0 (Y := Y) v1 v2.1 _ hv3) (ocons (len_row (L := v1) eU8) (ocons (Timpl_lowo0 (Y := Y) v3 v2.2 _ hv4) (ocons (len_row (L := v3) eU8) onil))))))))) (ocons (len_row (L := v4) eU8) onil) (by kernel_rfl)
/-! impl.getter).fail -/
def Dimpl_getter_fail (a0 : ((List Int) × Int × Int × Int × Int)) (a1 a2 : Int) : Option ((List Int) × Int × Int × Int × Int) :=
  frk (a0.2.2.2.1 == 0) (some (a0.1, a0.2.1, a0.2.2.1, a1, a2)) (some a0)
theorem Timpl_getter_fail {Y} (a0 : ((List Int) × Int × Int × Int × Int)) (a1 a2 : Int) (r : ((List Int) × Int × Int × Int × Int)) (h : Dimpl_getter_fail a0 a1 a2 = some r) : Big Try.prog H Y (.call 43 [.ptr 1000 0, i64 a1, i64 a2] (lk [(1000, ⟨true, 0, [.sl false 1 a0.1.length ((eU8).f a0.1), i64 a0.2.1, i64 a0.2.2.1, i64 a0.2.2.2.1, i64 a0.2.2.2.2]⟩)]) (.tup []) (lk [(1000, ⟨true, 0, [.sl false 1 r.1.length ((eU8).f r.1), i64 r.2.1, i64 r.2.2.1, i64 r.2.2.2.1, i64 r.2.2.2.2]⟩)])) := by
  unfold Dimpl_getter_fail at h
  refine x_call (fn := Try.f43) (c := bodyOf Try.f43) (bs0 := [(1000, ⟨true, 0, [.bad, .bad, .bad, .bad, .bad]⟩)]) Try.func43 (by kernel_rfl) (by kernel_rfl) ?_
  refine x_frk 8 [] onil h (by kernel_rfl) (fun h => ?_) (fun h => ?_)
  · replace h := Option.some.inj h; subst h
    exact x_end 12 [] [] onil onil (by kernel_rfl)
  · replace h := Option.some.inj h; subst h
    exact x_end 1 [] [] onil onil (by kernel_rfl)
/-! impl.getter).number -/
def Dimpl_getter_number_0 (_n : Nat) (b1000_0 : List Int) (b1000_1 b1000_2 b1000_3 b1000_4 : Int) : Option (Int × ((List Int) × Int × Int × Int × Int)) :=
  (Dimpl_getter_fail (b1000_0, b1000_1, b1000_2, b1000_3, b1000_4) 21 b1000_1).bind fun v0 => some (0, v0)
theorem Timpl_getter_number_0 {Y} (n : Nat) (b1000_0 : List Int) (b1000_1 b1000_2 b1000_3 b1000_4 : Int) (r : (Int × ((List Int) × Int × Int × Int × Int))) (h : Dimpl_getter_number_0 n b1000_0 b1000_1 b1000_2 b1000_3 b1000_4 = some r) : Wk Try.prog H Y 42 [.code (cp [1, 0, 1, 0, 0] (bodyOf Try.f42)), .code (cp [1, 0, 1, 0, 1] (bodyOf Try.f42)), .code (cp [1, 1] (bodyOf Try.f42))] (FinX Try.prog Try.f42 [(1000, ⟨true, 0, [.bad, .bad, .bad, .bad, .bad]⟩)] (i64 r.1) [(1000, ⟨true, 0, [.sl false 1 r.2.1.length ((eU8).f r.2.1), i64 r.2.2.1, i64 r.2.2.2.1, i64 r.2.2.2.2.1, i64 r.2.2.2.2.2]⟩)]) ⟨[(0, .ptr 1000 0)], [(1000, ⟨true, 0, [.sl false 1 b1000_0.length ((eU8).f b1000_0), i64 b1000_1, i64 b1000_2, i64 b1000_3, i64 b1000_4]⟩)]⟩ := by
  unfold Dimpl_getter_number_0 at h
  obtain ⟨v0, hv0, h⟩ := bind_some h
  replace h := Option.some.inj h; subst h
  exact x_end 12 [(5, .call [] [] (.tup []) [(1000, ⟨true, 0, [.sl false 1 v0.1.length ((eU8).f v0.1), i64 v0.2.1, i64 v0.2.2.1, i64 v0.2.2.2.1, i64 v0.2.2.2.2]⟩)])] [] (ocons (Timpl_getter_fail (Y := Y) (b1000_0, b1000_1, b1000_2, b1000_3, b1000_4) 21 b1000_1 _ hv0) onil) onil (by kernel_rfl)
def Dimpl_getter_number_2 (_n : Nat) (t1 t32 : Int) (b1000_0 : List Int) (b1000_1 b1000_2 b1000_3 b1000_4 : Int) (rec0 : (Int × Int) → Option (Int × ((List Int) × Int × Int × Int × Int))) (a : (Int × Int)) : Option (Int × ((List Int) × Int × Int × Int × Int)) :=
  match a with
  | (t5, t33) => frk (decide (t33 < t32)) ((lget b1000_0 (w64 (b1000_1 + t33))).bind fun v2 => (shL .i64 (w64 v2) (IntKind.u64.wrap (w64 (8 * t33)))).bind fun v3 => rec0 (bOr .i64 t5 v3, w64 (t33 + 1))) (some (t5, (b1000_0, w64 (b1000_1 + t1), b1000_2, b1000_3, b1000_4)))
theorem Timpl_getter_number_2 {Y} (n : Nat) (t1 t32 : Int) (b1000_0 : List Int) (b1000_1 b1000_2 b1000_3 b1000_4 : Int) : ∀ (m : Nat) (a : (Int × Int)) (r : (Int × ((List Int) × Int × Int × Int × Int))), loopN (Dimpl_getter_number_2 n t1 t32 b1000_0 b1000_1 b1000_2 b1000_3 b1000_4) m a = some r → Wk Try.prog H Y 42 [.code (cp [1, 1, 1, 0, 1, 0] (bodyOf Try.f42)), .blk 0, .code (cp [1, 1, 1, 1] (bodyOf Try.f42))] (FinX Try.prog Try.f42 [(1000, ⟨true, 0, [.bad, .bad, .bad, .bad, .bad]⟩)] (i64 r.1) [(1000, ⟨true, 0, [.sl false 1 r.2.1.length ((eU8).f r.2.1), i64 r.2.2.1, i64 r.2.2.2.1, i64 r.2.2.2.2.1, i64 r.2.2.2.2.2]⟩)]) ⟨[(0, .ptr 1000 0), (1, i64 t1), (5, i64 a.1), (32, i64 t32), (33, i64 a.2)], [(1000, ⟨true, 0, [.sl false 1 b1000_0.length ((eU8).f b1000_0), i64 b1000_1, i64 b1000_2, i64 b1000_3, i64 b1000_4]⟩)]⟩ := by
  refine loopN_ind (fun _rec0 hrec0 a r h => ?_)
  obtain ⟨t5, t33⟩ := a
  unfold Dimpl_getter_number_2 at h
  refine x_frk 6 [] onil h (by kernel_rfl) (fun h => ?_) (fun h => ?_)
  · obtain ⟨v2, hv2, h⟩ := bind_some h
    obtain ⟨v3, hv3, h⟩ := bind_some h
    exact x_to 36 [(13, .val (.cptr (eU8.c v2 ++ (eU8).f ((b1000_0).drop (Int.toNat (w64 (b1000_1 + t33)) + 1))))), (5, .val (i64 v3))] (ocons (ix eU8 hv2) (ocons (shLOk (k' := .u64) hv3) onil)) (hrec0 (bOr .i64 t5 v3, w64 (t33 + 1)) r h) (by kernel_rfl)
  · replace h := Option.some.inj h; subst h
    exact x_end 18 [] [] onil onil (by kernel_rfl)
def Dimpl_getter_number_1 (n : Nat) (t1 : Int) (t25 : Bool) (b1000_0 : List Int) (b1000_1 b1000_2 b1000_3 b1000_4 : Int) : Option (Int × ((List Int) × Int × Int × Int × Int)) :=
  frk t25 ((Dimpl_getter_fail (b1000_0, b1000_1, b1000_2, b1000_3, b1000_4) 21 b1000_1).bind fun v1 => some (0, v1)) (loopN (Dimpl_getter_number_2 n t1 t1 b1000_0 b1000_1 b1000_2 b1000_3 b1000_4) n (0, 0))
theorem Timpl_getter_number_1 {Y} (n : Nat) (t1 : Int) (t25 : Bool) (b1000_0 : List Int) (b1000_1 b1000_2 b1000_3 b1000_4 : Int) (r : (Int × ((List Int) × Int × Int × Int × Int))) (h : Dimpl_getter_number_1 n t1 t25 b1000_0 b1000_1 b1000_2 b1000_3 b1000_4 = some r) : Wk Try.prog H Y 42 [.code (cp [1, 0, 1] (bodyOf Try.f42)), .code (cp [1, 1] (bodyOf Try.f42))] (FinX Try.prog Try.f42 [(1000, ⟨true, 0, [.bad, .bad, .bad, .bad, .bad]⟩)] (i64 r.1) [(1000, ⟨true, 0, [.sl false 1 r.2.1.length ((eU8).f r.2.1), i64 r.2.2.1, i64 r.2.2.2.1, i64 r.2.2.2.2.1, i64 r.2.2.2.2.2]⟩)]) ⟨[(0, .ptr 1000 0), (1, i64 t1), (25, bl t25)], [(1000, ⟨true, 0, [.sl false 1 b1000_0.length ((eU8).f b1000_0), i64 b1000_1, i64 b1000_2, i64 b1000_3, i64 b1000_4]⟩)]⟩ := by
  unfold Dimpl_getter_number_1 at h
  refine x_frk 0 [] onil h (by kernel_rfl) (fun h => ?_) (fun h => ?_)
  · obtain ⟨v1, hv1, h⟩ := bind_some h
    replace h := Option.some.inj h; subst h
    exact x_end 13 [(5, .call [] [] (.tup []) [(1000, ⟨true, 0, [.sl false 1 v1.1.length ((eU8).f v1.1), i64 v1.2.1, i64 v1.2.2.1, i64 v1.2.2.2.1, i64 v1.2.2.2.2]⟩)])] [] (ocons (Timpl_getter_fail (Y := Y) (b1000_0, b1000_1, b1000_2, b1000_3, b1000_4) 21 b1000_1 _ hv1) onil) onil (by kernel_rfl)
  · exact x_to 12 [] onil (Timpl_getter_number_2 n t1 t1 b1000_0 b1000_1 b1000_2 b1000_3 b1000_4 n (0, 0) r h) (by kernel_rfl)
def Dimpl_getter_number (n : Nat) (a0 : ((List Int) × Int × Int × Int × Int)) (a1 : Int) : Option (Int × ((List Int) × Int × Int × Int × Int)) :=
  frk (a0.2.2.2.1 != 0) (Dimpl_getter_number_0 n a0.1 a0.2.1 a0.2.2.1 a0.2.2.2.1 a0.2.2.2.2) (Dimpl_getter_number_1 n a1 (decide (a1 > (w64 ((a0.1.length : Int) - a0.2.1)))) a0.1 a0.2.1 a0.2.2.1 a0.2.2.2.1 a0.2.2.2.2)
theorem Timpl_getter_number {Y} (n : Nat) (a0 : ((List Int) × Int × Int × Int × Int)) (a1 : Int) (r : (Int × ((List Int) × Int × Int × Int × Int))) (h : Dimpl_getter_number n a0 a1 = some r) : Big Try.prog H Y (.call 42 [.ptr 1000 0, i64 a1] (lk [(1000, ⟨true, 0, [.sl false 1 a0.1.length ((eU8).f a0.1), i64 a0.2.1, i64 a0.2.2.1, i64 a0.2.2.2.1, i64 a0.2.2.2.2]⟩)]) (i64 r.1) (lk [(1000, ⟨true, 0, [.sl false 1 r.2.1.length ((eU8).f r.2.1), i64 r.2.2.1, i64 r.2.2.2.1, i64 r.2.2.2.2.1, i64 r.2.2.2.2.2]⟩)])) := by
  unfold Dimpl_getter_number at h
  refine x_call (fn := Try.f42) (c := bodyOf Try.f42) (bs0 := [(1000, ⟨true, 0, [.bad, .bad, .bad, .bad, .bad]⟩)]) Try.func42 (by kernel_rfl) (by kernel_rfl) ?_
  refine x_frk 13 [] onil h (by kernel_rfl) (fun h => ?_) (fun h => ?_)
  · exact x_to 16 [] onil (Timpl_getter_number_0 n a0.1 a0.2.1 a0.2.2.1 a0.2.2.2.1 a0.2.2.2.2 r h) (by kernel_rfl)
  · exact x_to 14 [] onil (Timpl_getter_number_1 n a1 (decide (a1 > (w64 ((a0.1.length : Int) - a0.2.1)))) a0.1 a0.2.1 a0.2.2.1 a0.2.2.2.1 a0.2.2.2.2 r h) (by kernel_rfl)
/-! impl.Leaf -/
def Dimpl_Leaf (a0 : Bool) : Option Sol :=
  some (Sol.mk a0 (Pl.mk 0 0 0 0) [])
theorem Timpl_Leaf {Y} (a0 : Bool) (r : Sol) (h : Dimpl_Leaf a0 = some r) : Big Try.prog H Y (.call 57 [bl a0] (lk []) (.agg [bl r.inn, i64 r.pl.A, i64 r.pl.B, i64 r.pl.C, i64 r.pl.D, .sl true 6 r.kids.length ((eSol true).f r.kids)]) (lk [])) := by
  unfold Dimpl_Leaf at h
  refine x_call (fn := Try.f57) (c := bodyOf Try.f57) (bs0 := []) Try.func57 (by kernel_rfl) (by kernel_rfl) ?_
  replace h := Option.some.inj h; subst h
  exact x_end 10 [] [(true, 6)] onil onil (by kernel_rfl)
/-! impl.node -/
def Dimpl_nodeo1o2 (a0 : Pl) (a1 : Sol) (a2 : Sol) : Option Sol :=
  some (Sol.mk false a0 [a1, a2])
theorem Timpl_nodeo1o2 {Y} (a0 : Pl) (a1 : Sol) (a2 : Sol) (r : Sol) (h : Dimpl_nodeo1o2 a0 a1 a2 = some r) : Big Try.prog H Y (.call 90 [.agg [i64 a0.A, i64 a0.B, i64 a0.C, i64 a0.D], .agg [bl a1.inn, i64 a1.pl.A, i64 a1.pl.B, i64 a1.pl.C, i64 a1.pl.D, .sl true 6 a1.kids.length ((eSol true).f a1.kids)], .agg [bl a2.inn, i64 a2.pl.A, i64 a2.pl.B, i64 a2.pl.C, i64 a2.pl.D, .sl true 6 a2.kids.length ((eSol true).f a2.kids)]] (lk []) (.agg [bl r.inn, i64 r.pl.A, i64 r.pl.B, i64 r.pl.C, i64 r.pl.D, .sl true 6 r.kids.length ((eSol true).f r.kids)]) (lk [])) := by
  unfold Dimpl_nodeo1o2 at h
  refine x_call (fn := Try.f90) (c := bodyOf Try.f90) (bs0 := []) Try.func90 (by kernel_rfl) (by kernel_rfl) ?_
  replace h := Option.some.inj h; subst h
  exact x_end 17 [(8, .fixb 10 ⟨true, 6, (eSol true).f [a1, a2]⟩)] [] (ocons (boxSol true true [a1, a2]) onil) (ocons (len_row (L := [a1, a2]) (eSol true)) onil) (by kernel_rfl)
/-! impl.getter).tree -/
def Dimpl_getter_tree_0 (_n : Nat) (_self : (((List Int) × Int × Int × Int × Int) × Int) → Option (Sol × ((List Int) × Int × Int × Int × Int))) (t5 : Int) (_b4_0 : Bool) (_b4_1 _b4_2 _b4_3 _b4_4 : Int) (b1000_0 : List Int) (b1000_1 b1000_2 b1000_3 b1000_4 : Int) : Option (Sol × ((List Int) × Int × Int × Int × Int)) :=
  (Dimpl_getter_fail (b1000_0, b1000_1, b1000_2, b1000_3, b1000_4) 22 t5).bind fun v2 => some ((Sol.mk false (Pl.mk 0 0 0 0) []), v2)
theorem Timpl_getter_tree_0 {Y} (n : Nat) (self : (((List Int) × Int × Int × Int × Int) × Int) → Option (Sol × ((List Int) × Int × Int × Int × Int))) (_hself : ∀ (a : (((List Int) × Int × Int × Int × Int) × Int)) (r : (Sol × ((List Int) × Int × Int × Int × Int))), self a = some r → Big Try.prog H Y (.call 41 [.ptr 1000 0, i64 a.2] (lk [(1000, ⟨true, 0, [.sl false 1 a.1.1.length ((eU8).f a.1.1), i64 a.1.2.1, i64 a.1.2.2.1, i64 a.1.2.2.2.1, i64 a.1.2.2.2.2]⟩)]) (.agg [bl r.1.inn, i64 r.1.pl.A, i64 r.1.pl.B, i64 r.1.pl.C, i64 r.1.pl.D, .sl true 6 r.1.kids.length ((eSol true).f r.1.kids)]) (lk [(1000, ⟨true, 0, [.sl false 1 r.2.1.length ((eU8).f r.2.1), i64 r.2.2.1, i64 r.2.2.2.1, i64 r.2.2.2.2.1, i64 r.2.2.2.2.2]⟩)]))) (t5 : Int) (b4_0 : Bool) (b4_1 b4_2 b4_3 b4_4 : Int) (b1000_0 : List Int) (b1000_1 b1000_2 b1000_3 b1000_4 : Int) (r : (Sol × ((List Int) × Int × Int × Int × Int))) (h : Dimpl_getter_tree_0 n self t5 b4_0 b4_1 b4_2 b4_3 b4_4 b1000_0 b1000_1 b1000_2 b1000_3 b1000_4 = some r) : Wk Try.prog H Y 41 [.code (cp [1, 1, 1, 1, 1, 1, 0, 1, 0, 0] (bodyOf Try.f41)), .code (cp [1, 1, 1, 1, 1, 1, 0, 1, 0, 1] (bodyOf Try.f41)), .code (cp [1, 1, 1, 1, 1, 1, 1] (bodyOf Try.f41))] (FinX Try.prog Try.f41 [(1000, ⟨true, 0, [.bad, .bad, .bad, .bad, .bad]⟩)] (.agg [bl r.1.inn, i64 r.1.pl.A, i64 r.1.pl.B, i64 r.1.pl.C, i64 r.1.pl.D, .sl true 6 r.1.kids.length ((eSol true).f r.1.kids)]) [(1000, ⟨true, 0, [.sl false 1 r.2.1.length ((eU8).f r.2.1), i64 r.2.2.1, i64 r.2.2.2.1, i64 r.2.2.2.2.1, i64 r.2.2.2.2.2]⟩)]) ⟨[(0, .ptr 1000 0), (4, .ptr 4 0), (5, i64 t5)], [(4, ⟨true, 0, [bl b4_0, i64 b4_1, i64 b4_2, i64 b4_3, i64 b4_4, .nil]⟩), (1000, ⟨true, 0, [.sl false 1 b1000_0.length ((eU8).f b1000_0), i64 b1000_1, i64 b1000_2, i64 b1000_3, i64 b1000_4]⟩)]⟩ := by
  unfold Dimpl_getter_tree_0 at h
  obtain ⟨v2, hv2, h⟩ := bind_some h
  replace h := Option.some.inj h; subst h
  exact x_end 10 [(2, .call [] [] (.tup []) [(1000, ⟨true, 0, [.sl false 1 v2.1.length ((eU8).f v2.1), i64 v2.2.1, i64 v2.2.2.1, i64 v2.2.2.2.1, i64 v2.2.2.2.2]⟩)])] [(true, 6)] (ocons (Timpl_getter_fail (Y := Y) (b1000_0, b1000_1, b1000_2, b1000_3, b1000_4) 22 t5 _ hv2) onil) onil (by kernel_rfl)
def Dimpl_getter_tree_1 (n : Nat) (self : (((List Int) × Int × Int × Int × Int) × Int) → Option (Sol × ((List Int) × Int × Int × Int × Int))) (t1 t5 : Int) (t46 _b4_0 : Bool) (_b4_1 _b4_2 _b4_3 _b4_4 : Int) (b1000_0 : List Int) (b1000_1 b1000_2 b1000_3 b1000_4 : Int) : Option (Sol × ((List Int) × Int × Int × Int × Int)) :=
  frk t46 ((Dimpl_getter_fail (b1000_0, b1000_1, b1000_2, b1000_3, b1000_4) 22 t5).bind fun v3 => some ((Sol.mk false (Pl.mk 0 0 0 0) []), v3)) ((Dimpl_getter_number n (b1000_0, b1000_1, b1000_2, b1000_3, b1000_4) 2).bind fun v4 => (Dimpl_getter_number n v4.2 2).bind fun v5 => (Dimpl_getter_number n v5.2 2).bind fun v6 => (Dimpl_getter_number n v6.2 2).bind fun v7 => (self (v7.2, w64 (t1 + 1))).bind fun v8 => (self (v8.2, w64 (t1 + 1))).bind fun v9 => (Dimpl_nodeo1o2 (Pl.mk (w64 (v4.1 - 500)) (w64 (v5.1 - 500)) (w64 (v6.1 - 500)) (w64 (v7.1 - 500))) v8.1 v9.1).bind fun v10 => some (v10, v9.2))
theorem Timpl_getter_tree_1 {Y} (n : Nat) (self : (((List Int) × Int × Int × Int × Int) × Int) → Option (Sol × ((List Int) × Int × Int × Int × Int))) (hself : ∀ (a : (((List Int) × Int × Int × Int × Int) × Int)) (r : (Sol × ((List Int) × Int × Int × Int × Int))), self a = some r → Big Try.prog H Y (.call 41 [.ptr 1000 0, i64 a.2] (lk [(1000, ⟨true, 0, [.sl false 1 a.1.1.length ((eU8).f a.1.1), i64 a.1.2.1, i64 a.1.2.2.1, i64 a.1.2.2.2.1, i64 a.1.2.2.2.2]⟩)]) (.agg [bl r.1.inn, i64 r.1.pl.A, i64 r.1.pl.B, i64 r.1.pl.C, i64 r.1.pl.D, .sl true 6 r.1.kids.length ((eSol true).f r.1.kids)]) (lk [(1000, ⟨true, 0, [.sl false 1 r.2.1.length ((eU8).f r.2.1), i64 r.2.2.1, i64 r.2.2.2.1, i64 r.2.2.2.2.1, i64 r.2.2.2.2.2]⟩)]))) (t1 t5 : Int) (t46 b4_0 : Bool) (b4_1 b4_2 b4_3 b4_4 : Int) (b1000_0 : List Int) (b1000_1 b1000_2 b1000_3 b1000_4 : Int) (r : (Sol × ((List Int) × Int × Int × Int × Int))) (h : Dimpl_getter_tree_1 n self t1 t5 t46 b4_0 b4_1 b4_2 b4_3 b4_4 b1000_0 b1000_1 b1000_2 b1000_3 b1000_4 = some r) : Wk Try.prog H Y 41 [.code (cp [1, 1, 1, 1, 1, 1, 0, 1] (bodyOf Try.f41)), .code (cp [1, 1, 1, 1, 1, 1, 1] (bodyOf Try.f41))] (FinX Try.prog Try.f41 [(1000, ⟨true, 0, [.bad, .bad, .bad, .bad, .bad]⟩)] (.agg [bl r.1.inn, i64 r.1.pl.A, i64 r.1.pl.B, i64 r.1.pl.C, i64 r.1.pl.D, .sl true 6 r.1.kids.length ((eSol true).f r.1.kids)]) [(1000, ⟨true, 0, [.sl false 1 r.2.1.length ((eU8).f r.2.1), i64 r.2.2.1, i64 r.2.2.2.1, i64 r.2.2.2.2.1, i64 r.2.2.2.2.2]⟩)]) ⟨[(0, .ptr 1000 0), (1, i64 t1), (4, .ptr 4 0), (5, i64 t5), (46, bl t46)], [(4, ⟨true, 0, [bl b4_0, i64 b4_1, i64 b4_2, i64 b4_3, i64 b4_4, .nil]⟩), (1000, ⟨true, 0, [.sl false 1 b1000_0.length ((eU8).f b1000_0), i64 b1000_1, i64 b1000_2, i64 b1000_3, i64 b1000_4]⟩)]⟩ := by
  unfold Dimpl_getter_tree_1 at h
  refine x_frk 0 [] onil h (by kernel_rfl) (fun h => ?_) (fun h => ?_)
  · obtain ⟨v3, hv3, h⟩ := bind_some h
    replace h := Option.some.inj h; subst h
    exact x_end 11 [(2, .call [] [] (.tup []) [(1000, ⟨true, 0, [.sl false 1 v3.1.length ((eU8).f v3.1), i64 v3.2.1, i64 v3.2.2.1, i64 v3.2.2.2.1, i64 v3.2.2.2.2]⟩)])] [(true, 6)] (ocons (Timpl_getter_fail (Y := Y) (b1000_0, b1000_1, b1000_2, b1000_3, b1000_4) 22 t5 _ hv3) onil) onil (by kernel_rfl)
  · obtain ⟨v4, hv4, h⟩ := bind_some h
    obtain ⟨v5, hv5, h⟩ := bind_some h
    obtain ⟨v6, hv6, h⟩ := bind_some h
    obtain ⟨v7, hv7, h⟩ := bind_some h
    obtain ⟨v8, hv8, h⟩ := bind_some h
    obtain ⟨v9, hv9, h⟩ := bind_some h
    obtain ⟨v10, hv10, h⟩ := bind_some h
    replace h := Option.some.inj h; subst h
    exact x_end 60 [(1, .call [] [] (i64 v4.1) [(1000, ⟨true, 0, [.sl false 1 v4.2.1.length ((eU8).f v4.2.1), i64 v4.2.2.1, i64 v4.2.2.2.1, i64 v4.2.2.2.2.1, i64 v4.2.2.2.2.2]⟩)]), (5, .call [] [] (i64 v5.1) [(1000, ⟨true, 0, [.sl false 1 v5.2.1.length ((eU8).f v5.2.1), i64 v5.2.2.1, i64 v5.2.2.2.1, i64 v5.2.2.2.2.1, i64 v5.2.2.2.2.2]⟩)]), (4, .call [] [] (i64 v6.1) [(1000, ⟨true, 0, [.sl false 1 v6.2.1.length ((eU8).f v6.2.1), i64 v6.2.2.1, i64 v6.2.2.2.1, i64 v6.2.2.2.2.1, i64 v6.2.2.2.2.2]⟩)]), (4, .call [] [] (i64 v7.1) [(1000, ⟨true, 0, [.sl false 1 v7.2.1.length ((eU8).f v7.2.1), i64 v7.2.2.1, i64 v7.2.2.2.1, i64 v7.2.2.2.2.1, i64 v7.2.2.2.2.2]⟩)]), (6, .call [] [] (.agg [bl v8.1.inn, i64 v8.1.pl.A, i64 v8.1.pl.B, i64 v8.1.pl.C, i64 v8.1.pl.D, .sl true 6 v8.1.kids.length ((eSol true).f v8.1.kids)]) [(1000, ⟨true, 0, [.sl false 1 v8.2.1.length ((eU8).f v8.2.1), i64 v8.2.2.1, i64 v8.2.2.2.1, i64 v8.2.2.2.2.1, i64 v8.2.2.2.2.2]⟩)]), (5, .call [] [] (.agg [bl v9.1.inn, i64 v9.1.pl.A, i64 v9.1.pl.B, i64 v9.1.pl.C, i64 v9.1.pl.D, .sl true 6 v9.1.kids.length ((eSol true).f v9.1.kids)]) [(1000, ⟨true, 0, [.sl false 1 v9.2.1.length ((eU8).f v9.2.1), i64 v9.2.2.1, i64 v9.2.2.2.1, i64 v9.2.2.2.2.1, i64 v9.2.2.2.2.2]⟩)]), (5, .call [] [] (.agg [bl v10.inn, i64 v10.pl.A, i64 v10.pl.B, i64 v10.pl.C, i64 v10.pl.D, .sl true 6 v10.kids.length ((eSol true).f v10.kids)]) [])] [] (ocons (Timpl_getter_number (Y := Y) n (b1000_0, b1000_1, b1000_2, b1000_3, b1000_4) 2 _ hv4) (ocons (Timpl_getter_number (Y := Y) n v4.2 2 _ hv5) (ocons (Timpl_getter_number (Y := Y) n v5.2 2 _ hv6) (ocons (Timpl_getter_number (Y := Y) n v6.2 2 _ hv7) (ocons (hself (v7.2, w64 (t1 + 1)) _ hv8) (ocons (hself (v8.2, w64 (t1 + 1)) _ hv9) (ocons (Timpl_nodeo1o2 (Y := Y) (Pl.mk (w64 (v4.1 - 500)) (w64 (v5.1 - 500)) (w64 (v6.1 - 500)) (w64 (v7.1 - 500))) v8.1 v9.1 _ hv10) onil))))))) onil (by kernel_rfl)
def Dimpl_getter_tree_b (n : Nat) (self : (((List Int) × Int × Int × Int × Int) × Int) → Option (Sol × ((List Int) × Int × Int × Int × Int))) (a : (((List Int) × Int × Int × Int × Int) × Int)) : Option (Sol × ((List Int) × Int × Int × Int × Int)) :=
  match a with
  | (a0, a1) => (Dimpl_getter_number n a0 1).bind fun v0 => frk (v0.2.2.2.2.1 != 0) (some ((Sol.mk false (Pl.mk 0 0 0 0) []), v0.2)) (frk (decide (v0.1 < 2)) ((Dimpl_Leaf (v0.1 == 1)).bind fun v1 => some (v1, v0.2)) (frk (decide (v0.1 > 2)) (Dimpl_getter_tree_0 n self a0.2.1 false 0 0 0 0 v0.2.1 v0.2.2.1 (w64 (v0.2.2.2.1 + 1)) v0.2.2.2.2.1 v0.2.2.2.2.2) (frk (decide (a1 ≥ 24)) (Dimpl_getter_tree_0 n self a0.2.1 false 0 0 0 0 v0.2.1 v0.2.2.1 (w64 (v0.2.2.2.1 + 1)) v0.2.2.2.2.1 v0.2.2.2.2.2) (Dimpl_getter_tree_1 n self a1 a0.2.1 (decide ((w64 (v0.2.2.2.1 + 1)) > 300)) false 0 0 0 0 v0.2.1 v0.2.2.1 (w64 (v0.2.2.2.1 + 1)) v0.2.2.2.2.1 v0.2.2.2.2.2))))
def Dimpl_getter_tree (n : Nat) (a0 : ((List Int) × Int × Int × Int × Int)) (a1 : Int) : Option (Sol × ((List Int) × Int × Int × Int × Int)) := loopN (Dimpl_getter_tree_b n) n (a0, a1)
theorem Timpl_getter_tree_b {Y} (n : Nat) : ∀ (m : Nat) (a : (((List Int) × Int × Int × Int × Int) × Int)) (r : (Sol × ((List Int) × Int × Int × Int × Int))), loopN (Dimpl_getter_tree_b n) m a = some r → ∀ (_ : Unit), Big Try.prog H Y (.call 41 [.ptr 1000 0, i64 a.2] (lk [(1000, ⟨true, 0, [.sl false 1 a.1.1.length ((eU8).f a.1.1), i64 a.1.2.1, i64 a.1.2.2.1, i64 a.1.2.2.2.1, i64 a.1.2.2.2.2]⟩)]) (.agg [bl r.1.inn, i64 r.1.pl.A, i64 r.1.pl.B, i64 r.1.pl.C, i64 r.1.pl.D, .sl true 6 r.1.kids.length ((eSol true).f r.1.kids)]) (lk [(1000, ⟨true, 0, [.sl false 1 r.2.1.length ((eU8).f r.2.1), i64 r.2.2.1, i64 r.2.2.2.1, i64 r.2.2.2.2.1, i64 r.2.2.2.2.2]⟩)])) := by
  refine loopN_ind (fun self hs a r h => ?_)
  have hself : ∀ (a : (((List Int) × Int × Int × Int × Int) × Int)) (r : (Sol × ((List Int) × Int × Int × Int × Int))), self a = some r → Big Try.prog H Y (.call 41 [.ptr 1000 0, i64 a.2] (lk [(1000, ⟨true, 0, [.sl false 1 a.1.1.length ((eU8).f a.1.1), i64 a.1.2.1, i64 a.1.2.2.1, i64 a.1.2.2.2.1, i64 a.1.2.2.2.2]⟩)]) (.agg [bl r.1.inn, i64 r.1.pl.A, i64 r.1.pl.B, i64 r.1.pl.C, i64 r.1.pl.D, .sl true 6 r.1.kids.length ((eSol true).f r.1.kids)]) (lk [(1000, ⟨true, 0, [.sl false 1 r.2.1.length ((eU8).f r.2.1), i64 r.2.2.1, i64 r.2.2.2.1, i64 r.2.2.2.2.1, i64 r.2.2.2.2.2]⟩)])) := fun a r h => hs a r h ()
  intro _
  obtain ⟨a0, a1⟩ := a
  unfold Dimpl_getter_tree_b at h
  refine x_call (fn := Try.f41) (c := bodyOf Try.f41) (bs0 := [(1000, ⟨true, 0, [.bad, .bad, .bad, .bad, .bad]⟩)]) Try.func41 (by kernel_rfl) (by kernel_rfl) ?_
  obtain ⟨v0, hv0, h⟩ := bind_some h
  refine x_frk 27 [(7, .call [] [] (i64 v0.1) [(1000, ⟨true, 0, [.sl false 1 v0.2.1.length ((eU8).f v0.2.1), i64 v0.2.2.1, i64 v0.2.2.2.1, i64 v0.2.2.2.2.1, i64 v0.2.2.2.2.2]⟩)])] (ocons (Timpl_getter_number (Y := Y) n a0 1 _ hv0) onil) h (by kernel_rfl) (fun h => ?_) (fun h => ?_)
  · replace h := Option.some.inj h; subst h
    exact x_end 5 [] [(true, 6)] onil onil (by kernel_rfl)
  · refine x_frk 7 [] onil h (by kernel_rfl) (fun h => ?_) (fun h => ?_)
    · obtain ⟨v1, hv1, h⟩ := bind_some h
      replace h := Option.some.inj h; subst h
      exact x_end 7 [(2, .call [] [] (.agg [bl v1.inn, i64 v1.pl.A, i64 v1.pl.B, i64 v1.pl.C, i64 v1.pl.D, .sl true 6 v1.kids.length ((eSol true).f v1.kids)]) [])] [] (ocons (Timpl_Leaf (Y := Y) (v0.1 == 1) _ hv1) onil) onil (by kernel_rfl)
    · refine x_frk 18 [] onil h (by kernel_rfl) (fun h => ?_) (fun h => ?_)
      · exact x_to 13 [] onil (Timpl_getter_tree_0 n self hself a0.2.1 false 0 0 0 0 v0.2.1 v0.2.2.1 (w64 (v0.2.2.2.1 + 1)) v0.2.2.2.2.1 v0.2.2.2.2.2 r h) (by kernel_rfl)
      · refine x_frk 4 [] onil h (by kernel_rfl) (fun h => ?_) (fun h => ?_)
        · exact x_to 9 [] onil (Timpl_getter_tree_0 n self hself a0.2.1 false 0 0 0 0 v0.2.1 v0.2.2.1 (w64 (v0.2.2.2.1 + 1)) v0.2.2.2.2.1 v0.2.2.2.2.2 r h) (by kernel_rfl)
        · exact x_to 7 [] onil (Timpl_getter_tree_1 n self hself a1 a0.2.1 (decide ((w64 (v0.2.2.2.1 + 1)) > 300)) false 0 0 0 0 v0.2.1 v0.2.2.1 (w64 (v0.2.2.2.1 + 1)) v0.2.2.2.2.1 v0.2.2.2.2.2 r h) (by kernel_rfl)
theorem Timpl_getter_tree {Y} (n : Nat) (a0 : ((List Int) × Int × Int × Int × Int)) (a1 : Int) (r : (Sol × ((List Int) × Int × Int × Int × Int))) (h : Dimpl_getter_tree n a0 a1 = some r) : Big Try.prog H Y (.call 41 [.ptr 1000 0, i64 a1] (lk [(1000, ⟨true, 0, [.sl false 1 a0.1.length ((eU8).f a0.1), i64 a0.2.1, i64 a0.2.2.1, i64 a0.2.2.2.1, i64 a0.2.2.2.2]⟩)]) (.agg [bl r.1.inn, i64 r.1.pl.A, i64 r.1.pl.B, i64 r.1.pl.C, i64 r.1.pl.D, .sl true 6 r.1.kids.length ((eSol true).f r.1.kids)]) (lk [(1000, ⟨true, 0, [.sl false 1 r.2.1.length ((eU8).f r.2.1), i64 r.2.2.1, i64 r.2.2.2.1, i64 r.2.2.2.2.1, i64 r.2.2.2.2.2]⟩)])) := Timpl_getter_tree_b n n (a0, a1) r h ()
/-! impl.GetSolid -/
def Dimpl_GetSolid_6 (_n : Nat) (t77 _b2_0 : Bool) (_b2_1 _b2_2 _b2_3 _b2_4 : Int) (_b5_0 : List Int) (_b5_1 _b5_2 b5_3 b5_4 : Int) (b6_0 : Bool) (b6_1 b6_2 b6_3 b6_4 : Int) (b6_5 : List Sol) : Option (Sol × Int × Int) :=
  frk t77 (some ((Sol.mk false (Pl.mk 0 0 0 0) []), b5_3, b5_4)) (some ((Sol.mk b6_0 (Pl.mk b6_1 b6_2 b6_3 b6_4) b6_5), 0, 0))
theorem Timpl_GetSolid_6 {Y} (n : Nat) (t77 b2_0 : Bool) (b2_1 b2_2 b2_3 b2_4 : Int) (b5_0 : List Int) (b5_1 b5_2 b5_3 b5_4 : Int) (b6_0 : Bool) (b6_1 b6_2 b6_3 b6_4 : Int) (b6_5 : List Sol) (r : (Sol × Int × Int)) (h : Dimpl_GetSolid_6 n t77 b2_0 b2_1 b2_2 b2_3 b2_4 b5_0 b5_1 b5_2 b5_3 b5_4 b6_0 b6_1 b6_2 b6_3 b6_4 b6_5 = some r) : Wk Try.prog H Y 10 [.code (cp [1, 1, 1, 1, 1, 1, 1, 1, 1, 0, 1] (bodyOf Try.f10)), .code (cp [1, 1, 1, 1, 1, 1, 1, 1, 1, 1] (bodyOf Try.f10))] (FinX Try.prog Try.f10 [] (.tup [.agg [bl r.1.inn, i64 r.1.pl.A, i64 r.1.pl.B, i64 r.1.pl.C, i64 r.1.pl.D, .sl true 6 r.1.kids.length ((eSol true).f r.1.kids)], i64 r.2.1, i64 r.2.2]) []) ⟨[(2, .ptr 2 0), (5, .ptr 5 0), (6, .ptr 6 0), (77, bl t77)], [(2, ⟨true, 0, [bl b2_0, i64 b2_1, i64 b2_2, i64 b2_3, i64 b2_4, .nil]⟩), (5, ⟨true, 0, [.sl false 1 b5_0.length ((eU8).f b5_0), i64 b5_1, i64 b5_2, i64 b5_3, i64 b5_4]⟩), (6, ⟨true, 0, [bl b6_0, i64 b6_1, i64 b6_2, i64 b6_3, i64 b6_4, .sl true 6 b6_5.length ((eSol true).f b6_5)]⟩)]⟩ := by
  unfold Dimpl_GetSolid_6 at h
  refine x_frk 0 [] onil h (by kernel_rfl) (fun h => ?_) (fun h => ?_)
  · replace h := Option.some.inj h; subst h
    exact x_end 11 [] [(true, 6)] onil onil (by kernel_rfl)
  · replace h := Option.some.inj h; subst h
    exact x_end 8 [] [] onil onil (by kernel_rfl)
def Dimpl_GetSolid_5 (n : Nat) (t73 b2_0 : Bool) (b2_1 b2_2 b2_3 b2_4 : Int) (b5_0 : List Int) (b5_1 b5_2 b5_3 b5_4 : Int) (b6_0 : Bool) (b6_1 b6_2 b6_3 b6_4 : Int) (b6_5 : List Sol) : Option (Sol × Int × Int) :=
  frk t73 ((Dimpl_getter_fail (b5_0, b5_1, b5_2, b5_3, b5_4) 24 0).bind fun v9 => Dimpl_GetSolid_6 n (v9.2.2.2.1 != 0) b2_0 b2_1 b2_2 b2_3 b2_4 v9.1 v9.2.1 v9.2.2.1 v9.2.2.2.1 v9.2.2.2.2 b6_0 b6_1 b6_2 b6_3 b6_4 b6_5) (Dimpl_GetSolid_6 n (b5_3 != 0) b2_0 b2_1 b2_2 b2_3 b2_4 b5_0 b5_1 b5_2 b5_3 b5_4 b6_0 b6_1 b6_2 b6_3 b6_4 b6_5)
theorem Timpl_GetSolid_5 {Y} (n : Nat) (t73 b2_0 : Bool) (b2_1 b2_2 b2_3 b2_4 : Int) (b5_0 : List Int) (b5_1 b5_2 b5_3 b5_4 : Int) (b6_0 : Bool) (b6_1 b6_2 b6_3 b6_4 : Int) (b6_5 : List Sol) (r : (Sol × Int × Int)) (h : Dimpl_GetSolid_5 n t73 b2_0 b2_1 b2_2 b2_3 b2_4 b5_0 b5_1 b5_2 b5_3 b5_4 b6_0 b6_1 b6_2 b6_3 b6_4 b6_5 = some r) : Wk Try.prog H Y 10 [.code (cp [1, 1, 1, 1, 1, 1, 1, 1, 0, 1] (bodyOf Try.f10)), .code (cp [1, 1, 1, 1, 1, 1, 1, 1, 1] (bodyOf Try.f10))] (FinX Try.prog Try.f10 [] (.tup [.agg [bl r.1.inn, i64 r.1.pl.A, i64 r.1.pl.B, i64 r.1.pl.C, i64 r.1.pl.D, .sl true 6 r.1.kids.length ((eSol true).f r.1.kids)], i64 r.2.1, i64 r.2.2]) []) ⟨[(2, .ptr 2 0), (5, .ptr 5 0), (6, .ptr 6 0), (73, bl t73)], [(2, ⟨true, 0, [bl b2_0, i64 b2_1, i64 b2_2, i64 b2_3, i64 b2_4, .nil]⟩), (5, ⟨true, 0, [.sl false 1 b5_0.length ((eU8).f b5_0), i64 b5_1, i64 b5_2, i64 b5_3, i64 b5_4]⟩), (6, ⟨true, 0, [bl b6_0, i64 b6_1, i64 b6_2, i64 b6_3, i64 b6_4, .sl true 6 b6_5.length ((eSol true).f b6_5)]⟩)]⟩ := by
  unfold Dimpl_GetSolid_5 at h
  refine x_frk 0 [] onil h (by kernel_rfl) (fun h => ?_) (fun h => ?_)
  · obtain ⟨v9, hv9, h⟩ := bind_some h
    exact x_to 10 [(0, .call [] [] (.tup []) [(1000, ⟨true, 0, [.sl false 1 v9.1.length ((eU8).f v9.1), i64 v9.2.1, i64 v9.2.2.1, i64 v9.2.2.2.1, i64 v9.2.2.2.2]⟩)])] (ocons (Timpl_getter_fail (Y := Y) (b5_0, b5_1, b5_2, b5_3, b5_4) 24 0 _ hv9) onil) (Timpl_GetSolid_6 n (v9.2.2.2.1 != 0) b2_0 b2_1 b2_2 b2_3 b2_4 v9.1 v9.2.1 v9.2.2.1 v9.2.2.2.1 v9.2.2.2.2 b6_0 b6_1 b6_2 b6_3 b6_4 b6_5 r h) (by kernel_rfl)
  · exact x_to 8 [] onil (Timpl_GetSolid_6 n (b5_3 != 0) b2_0 b2_1 b2_2 b2_3 b2_4 b5_0 b5_1 b5_2 b5_3 b5_4 b6_0 b6_1 b6_2 b6_3 b6_4 b6_5 r h) (by kernel_rfl)
def Dimpl_GetSolid_4 (n : Nat) (b2_0 : Bool) (b2_1 b2_2 b2_3 b2_4 : Int) (b5_0 : List Int) (b5_1 b5_2 b5_3 b5_4 : Int) (b6_0 : Bool) (b6_1 b6_2 b6_3 b6_4 : Int) (b6_5 : List Sol) : Option (Sol × Int × Int) :=
  frk (b5_3 == 0) ((Dimpl_SolidOk n (Sol.mk b6_0 (Pl.mk b6_1 b6_2 b6_3 b6_4) b6_5)).bind fun v8 => Dimpl_GetSolid_5 n (!v8) b2_0 b2_1 b2_2 b2_3 b2_4 b5_0 b5_1 b5_2 b5_3 b5_4 b6_0 b6_1 b6_2 b6_3 b6_4 b6_5) (Dimpl_GetSolid_6 n (b5_3 != 0) b2_0 b2_1 b2_2 b2_3 b2_4 b5_0 b5_1 b5_2 b5_3 b5_4 b6_0 b6_1 b6_2 b6_3 b6_4 b6_5)
theorem Timpl_GetSolid_4 {Y} (n : Nat) (b2_0 : Bool) (b2_1 b2_2 b2_3 b2_4 : Int) (b5_0 : List Int) (b5_1 b5_2 b5_3 b5_4 : Int) (b6_0 : Bool) (b6_1 b6_2 b6_3 b6_4 : Int) (b6_5 : List Sol) (r : (Sol × Int × Int)) (h : Dimpl_GetSolid_4 n b2_0 b2_1 b2_2 b2_3 b2_4 b5_0 b5_1 b5_2 b5_3 b5_4 b6_0 b6_1 b6_2 b6_3 b6_4 b6_5 = some r) : Wk Try.prog H Y 10 [.code (cp [1, 1, 1, 1, 1, 1, 1, 1, 0, 0] (bodyOf Try.f10)), .code (cp [1, 1, 1, 1, 1, 1, 1, 1, 0, 1] (bodyOf Try.f10)), .code (cp [1, 1, 1, 1, 1, 1, 1, 1, 1] (bodyOf Try.f10))] (FinX Try.prog Try.f10 [] (.tup [.agg [bl r.1.inn, i64 r.1.pl.A, i64 r.1.pl.B, i64 r.1.pl.C, i64 r.1.pl.D, .sl true 6 r.1.kids.length ((eSol true).f r.1.kids)], i64 r.2.1, i64 r.2.2]) []) ⟨[(2, .ptr 2 0), (5, .ptr 5 0), (6, .ptr 6 0)], [(2, ⟨true, 0, [bl b2_0, i64 b2_1, i64 b2_2, i64 b2_3, i64 b2_4, .nil]⟩), (5, ⟨true, 0, [.sl false 1 b5_0.length ((eU8).f b5_0), i64 b5_1, i64 b5_2, i64 b5_3, i64 b5_4]⟩), (6, ⟨true, 0, [bl b6_0, i64 b6_1, i64 b6_2, i64 b6_3, i64 b6_4, .sl true 6 b6_5.length ((eSol true).f b6_5)]⟩)]⟩ := by
  unfold Dimpl_GetSolid_4 at h
  refine x_frk 5 [] onil h (by kernel_rfl) (fun h => ?_) (fun h => ?_)
  · obtain ⟨v8, hv8, h⟩ := bind_some h
    exact x_to 5 [(0, .rows [(eSol false).f b6_5]), (0, .call [] [] (bl v8) [])] (ocons (Enc.share (eSol true) (eSol false) (sSol true) b6_5) (ocons (Timpl_SolidOk (Y := Y) n (Sol.mk b6_0 (Pl.mk b6_1 b6_2 b6_3 b6_4) b6_5) _ hv8) onil)) (Timpl_GetSolid_5 n (!v8) b2_0 b2_1 b2_2 b2_3 b2_4 b5_0 b5_1 b5_2 b5_3 b5_4 b6_0 b6_1 b6_2 b6_3 b6_4 b6_5 r h) (by kernel_rfl)
  · exact x_to 14 [] onil (Timpl_GetSolid_6 n (b5_3 != 0) b2_0 b2_1 b2_2 b2_3 b2_4 b5_0 b5_1 b5_2 b5_3 b5_4 b6_0 b6_1 b6_2 b6_3 b6_4 b6_5 r h) (by kernel_rfl)
def Dimpl_GetSolid_3 (n : Nat) (t7 : Int) (t63 b2_0 : Bool) (b2_1 b2_2 b2_3 b2_4 : Int) (b5_0 : List Int) (b5_1 b5_2 b5_3 b5_4 : Int) (b6_0 : Bool) (b6_1 b6_2 b6_3 b6_4 : Int) (b6_5 : List Sol) : Option (Sol × Int × Int) :=
  frk t63 ((Dimpl_getter_fail (b5_0, b5_1, b5_2, b5_3, b5_4) 23 t7).bind fun v7 => Dimpl_GetSolid_4 n b2_0 b2_1 b2_2 b2_3 b2_4 v7.1 v7.2.1 v7.2.2.1 v7.2.2.2.1 v7.2.2.2.2 b6_0 b6_1 b6_2 b6_3 b6_4 b6_5) (Dimpl_GetSolid_4 n b2_0 b2_1 b2_2 b2_3 b2_4 b5_0 b5_1 b5_2 b5_3 b5_4 b6_0 b6_1 b6_2 b6_3 b6_4 b6_5)
theorem Timpl_GetSolid_3 {Y} (n : Nat) (t7 : Int) (t63 b2_0 : Bool) (b2_1 b2_2 b2_3 b2_4 : Int) (b5_0 : List Int) (b5_1 b5_2 b5_3 b5_4 : Int) (b6_0 : Bool) (b6_1 b6_2 b6_3 b6_4 : Int) (b6_5 : List Sol) (r : (Sol × Int × Int)) (h : Dimpl_GetSolid_3 n t7 t63 b2_0 b2_1 b2_2 b2_3 b2_4 b5_0 b5_1 b5_2 b5_3 b5_4 b6_0 b6_1 b6_2 b6_3 b6_4 b6_5 = some r) : Wk Try.prog H Y 10 [.code (cp [1, 1, 1, 1, 1, 1, 1, 0, 1, 1] (bodyOf Try.f10)), .code (cp [1, 1, 1, 1, 1, 1, 1, 1] (bodyOf Try.f10))] (FinX Try.prog Try.f10 [] (.tup [.agg [bl r.1.inn, i64 r.1.pl.A, i64 r.1.pl.B, i64 r.1.pl.C, i64 r.1.pl.D, .sl true 6 r.1.kids.length ((eSol true).f r.1.kids)], i64 r.2.1, i64 r.2.2]) []) ⟨[(2, .ptr 2 0), (5, .ptr 5 0), (6, .ptr 6 0), (7, i64 t7), (63, bl t63)], [(2, ⟨true, 0, [bl b2_0, i64 b2_1, i64 b2_2, i64 b2_3, i64 b2_4, .nil]⟩), (5, ⟨true, 0, [.sl false 1 b5_0.length ((eU8).f b5_0), i64 b5_1, i64 b5_2, i64 b5_3, i64 b5_4]⟩), (6, ⟨true, 0, [bl b6_0, i64 b6_1, i64 b6_2, i64 b6_3, i64 b6_4, .sl true 6 b6_5.length ((eSol true).f b6_5)]⟩)]⟩ := by
  unfold Dimpl_GetSolid_3 at h
  refine x_frk 0 [] onil h (by kernel_rfl) (fun h => ?_) (fun h => ?_)
  · obtain ⟨v7, hv7, h⟩ := bind_some h
    exact x_to 6 [(1, .call [] [] (.tup []) [(1000, ⟨true, 0, [.sl false 1 v7.1.length ((eU8).f v7.1), i64 v7.2.1, i64 v7.2.2.1, i64 v7.2.2.2.1, i64 v7.2.2.2.2]⟩)])] (ocons (Timpl_getter_fail (Y := Y) (b5_0, b5_1, b5_2, b5_3, b5_4) 23 t7 _ hv7) onil) (Timpl_GetSolid_4 n b2_0 b2_1 b2_2 b2_3 b2_4 v7.1 v7.2.1 v7.2.2.1 v7.2.2.2.1 v7.2.2.2.2 b6_0 b6_1 b6_2 b6_3 b6_4 b6_5 r h) (by kernel_rfl)
  · exact x_to 3 [] onil (Timpl_GetSolid_4 n b2_0 b2_1 b2_2 b2_3 b2_4 b5_0 b5_1 b5_2 b5_3 b5_4 b6_0 b6_1 b6_2 b6_3 b6_4 b6_5 r h) (by kernel_rfl)
def Dimpl_GetSolid_2 (n : Nat) (t0 : List Int) (t7 t8 : Int) (b2_0 : Bool) (b2_1 b2_2 b2_3 b2_4 : Int) (b5_0 : List Int) (b5_1 b5_2 b5_3 b5_4 : Int) (b6_0 : Bool) (b6_1 b6_2 b6_3 b6_4 : Int) (b6_5 : List Sol) : Option (Sol × Int × Int) :=
  (lsl t0 0 t7).bind fun v5 => (Dimpl_sums n v5).bind fun v6 => frk (b5_3 == 0) (Dimpl_GetSolid_3 n t7 (t8 != (bOr .i64 v6.1 (w64 (v6.2 * 65536)))) b2_0 b2_1 b2_2 b2_3 b2_4 b5_0 b5_1 b5_2 b5_3 b5_4 b6_0 b6_1 b6_2 b6_3 b6_4 b6_5) (Dimpl_GetSolid_4 n b2_0 b2_1 b2_2 b2_3 b2_4 b5_0 b5_1 b5_2 b5_3 b5_4 b6_0 b6_1 b6_2 b6_3 b6_4 b6_5)
theorem Timpl_GetSolid_2 {Y} (n : Nat) (t0 : List Int) (t7 t8 : Int) (b2_0 : Bool) (b2_1 b2_2 b2_3 b2_4 : Int) (b5_0 : List Int) (b5_1 b5_2 b5_3 b5_4 : Int) (b6_0 : Bool) (b6_1 b6_2 b6_3 b6_4 : Int) (b6_5 : List Sol) (r : (Sol × Int × Int)) (h : Dimpl_GetSolid_2 n t0 t7 t8 b2_0 b2_1 b2_2 b2_3 b2_4 b5_0 b5_1 b5_2 b5_3 b5_4 b6_0 b6_1 b6_2 b6_3 b6_4 b6_5 = some r) : Wk Try.prog H Y 10 [.code (cp [1, 1, 1, 1, 1, 1, 1, 0, 0] (bodyOf Try.f10)), .code (cp [1, 1, 1, 1, 1, 1, 1, 0, 1] (bodyOf Try.f10)), .code (cp [1, 1, 1, 1, 1, 1, 1, 1] (bodyOf Try.f10))] (FinX Try.prog Try.f10 [] (.tup [.agg [bl r.1.inn, i64 r.1.pl.A, i64 r.1.pl.B, i64 r.1.pl.C, i64 r.1.pl.D, .sl true 6 r.1.kids.length ((eSol true).f r.1.kids)], i64 r.2.1, i64 r.2.2]) []) ⟨[(0, .sl false 1 t0.length ((eU8).f t0)), (2, .ptr 2 0), (5, .ptr 5 0), (6, .ptr 6 0), (7, i64 t7), (8, i64 t8)], [(2, ⟨true, 0, [bl b2_0, i64 b2_1, i64 b2_2, i64 b2_3, i64 b2_4, .nil]⟩), (5, ⟨true, 0, [.sl false 1 b5_0.length ((eU8).f b5_0), i64 b5_1, i64 b5_2, i64 b5_3, i64 b5_4]⟩), (6, ⟨true, 0, [bl b6_0, i64 b6_1, i64 b6_2, i64 b6_3, i64 b6_4, .sl true 6 b6_5.length ((eSol true).f b6_5)]⟩)]⟩ := by
  unfold Dimpl_GetSolid_2 at h
  obtain ⟨v5, hv5, h⟩ := bind_some h
  obtain ⟨v6, hv6, h⟩ := bind_some h
  refine x_frk 17 [(2, .val (.sl false 1 v5.length ((eU8).f v5))), (0, .call [] [] (.tup [i64 v6.1, i64 v6.2]) [])] (ocons (slF eU8 hv5) (ocons (Timpl_sums (Y := Y) n v5 _ hv6) onil)) h (by kernel_rfl) (fun h => ?_) (fun h => ?_)
  · exact x_to 8 [] onil (Timpl_GetSolid_3 n t7 (t8 != (bOr .i64 v6.1 (w64 (v6.2 * 65536)))) b2_0 b2_1 b2_2 b2_3 b2_4 b5_0 b5_1 b5_2 b5_3 b5_4 b6_0 b6_1 b6_2 b6_3 b6_4 b6_5 r h) (by kernel_rfl)
  · exact x_to 12 [] onil (Timpl_GetSolid_4 n b2_0 b2_1 b2_2 b2_3 b2_4 b5_0 b5_1 b5_2 b5_3 b5_4 b6_0 b6_1 b6_2 b6_3 b6_4 b6_5 r h) (by kernel_rfl)
def Dimpl_GetSolid_1 (n : Nat) (t0 : List Int) (t7 t8 : Int) (t42 b2_0 : Bool) (b2_1 b2_2 b2_3 b2_4 : Int) (b5_0 : List Int) (b5_1 b5_2 b5_3 b5_4 : Int) (b6_0 : Bool) (b6_1 b6_2 b6_3 b6_4 : Int) (b6_5 : List Sol) : Option (Sol × Int × Int) :=
  frk t42 ((Dimpl_getter_fail (b5_0, b5_1, b5_2, b5_3, b5_4) 22 b5_1).bind fun v4 => Dimpl_GetSolid_2 n t0 t7 t8 b2_0 b2_1 b2_2 b2_3 b2_4 v4.1 v4.2.1 v4.2.2.1 v4.2.2.2.1 v4.2.2.2.2 b6_0 b6_1 b6_2 b6_3 b6_4 b6_5) (Dimpl_GetSolid_2 n t0 t7 t8 b2_0 b2_1 b2_2 b2_3 b2_4 b5_0 b5_1 b5_2 b5_3 b5_4 b6_0 b6_1 b6_2 b6_3 b6_4 b6_5)
theorem Timpl_GetSolid_1 {Y} (n : Nat) (t0 : List Int) (t7 t8 : Int) (t42 b2_0 : Bool) (b2_1 b2_2 b2_3 b2_4 : Int) (b5_0 : List Int) (b5_1 b5_2 b5_3 b5_4 : Int) (b6_0 : Bool) (b6_1 b6_2 b6_3 b6_4 : Int) (b6_5 : List Sol) (r : (Sol × Int × Int)) (h : Dimpl_GetSolid_1 n t0 t7 t8 t42 b2_0 b2_1 b2_2 b2_3 b2_4 b5_0 b5_1 b5_2 b5_3 b5_4 b6_0 b6_1 b6_2 b6_3 b6_4 b6_5 = some r) : Wk Try.prog H Y 10 [.code (cp [1, 1, 1, 1, 1, 1, 0, 1] (bodyOf Try.f10)), .code (cp [1, 1, 1, 1, 1, 1, 1] (bodyOf Try.f10))] (FinX Try.prog Try.f10 [] (.tup [.agg [bl r.1.inn, i64 r.1.pl.A, i64 r.1.pl.B, i64 r.1.pl.C, i64 r.1.pl.D, .sl true 6 r.1.kids.length ((eSol true).f r.1.kids)], i64 r.2.1, i64 r.2.2]) []) ⟨[(0, .sl false 1 t0.length ((eU8).f t0)), (2, .ptr 2 0), (5, .ptr 5 0), (6, .ptr 6 0), (7, i64 t7), (8, i64 t8), (42, bl t42)], [(2, ⟨true, 0, [bl b2_0, i64 b2_1, i64 b2_2, i64 b2_3, i64 b2_4, .nil]⟩), (5, ⟨true, 0, [.sl false 1 b5_0.length ((eU8).f b5_0), i64 b5_1, i64 b5_2, i64 b5_3, i64 b5_4]⟩), (6, ⟨true, 0, [bl b6_0, i64 b6_1, i64 b6_2, i64 b6_3, i64 b6_4, .sl true 6 b6_5.length ((eSol true).f b6_5)]⟩)]⟩ := by
  unfold Dimpl_GetSolid_1 at h
  refine x_frk 0 [] onil h (by kernel_rfl) (fun h => ?_) (fun h => ?_)
  · obtain ⟨v4, hv4, h⟩ := bind_some h
    exact x_to 7 [(2, .call [] [] (.tup []) [(1000, ⟨true, 0, [.sl false 1 v4.1.length ((eU8).f v4.1), i64 v4.2.1, i64 v4.2.2.1, i64 v4.2.2.2.1, i64 v4.2.2.2.2]⟩)])] (ocons (Timpl_getter_fail (Y := Y) (b5_0, b5_1, b5_2, b5_3, b5_4) 22 b5_1 _ hv4) onil) (Timpl_GetSolid_2 n t0 t7 t8 b2_0 b2_1 b2_2 b2_3 b2_4 v4.1 v4.2.1 v4.2.2.1 v4.2.2.2.1 v4.2.2.2.2 b6_0 b6_1 b6_2 b6_3 b6_4 b6_5 r h) (by kernel_rfl)
  · exact x_to 3 [] onil (Timpl_GetSolid_2 n t0 t7 t8 b2_0 b2_1 b2_2 b2_3 b2_4 b5_0 b5_1 b5_2 b5_3 b5_4 b6_0 b6_1 b6_2 b6_3 b6_4 b6_5 r h) (by kernel_rfl)
def Dimpl_GetSolid_0 (n : Nat) (t0 : List Int) (t16 b2_0 : Bool) (b2_1 b2_2 b2_3 b2_4 : Int) : Option (Sol × Int × Int) :=
  frk t16 (some ((Sol.mk false (Pl.mk 0 0 0 0) []), 20, 0)) ((Dimpl_getter_tree n (t0, 2, 0, 0, 0) 0).bind fun v2 => (Dimpl_getter_number n v2.2 4).bind fun v3 => frk (v3.2.2.2.2.1 == 0) (Dimpl_GetSolid_1 n t0 v2.2.2.1 v3.1 (decide (v3.2.2.1 < (t0.length : Int))) b2_0 b2_1 b2_2 b2_3 b2_4 v3.2.1 v3.2.2.1 v3.2.2.2.1 v3.2.2.2.2.1 v3.2.2.2.2.2 v2.1.inn v2.1.pl.A v2.1.pl.B v2.1.pl.C v2.1.pl.D v2.1.kids) (Dimpl_GetSolid_2 n t0 v2.2.2.1 v3.1 b2_0 b2_1 b2_2 b2_3 b2_4 v3.2.1 v3.2.2.1 v3.2.2.2.1 v3.2.2.2.2.1 v3.2.2.2.2.2 v2.1.inn v2.1.pl.A v2.1.pl.B v2.1.pl.C v2.1.pl.D v2.1.kids))
theorem Timpl_GetSolid_0 {Y} (n : Nat) (t0 : List Int) (t16 b2_0 : Bool) (b2_1 b2_2 b2_3 b2_4 : Int) (r : (Sol × Int × Int)) (h : Dimpl_GetSolid_0 n t0 t16 b2_0 b2_1 b2_2 b2_3 b2_4 = some r) : Wk Try.prog H Y 10 [.code (cp [1, 0, 0, 1, 1, 1] (bodyOf Try.f10)), .blk 0, .code (cp [1, 1] (bodyOf Try.f10))] (FinX Try.prog Try.f10 [] (.tup [.agg [bl r.1.inn, i64 r.1.pl.A, i64 r.1.pl.B, i64 r.1.pl.C, i64 r.1.pl.D, .sl true 6 r.1.kids.length ((eSol true).f r.1.kids)], i64 r.2.1, i64 r.2.2]) []) ⟨[(0, .sl false 1 t0.length ((eU8).f t0)), (2, .ptr 2 0), (16, bl t16)], [(2, ⟨true, 0, [bl b2_0, i64 b2_1, i64 b2_2, i64 b2_3, i64 b2_4, .nil]⟩)]⟩ := by
  unfold Dimpl_GetSolid_0 at h
  refine x_frk 0 [] onil h (by kernel_rfl) (fun h => ?_) (fun h => ?_)
  · replace h := Option.some.inj h; subst h
    exact x_end 7 [] [(true, 6)] onil onil (by kernel_rfl)
  · obtain ⟨v2, hv2, h⟩ := bind_some h
    obtain ⟨v3, hv3, h⟩ := bind_some h
    refine x_frk 33 [(4, .call [] [] (.agg [bl v2.1.inn, i64 v2.1.pl.A, i64 v2.1.pl.B, i64 v2.1.pl.C, i64 v2.1.pl.D, .sl true 6 v2.1.kids.length ((eSol true).f v2.1.kids)]) [(1000, ⟨true, 0, [.sl false 1 v2.2.1.length ((eU8).f v2.2.1), i64 v2.2.2.1, i64 v2.2.2.2.1, i64 v2.2.2.2.2.1, i64 v2.2.2.2.2.2]⟩)]), (5, .call [] [] (i64 v3.1) [(1000, ⟨true, 0, [.sl false 1 v3.2.1.length ((eU8).f v3.2.1), i64 v3.2.2.1, i64 v3.2.2.2.1, i64 v3.2.2.2.2.1, i64 v3.2.2.2.2.2]⟩)])] (ocons (Timpl_getter_tree (Y := Y) n (t0, 2, 0, 0, 0) 0 _ hv2) (ocons (Timpl_getter_number (Y := Y) n v2.2 4 _ hv3) onil)) h (by kernel_rfl) (fun h => ?_) (fun h => ?_)
    · exact x_to 7 [] onil (Timpl_GetSolid_1 n t0 v2.2.2.1 v3.1 (decide (v3.2.2.1 < (t0.length : Int))) b2_0 b2_1 b2_2 b2_3 b2_4 v3.2.1 v3.2.2.1 v3.2.2.2.1 v3.2.2.2.2.1 v3.2.2.2.2.2 v2.1.inn v2.1.pl.A v2.1.pl.B v2.1.pl.C v2.1.pl.D v2.1.kids r h) (by kernel_rfl)
    · exact x_to 11 [] onil (Timpl_GetSolid_2 n t0 v2.2.2.1 v3.1 b2_0 b2_1 b2_2 b2_3 b2_4 v3.2.1 v3.2.2.1 v3.2.2.2.1 v3.2.2.2.2.1 v3.2.2.2.2.2 v2.1.inn v2.1.pl.A v2.1.pl.B v2.1.pl.C v2.1.pl.D v2.1.kids r h) (by kernel_rfl)
def Dimpl_GetSolid (n : Nat) (a0 : (List Int)) : Option (Sol × Int × Int) :=
  frk (decide ((a0.length : Int) > 20000)) (some ((Sol.mk false (Pl.mk 0 0 0 0) []), 25, 0)) (frk (decide ((a0.length : Int) < 2)) (some ((Sol.mk false (Pl.mk 0 0 0 0) []), 20, 0)) ((lsl a0 0 2).bind fun v0 => (some (strOfNums v0)).bind fun v1 => Dimpl_GetSolid_0 n a0 (!(v1.toList == (ByteArray.mk #[80, 87]).toList)) false 0 0 0 0))
theorem Timpl_GetSolid {Y} (n : Nat) (a0 : (List Int)) (r : (Sol × Int × Int)) (h : Dimpl_GetSolid n a0 = some r) : Big Try.prog H Y (.call 10 [.sl false 1 a0.length ((eU8).f a0)] (lk []) (.tup [.agg [bl r.1.inn, i64 r.1.pl.A, i64 r.1.pl.B, i64 r.1.pl.C, i64 r.1.pl.D, .sl true 6 r.1.kids.length ((eSol true).f r.1.kids)], i64 r.2.1, i64 r.2.2]) (lk [])) := by
  unfold Dimpl_GetSolid at h
  refine x_call (fn := Try.f10) (c := bodyOf Try.f10) (bs0 := []) Try.func10 (by kernel_rfl) (by kernel_rfl) ?_
  refine x_frk 15 [] onil h (by kernel_rfl) (fun h => ?_) (fun h => ?_)
  · replace h := Option.some.inj h; subst h
    exact x_end 7 [] [(true, 6)] onil onil (by kernel_rfl)
  · refine x_frk 6 [] onil h (by kernel_rfl) (fun h => ?_) (fun h => ?_)
    · replace h := Option.some.inj h; subst h
      exact x_end 15 [] [(true, 6)] onil onil (by kernel_rfl)
    · obtain ⟨v0, hv0, h⟩ := bind_some h
      obtain ⟨v1, hv1, h⟩ := bind_some h
      exact x_to 7 [(1, .val (.sl false 1 v0.length ((eU8).f v0))), (0, .val (.lit (.string v1)))] (ocons (slF eU8 hv0) (ocons (strL v0 hv1) onil)) (Timpl_GetSolid_0 n a0 (!(v1.toList == (ByteArray.mk #[80, 87]).toList)) false 0 0 0 0 r h) (by kernel_rfl)
/-! impl.Solid] -/
def Dslices_EqualFuncfimpl_SameTree_in_0 (_n : Nat) (self : (Sol × Sol) → Option Bool) (t1 t15 : List Sol) (t16 : Int) (rec0 : Int → Option Bool) (a : Int) : Option Bool :=
  match a with
  | t17 => frk (decide (t17 < t16)) ((lget t15 t17).bind fun v0 => (lget t1 t17).bind fun v1 => (self (v0, v1)).bind fun v2 => frk (!v2) (some false) (rec0 (w64 (t17 + 1)))) (some true)
theorem Tslices_EqualFuncfimpl_SameTree_in_0 {Y} (n : Nat) (self : (Sol × Sol) → Option Bool) (hself : ∀ (a : (Sol × Sol)) (r : Bool), self a = some r → Big Try.prog H Y (.call 11 [.agg [bl a.1.inn, i64 a.1.pl.A, i64 a.1.pl.B, i64 a.1.pl.C, i64 a.1.pl.D, .sl false 6 a.1.kids.length ((eSol false).f a.1.kids)], .agg [bl a.2.inn, i64 a.2.pl.A, i64 a.2.pl.B, i64 a.2.pl.C, i64 a.2.pl.D, .sl false 6 a.2.kids.length ((eSol false).f a.2.kids)]] (lk []) (bl r) (lk []))) (t1 t15 : List Sol) (t16 : Int) : ∀ (m : Nat) (a : Int) (r : Bool), loopN (Dslices_EqualFuncfimpl_SameTree_in_0 n self t1 t15 t16) m a = some r → Wk Try.prog H Y 44 [.code (cp [1, 1, 0, 1, 0] (bodyOf Try.f44)), .blk 0, .code (cp [1, 1, 1] (bodyOf Try.f44))] (FinX Try.prog Try.f44 [] (bl r) []) ⟨[(1, .sl false 6 t1.length ((eSol false).f t1)), (2, .lit (.func (.func 11) #[] #[])), (15, .sl false 6 t15.length ((eSol false).f t15)), (16, i64 t16), (17, i64 a)], []⟩ := by
  refine loopN_ind (fun _rec0 hrec0 a r h => ?_)
  obtain ⟨t17, rfl⟩ : ∃ x, x = a := ⟨a, rfl⟩
  unfold Dslices_EqualFuncfimpl_SameTree_in_0 at h
  refine x_frk 6 [] onil h (by kernel_rfl) (fun h => ?_) (fun h => ?_)
  · obtain ⟨v0, hv0, h⟩ := bind_some h
    obtain ⟨v1, hv1, h⟩ := bind_some h
    obtain ⟨v2, hv2, h⟩ := bind_some h
    refine x_frk 29 [(1, .val (.cptr ((eSol false).c v0 ++ (eSol false).f ((t15).drop (Int.toNat t17 + 1))))), (6, .val (.cptr ((eSol false).c v1 ++ (eSol false).f ((t1).drop (Int.toNat t17 + 1))))), (6, .call [] [] (bl v2) [])] (ocons (ix (eSol false) hv0) (ocons (ix (eSol false) hv1) (ocons (hself (v0, v1) _ hv2) onil))) h (by kernel_rfl) (fun h => ?_) (fun h => ?_)
    · replace h := Option.some.inj h; subst h
      exact x_end 4 [] [] onil onil (by kernel_rfl)
    · exact x_to 7 [] onil (hrec0 (w64 (t17 + 1)) r h) (by kernel_rfl)
  · replace h := Option.some.inj h; subst h
    exact x_end 5 [] [] onil onil (by kernel_rfl)
def Dslices_EqualFuncfimpl_SameTree_in (n : Nat) (self : (Sol × Sol) → Option Bool) (a0 : (List Sol)) (a1 : (List Sol)) : Option Bool :=
  frk ((a0.length : Int) != (a1.length : Int)) (some false) (loopN (Dslices_EqualFuncfimpl_SameTree_in_0 n self a1 a0 (a0.length : Int)) n 0)
theorem Tslices_EqualFuncfimpl_SameTree_in {Y} (n : Nat) (self : (Sol × Sol) → Option Bool) (hself : ∀ (a : (Sol × Sol)) (r : Bool), self a = some r → Big Try.prog H Y (.call 11 [.agg [bl a.1.inn, i64 a.1.pl.A, i64 a.1.pl.B, i64 a.1.pl.C, i64 a.1.pl.D, .sl false 6 a.1.kids.length ((eSol false).f a.1.kids)], .agg [bl a.2.inn, i64 a.2.pl.A, i64 a.2.pl.B, i64 a.2.pl.C, i64 a.2.pl.D, .sl false 6 a.2.kids.length ((eSol false).f a.2.kids)]] (lk []) (bl r) (lk []))) (a0 : (List Sol)) (a1 : (List Sol)) (r : Bool) (h : Dslices_EqualFuncfimpl_SameTree_in n self a0 a1 = some r) : Big Try.prog H Y (.call 44 [.sl false 6 a0.length ((eSol false).f a0), .sl false 6 a1.length ((eSol false).f a1), .lit (.func (.func 11) #[] #[])] (lk []) (bl r) (lk [])) := by
  unfold Dslices_EqualFuncfimpl_SameTree_in at h
  refine x_call (fn := Try.f44) (c := bodyOf Try.f44) (bs0 := []) Try.func44 (by kernel_rfl) (by kernel_rfl) ?_
  refine x_frk 13 [] onil h (by kernel_rfl) (fun h => ?_) (fun h => ?_)
  · replace h := Option.some.inj h; subst h
    exact x_end 4 [] [] onil onil (by kernel_rfl)
  · exact x_to 9 [] onil (Tslices_EqualFuncfimpl_SameTree_in_0 n self hself a1 a0 (a0.length : Int) n 0 r h) (by kernel_rfl)
/-! impl.SameTree -/
def Dimpl_SameTree_b (n : Nat) (self : (Sol × Sol) → Option Bool) (a : (Sol × Sol)) : Option Bool :=
  match a with
  | (a0, a1) => frk (a0.inn == a1.inn) (frk (a0.pl.A == a1.pl.A && (a0.pl.B == a1.pl.B && (a0.pl.C == a1.pl.C && (a0.pl.D == a1.pl.D && true)))) ((Dslices_EqualFuncfimpl_SameTree_in n self a0.kids a1.kids).bind fun v0 => some v0) (some false)) (some false)
def Dimpl_SameTree (n : Nat) (a0 : Sol) (a1 : Sol) : Option Bool := loopN (Dimpl_SameTree_b n) n (a0, a1)
theorem Timpl_SameTree_b {Y} (n : Nat) : ∀ (m : Nat) (a : (Sol × Sol)) (r : Bool), loopN (Dimpl_SameTree_b n) m a = some r → ∀ (_ : Unit), Big Try.prog H Y (.call 11 [.agg [bl a.1.inn, i64 a.1.pl.A, i64 a.1.pl.B, i64 a.1.pl.C, i64 a.1.pl.D, .sl false 6 a.1.kids.length ((eSol false).f a.1.kids)], .agg [bl a.2.inn, i64 a.2.pl.A, i64 a.2.pl.B, i64 a.2.pl.C, i64 a.2.pl.D, .sl false 6 a.2.kids.length ((eSol false).f a.2.kids)]] (lk []) (bl r) (lk [])) := by
  refine loopN_ind (fun self hs a r h => ?_)
  have hself : ∀ (a : (Sol × Sol)) (r : Bool), self a = some r → Big Try.prog H Y (.call 11 [.agg [bl a.1.inn, i64 a.1.pl.A, i64 a.1.pl.B, i64 a.1.pl.C, i64 a.1.pl.D, .sl false 6 a.1.kids.length ((eSol false).f a.1.kids)], .agg [bl a.2.inn, i64 a.2.pl.A, i64 a.2.pl.B, i64 a.2.pl.C, i64 a.2.pl.D, .sl false 6 a.2.kids.length ((eSol false).f a.2.kids)]] (lk []) (bl r) (lk [])) := fun a r h => hs a r h ()
  intro _
  obtain ⟨a0, a1⟩ := a
  unfold Dimpl_SameTree_b at h
  refine x_call (fn := Try.f11) (c := bodyOf Try.f11) (bs0 := []) Try.func11 (by kernel_rfl) (by kernel_rfl) ?_
  refine x_frk 14 [] onil h (by kernel_rfl) (fun h => ?_) (fun h => ?_)
  · refine x_frk 7 [] onil h (by kernel_rfl) (fun h => ?_) (fun h => ?_)
    · obtain ⟨v0, hv0, h⟩ := bind_some h
      replace h := Option.some.inj h; subst h
      exact x_end 8 [(4, .call [] [] (bl v0) [])] [] (ocons (Tslices_EqualFuncfimpl_SameTree_in (Y := Y) n self hself a0.kids a1.kids _ hv0) onil) onil (by kernel_rfl)
    · replace h := Option.some.inj h; subst h
      exact x_end 8 [] [] onil onil (by kernel_rfl)
  · replace h := Option.some.inj h; subst h
    exact x_end 15 [] [] onil onil (by kernel_rfl)
theorem Timpl_SameTree {Y} (n : Nat) (a0 : Sol) (a1 : Sol) (r : Bool) (h : Dimpl_SameTree n a0 a1 = some r) : Big Try.prog H Y (.call 11 [.agg [bl a0.inn, i64 a0.pl.A, i64 a0.pl.B, i64 a0.pl.C, i64 a0.pl.D, .sl false 6 a0.kids.length ((eSol false).f a0.kids)], .agg [bl a1.inn, i64 a1.pl.A, i64 a1.pl.B, i64 a1.pl.C, i64 a1.pl.D, .sl false 6 a1.kids.length ((eSol false).f a1.kids)]] (lk []) (bl r) (lk [])) := Timpl_SameTree_b n n (a0, a1) r h ()
/-! laws.at -/
def Dlaws_at (a0 : (List Int)) (a1 : Int) : Option Int :=
  frk (decide (a1 < (a0.length : Int))) ((lget a0 a1).bind fun v0 => some (w64 v0)) (some (Int.tmod (w64 ((w64 (a1 * 31)) + (w64 ((a0.length : Int) * 7)))) 256))
theorem Tlaws_at {Y} (a0 : (List Int)) (a1 r : Int) (h : Dlaws_at a0 a1 = some r) : Big Try.prog H Y (.call 12 [.sl false 1 a0.length ((eU8).f a0), i64 a1] (lk []) (i64 r) (lk [])) := by
  unfold Dlaws_at at h
  refine x_call (fn := Try.f12) (c := bodyOf Try.f12) (bs0 := []) Try.func12 (by kernel_rfl) (by kernel_rfl) ?_
  refine x_frk 12 [] onil h (by kernel_rfl) (fun h => ?_) (fun h => ?_)
  · obtain ⟨v0, hv0, h⟩ := bind_some h
    replace h := Option.some.inj h; subst h
    exact x_end 9 [(2, .val (.cptr (eU8.c v0 ++ (eU8).f ((a0).drop (Int.toNat a1 + 1)))))] [] (ocons (ix eU8 hv0) onil) onil (by kernel_rfl)
  · replace h := Option.some.inj h; subst h
    exact x_end 12 [] [] onil onil (by kernel_rfl)
/-! impl.SumOf -/
def Dimpl_SumOf (n : Nat) (a0 : Sol) : Option Int :=
  (Dimpl_SolidOk n a0).bind fun v0 => frk (!v0) (some 0) ((Dimpl_putTreeo0 n [80, 87] a0).bind fun v1 => (Dimpl_sums n v1).bind fun v2 => some (w64 (v2.1 + (w64 (65536 * v2.2)))))
theorem Timpl_SumOf {Y} (n : Nat) (a0 : Sol) (r : Int) (h : Dimpl_SumOf n a0 = some r) : Big Try.prog H Y (.call 13 [.agg [bl a0.inn, i64 a0.pl.A, i64 a0.pl.B, i64 a0.pl.C, i64 a0.pl.D, .sl false 6 a0.kids.length ((eSol false).f a0.kids)]] (lk []) (i64 r) (lk [])) := by
  unfold Dimpl_SumOf at h
  refine x_call (fn := Try.f13) (c := bodyOf Try.f13) (bs0 := []) Try.func13 (by kernel_rfl) (by kernel_rfl) ?_
  obtain ⟨v0, hv0, h⟩ := bind_some h
  refine x_frk 12 [(3, .call [] [] (bl v0) [])] (ocons (Timpl_SolidOk (Y := Y) n a0 _ hv0) onil) h (by kernel_rfl) (fun h => ?_) (fun h => ?_)
  · replace h := Option.some.inj h; subst h
    exact x_end 4 [] [] onil onil (by kernel_rfl)
  · obtain ⟨v1, hv1, h⟩ := bind_some h
    obtain ⟨v2, hv2, h⟩ := bind_some h
    replace h := Option.some.inj h; subst h
    exact x_end 22 [(3, .call [] [] (.sl false 1 v1.length ((eU8).f v1)) []), (0, .call [] [] (.tup [i64 v2.1, i64 v2.2]) [])] [] (ocons (shSl (L := v1) eU8 eU8 sU8 (Timpl_putTreeo0 (Y := Y) n [80, 87] a0 _ hv1)) (ocons (len_row (L := [80, 87]) eU8) (ocons (Timpl_sums (Y := Y) n v1 _ hv2) onil))) onil (by kernel_rfl)
/-! laws.FnBytes -/
def Dlaws_FnBytes_0 (n : Nat) (t0 : List Int) (t5 : List Int) (t46 b3_0 : Bool) (b3_1 b3_2 b3_3 b3_4 : Int) (b3_5 : List Sol) : Option Bool :=
  frk t46 (some false) ((Dlaws_at t0 2).bind fun v5 => (Dlaws_at t0 3).bind fun v6 => (rm .i64 (w64 ((w64 (v5 * 256)) + v6)) (t5.length : Int)).bind fun v7 => chk (apB 1 (0 + t5.length)) ((lget ([] ++ t5) v7).bind fun v9 => (Dlaws_at t0 4).bind fun v10 => (lget ([] ++ t5) v7).bind fun _v11 => (Dimpl_GetSolid n (([] ++ t5).set (Int.toNat v7) (bXor .u8 v9 (IntKind.u8.wrap (w64 (1 + (Int.tmod v10 255))))))).bind fun v12 => (lsl t5 0 v7).bind fun v13 => (Dimpl_GetSolid n v13).bind fun v14 => (Dimpl_SumOf n (Sol.mk b3_0 (Pl.mk b3_1 b3_2 b3_3 b3_4) b3_5)).bind fun v15 => frk (v12.2.1 != 0) (frk (v14.2.1 != 0) ((lget t5 (w64 ((t5.length : Int) - 4))).bind fun v16 => (lget t5 (w64 ((t5.length : Int) - 3))).bind fun v17 => (lget t5 (w64 ((t5.length : Int) - 2))).bind fun v18 => (lget t5 (w64 ((t5.length : Int) - 1))).bind fun v19 => some (v15 == (w64 ((w64 ((w64 v16) + (w64 (256 * (w64 v17))))) + (w64 (65536 * (w64 ((w64 v18) + (w64 (256 * (w64 v19))))))))))) (some false)) (some false)))
theorem Tlaws_FnBytes_0 {Y} (n : Nat) (t0 : List Int) (t5 : List Int) (t46 b3_0 : Bool) (b3_1 b3_2 b3_3 b3_4 : Int) (b3_5 : List Sol) (r : Bool) (h : Dlaws_FnBytes_0 n t0 t5 t46 b3_0 b3_1 b3_2 b3_3 b3_4 b3_5 = some r) : Wk Try.prog H Y 3 [.code (cp [1, 1, 1, 1, 1, 0, 1] (bodyOf Try.f3)), .code (cp [1, 1, 1, 1, 1, 1] (bodyOf Try.f3))] (FinX Try.prog Try.f3 [] (bl r) []) ⟨[(0, .sl false 1 t0.length ((eU8).f t0)), (3, .ptr 3 0), (5, .sl false 1 t5.length ((eU8).f t5)), (46, bl t46)], [(3, ⟨true, 0, [bl b3_0, i64 b3_1, i64 b3_2, i64 b3_3, i64 b3_4, .sl true 6 b3_5.length ((eSol true).f b3_5)]⟩)]⟩ := by
  unfold Dlaws_FnBytes_0 at h
  refine x_frk 0 [] onil h (by kernel_rfl) (fun h => ?_) (fun h => ?_)
  · replace h := Option.some.inj h; subst h
    exact x_end 4 [] [] onil onil (by kernel_rfl)
  · obtain ⟨v5, hv5, h⟩ := bind_some h
    obtain ⟨v6, hv6, h⟩ := bind_some h
    obtain ⟨v7, hv7, h⟩ := bind_some h
    obtain ⟨c8, h⟩ := chk_some h
    obtain ⟨v9, hv9, h⟩ := bind_some h
    obtain ⟨v10, hv10, h⟩ := bind_some h
    obtain ⟨_v11, hv11, h⟩ := bind_some h
    obtain ⟨v12, hv12, h⟩ := bind_some h
    obtain ⟨v13, hv13, h⟩ := bind_some h
    obtain ⟨v14, hv14, h⟩ := bind_some h
    obtain ⟨v15, hv15, h⟩ := bind_some h
    refine x_frk 84 [(1, .call [] [] (i64 v5) []), (2, .call [] [] (i64 v6) []), (3, .val (i64 v7)), (3, .app false (List.length ([] ++ t5)) ((eU8).f ([] ++ t5))), (3, .unit), (0, .val (.lit (.int .u8 v9))), (1, .call [] [] (i64 v10) []), (4, .unit), (0, .cells ((eU8).f (([] ++ t5).set (Int.toNat v7) (bXor .u8 v9 (IntKind.u8.wrap (w64 (1 + (Int.tmod v10 255)))))))), (0, .fix 10 (.msl 58 (([] ++ t5).set (Int.toNat v7) (bXor .u8 v9 (IntKind.u8.wrap (w64 (1 + (Int.tmod v10 255)))))).length)), (0, .fix 58 (.msl 58 (([] ++ t5).set (Int.toNat v7) (bXor .u8 v9 (IntKind.u8.wrap (w64 (1 + (Int.tmod v10 255)))))).length)), (0, .fix 59 (.msl 58 (([] ++ t5).set (Int.toNat v7) (bXor .u8 v9 (IntKind.u8.wrap (w64 (1 + (Int.tmod v10 255)))))).length)), (1, .call [] [(eU8).f (([] ++ t5).set (Int.toNat v7) (bXor .u8 v9 (IntKind.u8.wrap (w64 (1 + (Int.tmod v10 255))))))] (.tup [.agg [bl v12.1.inn, i64 v12.1.pl.A, i64 v12.1.pl.B, i64 v12.1.pl.C, i64 v12.1.pl.D, .sl true 6 v12.1.kids.length ((eSol true).f v12.1.kids)], i64 v12.2.1, i64 v12.2.2]) []), (10, .val (.sl false 1 v13.length ((eU8).f v13))), (0, .call [] [] (.tup [.agg [bl v14.1.inn, i64 v14.1.pl.A, i64 v14.1.pl.B, i64 v14.1.pl.C, i64 v14.1.pl.D, .sl true 6 v14.1.kids.length ((eSol true).f v14.1.kids)], i64 v14.2.1, i64 v14.2.2]) []), (8, .rows [(eSol false).f b3_5]), (0, .call [] [] (i64 v15) [])] (ocons (Tlaws_at (Y := Y) t0 2 _ hv5) (ocons (Tlaws_at (Y := Y) t0 3 _ hv6) (ocons (rmOk hv7) (ocons (len_row' (L := []) eU8) (ocons (app_one (L := []) (M := t5) eU8 c8) (ocons (app_new (L := []) (M := t5) eU8) (ocons (app_m (L := []) (M := t5) eU8 rfl) (ocons (len_row' (L := t5) eU8) (ocons (inr hv9) (ocons (ld1 eU8 hv9 0 rfl) (ocons (Tlaws_at (Y := Y) t0 4 _ hv10) (ocons (inr hv11) (ocons (stA eU8 hv11 0 1 [.lit (.int .u8 (bXor .u8 v9 (IntKind.u8.wrap (w64 (1 + (Int.tmod v10 255))))))] (bXor .u8 v9 (IntKind.u8.wrap (w64 (1 + (Int.tmod v10 255))))) rfl rfl) (ocons (setLen 58 ([] ++ t5) (Int.toNat v7) (bXor .u8 v9 (IntKind.u8.wrap (w64 (1 + (Int.tmod v10 255)))))) (ocons (setLen 58 ([] ++ t5) (Int.toNat v7) (bXor .u8 v9 (IntKind.u8.wrap (w64 (1 + (Int.tmod v10 255)))))) (ocons (setLen 58 ([] ++ t5) (Int.toNat v7) (bXor .u8 v9 (IntKind.u8.wrap (w64 (1 + (Int.tmod v10 255)))))) (ocons (Timpl_GetSolid (Y := Y) n (([] ++ t5).set (Int.toNat v7) (bXor .u8 v9 (IntKind.u8.wrap (w64 (1 + (Int.tmod v10 255)))))) _ hv12) (ocons (len_row (L := (([] ++ t5).set (Int.toNat v7) (bXor .u8 v9 (IntKind.u8.wrap (w64 (1 + (Int.tmod v10 255))))))) eU8) (ocons (Enc.share eU8 eU8 sU8 (([] ++ t5).set (Int.toNat v7) (bXor .u8 v9 (IntKind.u8.wrap (w64 (1 + (Int.tmod v10 255))))))) (ocons (show hasSh (.tup [.agg [bl v12.1.inn, i64 v12.1.pl.A, i64 v12.1.pl.B, i64 v12.1.pl.C, i64 v12.1.pl.D, .sl true 6 v12.1.kids.length ((eSol true).f v12.1.kids)], i64 v12.2.1, i64 v12.2.2]) = false by simp [hasSh, hasShL, nSh, nShI, nShB, nShP, nShT, nShN, nShPs]) (ocons (slF eU8 hv13) (ocons (Timpl_GetSolid (Y := Y) n v13 _ hv14) (ocons (Enc.share (eSol true) (eSol false) (sSol true) b3_5) (ocons (Timpl_SumOf (Y := Y) n (Sol.mk b3_0 (Pl.mk b3_1 b3_2 b3_3 b3_4) b3_5) _ hv15) onil)))))))))))))))))))))))) h (by kernel_rfl) (fun h => ?_) (fun h => ?_)
    · refine x_frk 4 [] onil h (by kernel_rfl) (fun h => ?_) (fun h => ?_)
      · obtain ⟨v16, hv16, h⟩ := bind_some h
        obtain ⟨v17, hv17, h⟩ := bind_some h
        obtain ⟨v18, hv18, h⟩ := bind_some h
        obtain ⟨v19, hv19, h⟩ := bind_some h
        replace h := Option.some.inj h; subst h
        exact x_end 35 [(4, .val (.cptr (eU8.c v16 ++ (eU8).f ((t5).drop (Int.toNat (w64 ((t5.length : Int) - 4)) + 1))))), (5, .val (.cptr (eU8.c v17 ++ (eU8).f ((t5).drop (Int.toNat (w64 ((t5.length : Int) - 3)) + 1))))), (7, .val (.cptr (eU8.c v18 ++ (eU8).f ((t5).drop (Int.toNat (w64 ((t5.length : Int) - 2)) + 1))))), (5, .val (.cptr (eU8.c v19 ++ (eU8).f ((t5).drop (Int.toNat (w64 ((t5.length : Int) - 1)) + 1)))))] [] (ocons (ix eU8 hv16) (ocons (ix eU8 hv17) (ocons (ix eU8 hv18) (ocons (ix eU8 hv19) onil)))) onil (by kernel_rfl)
      · replace h := Option.some.inj h; subst h
        exact x_end 35 [] [] onil onil (by kernel_rfl)
    · replace h := Option.some.inj h; subst h
      exact x_end 39 [] [] onil onil (by kernel_rfl)
def Dlaws_FnBytes (n : Nat) (a0 : (List Int)) : Option Bool :=
  (Dlaws_big a0).bind fun v0 => frk v0 (some true) ((Dspec_DrawSolid n a0).bind fun v1 => (Dimpl_PutSolid n v1.1).bind fun v2 => (Dimpl_GetSolid n v2).bind fun v3 => frk (v3.2.1 != 0) (some false) ((Dimpl_SameTree n v3.1 v1.1).bind fun v4 => frk (!v4) (some false) (Dlaws_FnBytes_0 n a0 v2 (decide ((v2.length : Int) < 7)) v1.1.inn v1.1.pl.A v1.1.pl.B v1.1.pl.C v1.1.pl.D v1.1.kids)))
theorem Tlaws_FnBytes {Y} (n : Nat) (a0 : (List Int)) (r : Bool) (h : Dlaws_FnBytes n a0 = some r) : Big Try.prog H Y (.call 3 [.sl false 1 a0.length ((eU8).f a0)] (lk []) (bl r) (lk [])) := by
  unfold Dlaws_FnBytes at h
  refine x_call (fn := Try.f3) (c := bodyOf Try.f3) (bs0 := []) Try.func3 (by kernel_rfl) (by kernel_rfl) ?_
  obtain ⟨v0, hv0, h⟩ := bind_some h
  refine x_frk 10 [(2, .call [] [] (bl v0) [])] (ocons (Tlaws_big (Y := Y) a0 _ hv0) onil) h (by kernel_rfl) (fun h => ?_) (fun h => ?_)
  · replace h := Option.some.inj h; subst h
    exact x_end 4 [] [] onil onil (by kernel_rfl)
  · obtain ⟨v1, hv1, h⟩ := bind_some h
    obtain ⟨v2, hv2, h⟩ := bind_some h
    obtain ⟨v3, hv3, h⟩ := bind_some h
    refine x_frk 38 [(1, .call [] [] (.tup [.agg [bl v1.1.inn, i64 v1.1.pl.A, i64 v1.1.pl.B, i64 v1.1.pl.C, i64 v1.1.pl.D, .sl true 6 v1.1.kids.length ((eSol true).f v1.1.kids)], .agg [i64 v1.2.X, i64 v1.2.Y, i64 v1.2.Z, i64 v1.2.W]]) []), (7, .rows [(eSol false).f v1.1.kids]), (0, .call [] [] (.sl false 1 v2.length ((eU8).f v2)) []), (2, .call [] [] (.tup [.agg [bl v3.1.inn, i64 v3.1.pl.A, i64 v3.1.pl.B, i64 v3.1.pl.C, i64 v3.1.pl.D, .sl true 6 v3.1.kids.length ((eSol true).f v3.1.kids)], i64 v3.2.1, i64 v3.2.2]) [])] (ocons (Tspec_DrawSolid (Y := Y) n a0 _ hv1) (ocons (Enc.share (eSol true) (eSol false) (sSol true) v1.1.kids) (ocons (shSl (L := v2) eU8 eU8 sU8 (Timpl_PutSolid (Y := Y) n v1.1 _ hv2)) (ocons (Timpl_GetSolid (Y := Y) n v2 _ hv3) onil)))) h (by kernel_rfl) (fun h => ?_) (fun h => ?_)
    · replace h := Option.some.inj h; subst h
      exact x_end 16 [] [] onil onil (by kernel_rfl)
    · obtain ⟨v4, hv4, h⟩ := bind_some h
      refine x_frk 6 [(0, .rows [(eSol false).f v3.1.kids]), (0, .rows [(eSol false).f v1.1.kids]), (0, .call [] [] (bl v4) [])] (ocons (Enc.share (eSol true) (eSol false) (sSol true) v3.1.kids) (ocons (Enc.share (eSol true) (eSol false) (sSol true) v1.1.kids) (ocons (Timpl_SameTree (Y := Y) n v3.1 v1.1 _ hv4) onil))) h (by kernel_rfl) (fun h => ?_) (fun h => ?_)
      · replace h := Option.some.inj h; subst h
        exact x_end 10 [] [] onil onil (by kernel_rfl)
      · exact x_to 5 [] onil (Tlaws_FnBytes_0 n a0 v2 (decide ((v2.length : Int) < 7)) v1.1.inn v1.1.pl.A v1.1.pl.B v1.1.pl.C v1.1.pl.D v1.1.kids r h) (by kernel_rfl)
end Evl.T
