/- Walks. No condition. -/
import Derived.Test.YtjmnnljfhoeaaaaWy
namespace Evl.T
open Go Evl Go.Proofs
set_option maxRecDepth 100000
/-! impl.clash2 -/
def Dimpl_clash2 (_n : Nat) (a0 : Pl) (a1 : Pl) : Option Bool :=
  (Dimpl_parallel a0 a1).bind fun v0 => frk (decide (v0 ≥ 0)) (some false) ((Dimpl_normal a0).bind fun v1 => (Dimpl_normal a1).bind fun v2 => frk (v1.1 != 0) (some (decide ((w64 ((w64 (a0.D * (maxN v2.1 [w64 (0 - v2.1)]))) + (w64 (a1.D * (maxN v1.1 [w64 (0 - v1.1)]))))) ≤ 0))) (frk (v1.2.1 != 0) (some (decide ((w64 ((w64 (a0.D * (maxN v2.2.1 [w64 (0 - v2.2.1)]))) + (w64 (a1.D * (maxN v1.2.1 [w64 (0 - v1.2.1)]))))) ≤ 0))) (frk (v1.2.2 != 0) (some (decide ((w64 ((w64 (a0.D * (maxN v2.2.2 [w64 (0 - v2.2.2)]))) + (w64 (a1.D * (maxN v1.2.2 [w64 (0 - v1.2.2)]))))) ≤ 0))) (some false))))
theorem Timpl_clash2 {Y} (n : Nat) (a0 : Pl) (a1 : Pl) (r : Bool) (h : Dimpl_clash2 n a0 a1 = some r) : Big Try.prog H Y (.call 122 [.agg [i64 a0.A, i64 a0.B, i64 a0.C, i64 a0.D], .agg [i64 a1.A, i64 a1.B, i64 a1.C, i64 a1.D]] (lk []) (bl r) (lk [])) := by
  unfold Dimpl_clash2 at h
  refine x_call (fn := Try.f122) (c := bodyOf Try.f122) (bs0 := []) Try.func122 (by kernel_rfl) (by kernel_rfl) ?_
  obtain ⟨v0, hv0, h⟩ := bind_some h
  refine x_frk 14 [(5, .call [] [] (i64 v0) [])] (ocons (Timpl_parallel (Y := Y) a0 a1 _ hv0) onil) h (by kernel_rfl) (fun h => ?_) (fun h => ?_)
  · replace h := Option.some.inj h; subst h
    exact x_end 4 [] [] onil onil (by kernel_rfl)
  · obtain ⟨v1, hv1, h⟩ := bind_some h
    obtain ⟨v2, hv2, h⟩ := bind_some h
    refine x_frk 40 [(1, .call [] [] (.agg [i64 v1.1, i64 v1.2.1, i64 v1.2.2]) []), (1, .call [] [] (.agg [i64 v2.1, i64 v2.2.1, i64 v2.2.2]) [])] (ocons (Timpl_normal (Y := Y) a0 _ hv1) (ocons (Timpl_normal (Y := Y) a1 _ hv2) onil)) h (by kernel_rfl) (fun h => ?_) (fun h => ?_)
    · replace h := Option.some.inj h; subst h
      exact x_end 28 [(9, .val (.lit (.int .i64 (maxN v2.1 [w64 (0 - v2.1)])))), (10, .val (.lit (.int .i64 (maxN v1.1 [w64 (0 - v1.1)]))))] [] (ocons (maxNok .i64 [w64 (0 - v2.1)] v2.1) (ocons (maxNok .i64 [w64 (0 - v1.1)] v1.1) onil)) onil (by kernel_rfl)
    · refine x_frk 29 [] onil h (by kernel_rfl) (fun h => ?_) (fun h => ?_)
      · replace h := Option.some.inj h; subst h
        exact x_end 28 [(9, .val (.lit (.int .i64 (maxN v2.2.1 [w64 (0 - v2.2.1)])))), (10, .val (.lit (.int .i64 (maxN v1.2.1 [w64 (0 - v1.2.1)]))))] [] (ocons (maxNok .i64 [w64 (0 - v2.2.1)] v2.2.1) (ocons (maxNok .i64 [w64 (0 - v1.2.1)] v1.2.1) onil)) onil (by kernel_rfl)
      · refine x_frk 29 [] onil h (by kernel_rfl) (fun h => ?_) (fun h => ?_)
        · replace h := Option.some.inj h; subst h
          exact x_end 28 [(9, .val (.lit (.int .i64 (maxN v2.2.2 [w64 (0 - v2.2.2)])))), (10, .val (.lit (.int .i64 (maxN v1.2.2 [w64 (0 - v1.2.2)]))))] [] (ocons (maxNok .i64 [w64 (0 - v2.2.2)] v2.2.2) (ocons (maxNok .i64 [w64 (0 - v1.2.2)] v1.2.2) onil)) onil (by kernel_rfl)
        · replace h := Option.some.inj h; subst h
          exact x_end 19 [] [] onil onil (by kernel_rfl)
/-! impl.det -/
def Dimpl_det (a0 : (Int × Int × Int)) (a1 : (Int × Int × Int)) (a2 : (Int × Int × Int)) : Option Int :=
  (Dimpl_crossOf a1 a2).bind fun v0 => (Dimpl_dot a0 v0).bind fun v1 => some v1
theorem Timpl_det {Y} (a0 : (Int × Int × Int)) (a1 : (Int × Int × Int)) (a2 : (Int × Int × Int)) (r : Int) (h : Dimpl_det a0 a1 a2 = some r) : Big Try.prog H Y (.call 136 [.agg [i64 a0.1, i64 a0.2.1, i64 a0.2.2], .agg [i64 a1.1, i64 a1.2.1, i64 a1.2.2], .agg [i64 a2.1, i64 a2.2.1, i64 a2.2.2]] (lk []) (i64 r) (lk [])) := by
  unfold Dimpl_det at h
  refine x_call (fn := Try.f136) (c := bodyOf Try.f136) (bs0 := []) Try.func136 (by kernel_rfl) (by kernel_rfl) ?_
  obtain ⟨v0, hv0, h⟩ := bind_some h
  obtain ⟨v1, hv1, h⟩ := bind_some h
  replace h := Option.some.inj h; subst h
  exact x_end 16 [(7, .call [] [] (.agg [i64 v0.1, i64 v0.2.1, i64 v0.2.2]) []), (0, .call [] [] (i64 v1) [])] [] (ocons (Timpl_crossOf (Y := Y) a1 a2 _ hv0) (ocons (Timpl_dot (Y := Y) a0 v0 _ hv1) onil)) onil (by kernel_rfl)
/-! impl.weighs -/
def Dimpl_weighs_0 (_n : Nat) (rec0 : (Int × Int) → Option Bool) (t1 : List Int) (_t5 : Int) (_t13 : List Int) (_t14 t6 t7 t8 t15 : Int) (t27 : Bool) : Option Bool :=
  frk t27 (some false) ((lget t1 t7).bind fun v4 => rec0 (w64 (t6 + (w64 (t8 * v4))), w64 (t15 + 1)))
theorem Timpl_weighs_0 {Y} (n : Nat) (rec0 : (Int × Int) → Option Bool) (t1 : List Int) (t5 : Int) (t13 : List Int) (t14 : Int) (hrec0 : ∀ (a : (Int × Int)) (r : Bool), rec0 a = some r → Wk Try.prog H Y 138 [.code (cp [1, 1, 1, 0, 1, 0] (bodyOf Try.f138)), .blk 0, .code (cp [1, 1, 1, 1] (bodyOf Try.f138))] (FinX Try.prog Try.f138 [] (bl r) []) ⟨[(1, .sl false 1 t1.length ((eInt).f t1)), (5, i64 t5), (6, i64 a.1), (13, .sl false 1 t13.length ((eInt).f t13)), (14, i64 t14), (15, i64 a.2)], []⟩) (t6 t7 t8 t15 : Int) (t27 r : Bool) (h : Dimpl_weighs_0 n rec0 t1 t5 t13 t14 t6 t7 t8 t15 t27 = some r) : Wk Try.prog H Y 138 [.code (cp [1, 1, 1, 0, 1, 0, 0, 1, 1, 0, 0, 1, 0, 1] (bodyOf Try.f138)), .code (cp [1, 1, 1, 0, 1, 0, 0, 1, 1, 0, 0, 1, 1] (bodyOf Try.f138)), .blk 1, .code (cp [1, 1, 1, 0, 1, 0, 0, 1, 1, 1] (bodyOf Try.f138)), .lp (cp [1, 1, 1, 0, 1, 0] (bodyOf Try.f138)), .blk 0, .code (cp [1, 1, 1, 1] (bodyOf Try.f138))] (FinX Try.prog Try.f138 [] (bl r) []) ⟨[(1, .sl false 1 t1.length ((eInt).f t1)), (5, i64 t5), (6, i64 t6), (7, i64 t7), (8, i64 t8), (13, .sl false 1 t13.length ((eInt).f t13)), (14, i64 t14), (15, i64 t15), (27, bl t27)], []⟩ := by
  unfold Dimpl_weighs_0 at h
  refine x_frk 0 [] onil h (by kernel_rfl) (fun h => ?_) (fun h => ?_)
  · replace h := Option.some.inj h; subst h
    exact x_end 4 [] [] onil onil (by kernel_rfl)
  · obtain ⟨v4, hv4, h⟩ := bind_some h
    exact x_to 18 [(4, .val (.cptr (eInt.c v4 ++ (eInt).f ((t1).drop (Int.toNat t7 + 1)))))] (ocons (ix eInt hv4) onil) (hrec0 (w64 (t6 + (w64 (t8 * v4))), w64 (t15 + 1)) r h) (by kernel_rfl)
def Dimpl_weighs_1 (n : Nat) (t1 : List Int) (t5 : Int) (t13 : List Int) (t14 : Int) (rec0 : (Int × Int) → Option Bool) (a : (Int × Int)) : Option Bool :=
  match a with
  | (t6, t15) => frk (decide (t15 < t14)) ((lget t13 t15).bind fun v2 => frk (t5 == 0) (some false) ((Dimpl_sign v2).bind fun v3 => Dimpl_weighs_0 n rec0 t1 t5 t13 t14 t6 t15 v2 t15 (v3 != t5))) (some (decide ((w64 (t6 * t5)) ≤ 0)))
theorem Timpl_weighs_1 {Y} (n : Nat) (t1 : List Int) (t5 : Int) (t13 : List Int) (t14 : Int) : ∀ (m : Nat) (a : (Int × Int)) (r : Bool), loopN (Dimpl_weighs_1 n t1 t5 t13 t14) m a = some r → Wk Try.prog H Y 138 [.code (cp [1, 1, 1, 0, 1, 0] (bodyOf Try.f138)), .blk 0, .code (cp [1, 1, 1, 1] (bodyOf Try.f138))] (FinX Try.prog Try.f138 [] (bl r) []) ⟨[(1, .sl false 1 t1.length ((eInt).f t1)), (5, i64 t5), (6, i64 a.1), (13, .sl false 1 t13.length ((eInt).f t13)), (14, i64 t14), (15, i64 a.2)], []⟩ := by
  refine loopN_ind (fun rec0 hrec0 a r h => ?_)
  obtain ⟨t6, t15⟩ := a
  unfold Dimpl_weighs_1 at h
  refine x_frk 6 [] onil h (by kernel_rfl) (fun h => ?_) (fun h => ?_)
  · obtain ⟨v2, hv2, h⟩ := bind_some h
    refine x_frk 17 [(1, .val (.cptr (eInt.c v2 ++ (eInt).f ((t13).drop (Int.toNat t15 + 1)))))] (ocons (ix eInt hv2) onil) h (by kernel_rfl) (fun h => ?_) (fun h => ?_)
    · replace h := Option.some.inj h; subst h
      exact x_end 11 [] [] onil onil (by kernel_rfl)
    · obtain ⟨v3, hv3, h⟩ := bind_some h
      exact x_to 6 [(1, .call [] [] (i64 v3) [])] (ocons (Timpl_sign (Y := Y) v2 _ hv3) onil) (Timpl_weighs_0 n rec0 t1 t5 t13 t14 hrec0 t6 t15 v2 t15 (v3 != t5) r h) (by kernel_rfl)
  · replace h := Option.some.inj h; subst h
    exact x_end 9 [] [] onil onil (by kernel_rfl)
def Dimpl_weighs (n : Nat) (a0 : (List Int)) (a1 : (List Int)) : Option Bool :=
  (lget a0 0).bind fun v0 => (Dimpl_sign v0).bind fun v1 => loopN (Dimpl_weighs_1 n a1 v1 a0 (a0.length : Int)) n (0, 0)
theorem Timpl_weighs {Y} (n : Nat) (a0 : (List Int)) (a1 : (List Int)) (r : Bool) (h : Dimpl_weighs n a0 a1 = some r) : Big Try.prog H Y (.call 138 [.sl false 1 a0.length ((eInt).f a0), .sl false 1 a1.length ((eInt).f a1)] (lk []) (bl r) (lk [])) := by
  unfold Dimpl_weighs at h
  refine x_call (fn := Try.f138) (c := bodyOf Try.f138) (bs0 := []) Try.func138 (by kernel_rfl) (by kernel_rfl) ?_
  obtain ⟨v0, hv0, h⟩ := bind_some h
  obtain ⟨v1, hv1, h⟩ := bind_some h
  exact x_to 24 [(2, .val (.cptr (eInt.c v0 ++ (eInt).f ((a0).drop (Int.toNat 0 + 1))))), (1, .call [] [] (i64 v1) [])] (ocons (ix eInt hv0) (ocons (Timpl_sign (Y := Y) v0 _ hv1) onil)) (Timpl_weighs_1 n a1 v1 a0 (a0.length : Int) n (0, 0) r h) (by kernel_rfl)
/-! impl.clash3 -/
def Dimpl_clash3 (n : Nat) (a0 : Pl) (a1 : Pl) (a2 : Pl) : Option Bool :=
  (Dimpl_normal a0).bind fun v0 => (Dimpl_normal a1).bind fun v1 => (Dimpl_normal a2).bind fun v2 => (Dimpl_det v0 v1 v2).bind fun v3 => frk (v3 != 0) (some false) ((Dimpl_crossOf v0 v1).bind fun v4 => (Dimpl_crossOf v1 v2).bind fun v5 => (Dimpl_dot v5 v4).bind fun v6 => (Dimpl_crossOf v2 v0).bind fun v7 => (Dimpl_dot v7 v4).bind fun v8 => (Dimpl_dot v4 v4).bind fun v9 => (Dimpl_weighs n [v6, v8, v9] [a0.D, a1.D, a2.D]).bind fun v10 => some v10)
theorem Timpl_clash3 {Y} (n : Nat) (a0 : Pl) (a1 : Pl) (a2 : Pl) (r : Bool) (h : Dimpl_clash3 n a0 a1 a2 = some r) : Big Try.prog H Y (.call 123 [.agg [i64 a0.A, i64 a0.B, i64 a0.C, i64 a0.D], .agg [i64 a1.A, i64 a1.B, i64 a1.C, i64 a1.D], .agg [i64 a2.A, i64 a2.B, i64 a2.C, i64 a2.D]] (lk []) (bl r) (lk [])) := by
  unfold Dimpl_clash3 at h
  refine x_call (fn := Try.f123) (c := bodyOf Try.f123) (bs0 := []) Try.func123 (by kernel_rfl) (by kernel_rfl) ?_
  obtain ⟨v0, hv0, h⟩ := bind_some h
  obtain ⟨v1, hv1, h⟩ := bind_some h
  obtain ⟨v2, hv2, h⟩ := bind_some h
  obtain ⟨v3, hv3, h⟩ := bind_some h
  refine x_frk 31 [(5, .call [] [] (.agg [i64 v0.1, i64 v0.2.1, i64 v0.2.2]) []), (1, .call [] [] (.agg [i64 v1.1, i64 v1.2.1, i64 v1.2.2]) []), (1, .call [] [] (.agg [i64 v2.1, i64 v2.2.1, i64 v2.2.2]) []), (9, .call [] [] (i64 v3) [])] (ocons (Timpl_normal (Y := Y) a0 _ hv0) (ocons (Timpl_normal (Y := Y) a1 _ hv1) (ocons (Timpl_normal (Y := Y) a2 _ hv2) (ocons (Timpl_det (Y := Y) v0 v1 v2 _ hv3) onil)))) h (by kernel_rfl) (fun h => ?_) (fun h => ?_)
  · replace h := Option.some.inj h; subst h
    exact x_end 4 [] [] onil onil (by kernel_rfl)
  · obtain ⟨v4, hv4, h⟩ := bind_some h
    obtain ⟨v5, hv5, h⟩ := bind_some h
    obtain ⟨v6, hv6, h⟩ := bind_some h
    obtain ⟨v7, hv7, h⟩ := bind_some h
    obtain ⟨v8, hv8, h⟩ := bind_some h
    obtain ⟨v9, hv9, h⟩ := bind_some h
    obtain ⟨v10, hv10, h⟩ := bind_some h
    replace h := Option.some.inj h; subst h
    exact x_end 35 [(2, .call [] [] (.agg [i64 v4.1, i64 v4.2.1, i64 v4.2.2]) []), (4, .call [] [] (.agg [i64 v5.1, i64 v5.2.1, i64 v5.2.2]) []), (1, .call [] [] (i64 v6) []), (2, .call [] [] (.agg [i64 v7.1, i64 v7.2.1, i64 v7.2.2]) []), (1, .call [] [] (i64 v8) []), (2, .call [] [] (i64 v9) []), (8, .call [] [(eInt).f [a0.D, a1.D, a2.D], (eInt).f [v6, v8, v9]] (bl v10) [])] [] (ocons (Timpl_crossOf (Y := Y) v0 v1 _ hv4) (ocons (Timpl_crossOf (Y := Y) v1 v2 _ hv5) (ocons (Timpl_dot (Y := Y) v5 v4 _ hv6) (ocons (Timpl_crossOf (Y := Y) v2 v0 _ hv7) (ocons (Timpl_dot (Y := Y) v7 v4 _ hv8) (ocons (Timpl_dot (Y := Y) v4 v4 _ hv9) (ocons (Timpl_weighs (Y := Y) n [v6, v8, v9] [a0.D, a1.D, a2.D] _ hv10) (ocons (len_row (L := [v6, v8, v9]) eInt) (ocons (Enc.share eInt eInt sInt [v6, v8, v9]) (ocons (len_row (L := [a0.D, a1.D, a2.D]) eInt) (ocons (Enc.share eInt eInt sInt [a0.D, a1.D, a2.D]) onil))))))))))) onil (by kernel_rfl)
/-! impl.det3 -/
def Dimpl_det3 (a0 : Pl) (a1 : Pl) (a2 : Pl) : Option Int :=
  (Dimpl_normal a0).bind fun v0 => (Dimpl_normal a1).bind fun v1 => (Dimpl_normal a2).bind fun v2 => (Dimpl_det v0 v1 v2).bind fun v3 => some v3
theorem Timpl_det3 {Y} (a0 : Pl) (a1 : Pl) (a2 : Pl) (r : Int) (h : Dimpl_det3 a0 a1 a2 = some r) : Big Try.prog H Y (.call 140 [.agg [i64 a0.A, i64 a0.B, i64 a0.C, i64 a0.D], .agg [i64 a1.A, i64 a1.B, i64 a1.C, i64 a1.D], .agg [i64 a2.A, i64 a2.B, i64 a2.C, i64 a2.D]] (lk []) (i64 r) (lk [])) := by
  unfold Dimpl_det3 at h
  refine x_call (fn := Try.f140) (c := bodyOf Try.f140) (bs0 := []) Try.func140 (by kernel_rfl) (by kernel_rfl) ?_
  obtain ⟨v0, hv0, h⟩ := bind_some h
  obtain ⟨v1, hv1, h⟩ := bind_some h
  obtain ⟨v2, hv2, h⟩ := bind_some h
  obtain ⟨v3, hv3, h⟩ := bind_some h
  replace h := Option.some.inj h; subst h
  exact x_end 18 [(5, .call [] [] (.agg [i64 v0.1, i64 v0.2.1, i64 v0.2.2]) []), (1, .call [] [] (.agg [i64 v1.1, i64 v1.2.1, i64 v1.2.2]) []), (1, .call [] [] (.agg [i64 v2.1, i64 v2.2.1, i64 v2.2.2]) []), (0, .call [] [] (i64 v3) [])] [] (ocons (Timpl_normal (Y := Y) a0 _ hv0) (ocons (Timpl_normal (Y := Y) a1 _ hv1) (ocons (Timpl_normal (Y := Y) a2 _ hv2) (ocons (Timpl_det (Y := Y) v0 v1 v2 _ hv3) onil)))) onil (by kernel_rfl)
/-! impl.clash4 -/
def Dimpl_clash4 (n : Nat) (a0 : Pl) (a1 : Pl) (a2 : Pl) (a3 : Pl) : Option Bool :=
  (Dimpl_det3 a1 a2 a3).bind fun v0 => (Dimpl_det3 a0 a2 a3).bind fun v1 => (Dimpl_det3 a0 a1 a3).bind fun v2 => (Dimpl_det3 a0 a1 a2).bind fun v3 => (Dimpl_weighs n [v0, w64 (0 - v1), v2, w64 (0 - v3)] [a0.D, a1.D, a2.D, a3.D]).bind fun v4 => some v4
theorem Timpl_clash4 {Y} (n : Nat) (a0 : Pl) (a1 : Pl) (a2 : Pl) (a3 : Pl) (r : Bool) (h : Dimpl_clash4 n a0 a1 a2 a3 = some r) : Big Try.prog H Y (.call 124 [.agg [i64 a0.A, i64 a0.B, i64 a0.C, i64 a0.D], .agg [i64 a1.A, i64 a1.B, i64 a1.C, i64 a1.D], .agg [i64 a2.A, i64 a2.B, i64 a2.C, i64 a2.D], .agg [i64 a3.A, i64 a3.B, i64 a3.C, i64 a3.D]] (lk []) (bl r) (lk [])) := by
  unfold Dimpl_clash4 at h
  refine x_call (fn := Try.f124) (c := bodyOf Try.f124) (bs0 := []) Try.func124 (by kernel_rfl) (by kernel_rfl) ?_
  obtain ⟨v0, hv0, h⟩ := bind_some h
  obtain ⟨v1, hv1, h⟩ := bind_some h
  obtain ⟨v2, hv2, h⟩ := bind_some h
  obtain ⟨v3, hv3, h⟩ := bind_some h
  obtain ⟨v4, hv4, h⟩ := bind_some h
  replace h := Option.some.inj h; subst h
  exact x_end 46 [(8, .call [] [] (i64 v0) []), (3, .call [] [] (i64 v1) []), (4, .call [] [] (i64 v2) []), (3, .call [] [] (i64 v3) []), (13, .call [] [(eInt).f [a0.D, a1.D, a2.D, a3.D], (eInt).f [v0, w64 (0 - v1), v2, w64 (0 - v3)]] (bl v4) [])] [] (ocons (Timpl_det3 (Y := Y) a1 a2 a3 _ hv0) (ocons (Timpl_det3 (Y := Y) a0 a2 a3 _ hv1) (ocons (Timpl_det3 (Y := Y) a0 a1 a3 _ hv2) (ocons (Timpl_det3 (Y := Y) a0 a1 a2 _ hv3) (ocons (Timpl_weighs (Y := Y) n [v0, w64 (0 - v1), v2, w64 (0 - v3)] [a0.D, a1.D, a2.D, a3.D] _ hv4) (ocons (len_row (L := [v0, w64 (0 - v1), v2, w64 (0 - v3)]) eInt) (ocons (Enc.share eInt eInt sInt [v0, w64 (0 - v1), v2, w64 (0 - v3)]) (ocons (len_row (L := [a0.D, a1.D, a2.D, a3.D]) eInt) (ocons (Enc.share eInt eInt sInt [a0.D, a1.D, a2.D, a3.D]) onil))))))))) onil (by kernel_rfl)
/-! impl.room -/
def Dimpl_room_0 (n : Nat) (rec1 : Int → Option Bool) (_rec0 : Int → Option Bool) (_t13 : Int) (_t23 : List Pl) (_t24 b6_0 b6_1 b6_2 b6_3 : Int) (_t0 : List Pl) (_t11 : List Pl) (_t12 b3_0 b3_1 b3_2 b3_3 t25 : Int) (t36 : List Pl) (t37 b8_0 b8_1 b8_2 b8_3 : Int) (rec2 : Int → Option Bool) (a : Int) : Option Bool :=
  match a with
  | t38 => frk (decide (t38 < t37)) ((lget t36 t38).bind fun v6 => (Dimpl_clash4 n v6 (Pl.mk b8_0 b8_1 b8_2 b8_3) (Pl.mk b6_0 b6_1 b6_2 b6_3) (Pl.mk b3_0 b3_1 b3_2 b3_3)).bind fun v7 => frk v7 (some false) (rec2 (w64 (t38 + 1)))) (rec1 (w64 (t25 + 1)))
theorem Timpl_room_0 {Y} (n : Nat) (rec1 : Int → Option Bool) (rec0 : Int → Option Bool) (t13 : Int) (t23 : List Pl) (t24 b6_0 b6_1 b6_2 b6_3 : Int) (t0 : List Pl) (t11 : List Pl) (t12 b3_0 b3_1 b3_2 b3_3 : Int) (hrec1 : ∀ (a : Int) (r : Bool), rec1 a = some r → Wk Try.prog H Y 99 [.code (cp [1, 0, 1, 0, 0, 1, 1, 0, 0, 1, 1, 1, 0] (bodyOf Try.f99)), .blk 2, .blk 1, .code (cp [1, 0, 1, 0, 0, 1, 1, 1] (bodyOf Try.f99)), .lp (cp [1, 0, 1, 0] (bodyOf Try.f99)), .blk 0, .code (cp [1, 1] (bodyOf Try.f99))] (FinX Try.prog Try.f99 [] (bl r) []) ⟨[(0, .sl false 4 t0.length ((ePl).f t0)), (3, .ptr 3 0), (6, .ptr 6 0), (11, .sl false 4 t11.length ((ePl).f t11)), (12, i64 t12), (13, i64 t13), (23, .sl false 4 t23.length ((ePl).f t23)), (24, i64 t24), (25, i64 a)], [(3, ⟨true, 0, [i64 b3_0, i64 b3_1, i64 b3_2, i64 b3_3]⟩), (6, ⟨true, 0, [i64 b6_0, i64 b6_1, i64 b6_2, i64 b6_3]⟩)]⟩) (_hrec0 : ∀ (a : Int) (r : Bool), rec0 a = some r → Wk Try.prog H Y 99 [.code (cp [1, 0, 1, 0] (bodyOf Try.f99)), .blk 0, .code (cp [1, 1] (bodyOf Try.f99))] (FinX Try.prog Try.f99 [] (bl r) []) ⟨[(0, .sl false 4 t0.length ((ePl).f t0)), (3, .ptr 3 0), (11, .sl false 4 t11.length ((ePl).f t11)), (12, i64 t12), (13, i64 a)], [(3, ⟨true, 0, [i64 b3_0, i64 b3_1, i64 b3_2, i64 b3_3]⟩)]⟩) (t25 : Int) (t36 : List Pl) (t37 b8_0 b8_1 b8_2 b8_3 : Int) : ∀ (m : Nat) (a : Int) (r : Bool), loopN (Dimpl_room_0 n rec1 rec0 t13 t23 t24 b6_0 b6_1 b6_2 b6_3 t0 t11 t12 b3_0 b3_1 b3_2 b3_3 t25 t36 t37 b8_0 b8_1 b8_2 b8_3) m a = some r → Wk Try.prog H Y 99 [.code (cp [1, 0, 1, 0, 0, 1, 1, 0, 0, 1, 1, 1, 0, 0, 1, 1, 0, 0, 1, 1, 1, 0] (bodyOf Try.f99)), .blk 4, .blk 3, .code (cp [1, 0, 1, 0, 0, 1, 1, 0, 0, 1, 1, 1, 0, 0, 1, 1, 1] (bodyOf Try.f99)), .lp (cp [1, 0, 1, 0, 0, 1, 1, 0, 0, 1, 1, 1, 0] (bodyOf Try.f99)), .blk 2, .blk 1, .code (cp [1, 0, 1, 0, 0, 1, 1, 1] (bodyOf Try.f99)), .lp (cp [1, 0, 1, 0] (bodyOf Try.f99)), .blk 0, .code (cp [1, 1] (bodyOf Try.f99))] (FinX Try.prog Try.f99 [] (bl r) []) ⟨[(0, .sl false 4 t0.length ((ePl).f t0)), (3, .ptr 3 0), (6, .ptr 6 0), (8, .ptr 8 0), (11, .sl false 4 t11.length ((ePl).f t11)), (12, i64 t12), (13, i64 t13), (23, .sl false 4 t23.length ((ePl).f t23)), (24, i64 t24), (25, i64 t25), (36, .sl false 4 t36.length ((ePl).f t36)), (37, i64 t37), (38, i64 a)], [(3, ⟨true, 0, [i64 b3_0, i64 b3_1, i64 b3_2, i64 b3_3]⟩), (6, ⟨true, 0, [i64 b6_0, i64 b6_1, i64 b6_2, i64 b6_3]⟩), (8, ⟨true, 0, [i64 b8_0, i64 b8_1, i64 b8_2, i64 b8_3]⟩)]⟩ := by
  refine loopN_ind (fun _rec2 hrec2 a r h => ?_)
  obtain ⟨t38, rfl⟩ : ∃ x, x = a := ⟨a, rfl⟩
  unfold Dimpl_room_0 at h
  refine x_frk 6 [] onil h (by kernel_rfl) (fun h => ?_) (fun h => ?_)
  · obtain ⟨v6, hv6, h⟩ := bind_some h
    obtain ⟨v7, hv7, h⟩ := bind_some h
    refine x_frk 18 [(0, .val (.cptr (ePl.c v6 ++ (ePl).f ((t36).drop (Int.toNat t38 + 1))))), (7, .call [] [] (bl v7) [])] (ocons (ix ePl hv6) (ocons (Timpl_clash4 (Y := Y) n v6 (Pl.mk b8_0 b8_1 b8_2 b8_3) (Pl.mk b6_0 b6_1 b6_2 b6_3) (Pl.mk b3_0 b3_1 b3_2 b3_3) _ hv7) onil)) h (by kernel_rfl) (fun h => ?_) (fun h => ?_)
    · replace h := Option.some.inj h; subst h
      exact x_end 4 [] [] onil onil (by kernel_rfl)
    · exact x_to 7 [] onil (hrec2 (w64 (t38 + 1)) r h) (by kernel_rfl)
  · exact x_to 7 [] onil (hrec1 (w64 (t25 + 1)) r h) (by kernel_rfl)
def Dimpl_room_1 (n : Nat) (rec0 : Int → Option Bool) (t0 : List Pl) (t11 : List Pl) (t12 b3_0 b3_1 b3_2 b3_3 t13 : Int) (t23 : List Pl) (t24 b6_0 b6_1 b6_2 b6_3 : Int) (rec1 : Int → Option Bool) (a : Int) : Option Bool :=
  match a with
  | t25 => frk (decide (t25 < t24)) ((lget t23 t25).bind fun v3 => (Dimpl_clash3 n v3 (Pl.mk b6_0 b6_1 b6_2 b6_3) (Pl.mk b3_0 b3_1 b3_2 b3_3)).bind fun v4 => frk v4 (some false) ((lsl t0 0 t25).bind fun v5 => loopN (Dimpl_room_0 n rec1 rec0 t13 t23 t24 b6_0 b6_1 b6_2 b6_3 t0 t11 t12 b3_0 b3_1 b3_2 b3_3 t25 v5 (v5.length : Int) v3.A v3.B v3.C v3.D) n 0)) (rec0 (w64 (t13 + 1)))
theorem Timpl_room_1 {Y} (n : Nat) (rec0 : Int → Option Bool) (t0 : List Pl) (t11 : List Pl) (t12 b3_0 b3_1 b3_2 b3_3 : Int) (hrec0 : ∀ (a : Int) (r : Bool), rec0 a = some r → Wk Try.prog H Y 99 [.code (cp [1, 0, 1, 0] (bodyOf Try.f99)), .blk 0, .code (cp [1, 1] (bodyOf Try.f99))] (FinX Try.prog Try.f99 [] (bl r) []) ⟨[(0, .sl false 4 t0.length ((ePl).f t0)), (3, .ptr 3 0), (11, .sl false 4 t11.length ((ePl).f t11)), (12, i64 t12), (13, i64 a)], [(3, ⟨true, 0, [i64 b3_0, i64 b3_1, i64 b3_2, i64 b3_3]⟩)]⟩) (t13 : Int) (t23 : List Pl) (t24 b6_0 b6_1 b6_2 b6_3 : Int) : ∀ (m : Nat) (a : Int) (r : Bool), loopN (Dimpl_room_1 n rec0 t0 t11 t12 b3_0 b3_1 b3_2 b3_3 t13 t23 t24 b6_0 b6_1 b6_2 b6_3) m a = some r → Wk Try.prog H Y 99 [.code (cp [1, 0, 1, 0, 0, 1, 1, 0, 0, 1, 1, 1, 0] (bodyOf Try.f99)), .blk 2, .blk 1, .code (cp [1, 0, 1, 0, 0, 1, 1, 1] (bodyOf Try.f99)), .lp (cp [1, 0, 1, 0] (bodyOf Try.f99)), .blk 0, .code (cp [1, 1] (bodyOf Try.f99))] (FinX Try.prog Try.f99 [] (bl r) []) ⟨[(0, .sl false 4 t0.length ((ePl).f t0)), (3, .ptr 3 0), (6, .ptr 6 0), (11, .sl false 4 t11.length ((ePl).f t11)), (12, i64 t12), (13, i64 t13), (23, .sl false 4 t23.length ((ePl).f t23)), (24, i64 t24), (25, i64 a)], [(3, ⟨true, 0, [i64 b3_0, i64 b3_1, i64 b3_2, i64 b3_3]⟩), (6, ⟨true, 0, [i64 b6_0, i64 b6_1, i64 b6_2, i64 b6_3]⟩)]⟩ := by
  refine loopN_ind (fun rec1 hrec1 a r h => ?_)
  obtain ⟨t25, rfl⟩ : ∃ x, x = a := ⟨a, rfl⟩
  unfold Dimpl_room_1 at h
  refine x_frk 6 [] onil h (by kernel_rfl) (fun h => ?_) (fun h => ?_)
  · obtain ⟨v3, hv3, h⟩ := bind_some h
    obtain ⟨v4, hv4, h⟩ := bind_some h
    refine x_frk 20 [(1, .val (.cptr (ePl.c v3 ++ (ePl).f ((t23).drop (Int.toNat t25 + 1))))), (7, .call [] [] (bl v4) [])] (ocons (ix ePl hv3) (ocons (Timpl_clash3 (Y := Y) n v3 (Pl.mk b6_0 b6_1 b6_2 b6_3) (Pl.mk b3_0 b3_1 b3_2 b3_3) _ hv4) onil)) h (by kernel_rfl) (fun h => ?_) (fun h => ?_)
    · replace h := Option.some.inj h; subst h
      exact x_end 4 [] [] onil onil (by kernel_rfl)
    · obtain ⟨v5, hv5, h⟩ := bind_some h
      exact x_to 10 [(2, .val (.sl false 4 v5.length ((ePl).f v5)))] (ocons (slF ePl hv5) onil) (Timpl_room_0 n rec1 rec0 t13 t23 t24 b6_0 b6_1 b6_2 b6_3 t0 t11 t12 b3_0 b3_1 b3_2 b3_3 hrec1 hrec0 t25 v5 (v5.length : Int) v3.A v3.B v3.C v3.D n 0 r h) (by kernel_rfl)
  · exact x_to 7 [] onil (hrec0 (w64 (t13 + 1)) r h) (by kernel_rfl)
def Dimpl_room_2 (n : Nat) (t0 : List Pl) (t11 : List Pl) (t12 b3_0 b3_1 b3_2 b3_3 : Int) (rec0 : Int → Option Bool) (a : Int) : Option Bool :=
  match a with
  | t13 => frk (decide (t13 < t12)) ((lget t11 t13).bind fun v0 => (Dimpl_clash2 n v0 (Pl.mk b3_0 b3_1 b3_2 b3_3)).bind fun v1 => frk v1 (some false) ((lsl t0 0 t13).bind fun v2 => loopN (Dimpl_room_1 n rec0 t0 t11 t12 b3_0 b3_1 b3_2 b3_3 t13 v2 (v2.length : Int) v0.A v0.B v0.C v0.D) n 0)) (some true)
theorem Timpl_room_2 {Y} (n : Nat) (t0 : List Pl) (t11 : List Pl) (t12 b3_0 b3_1 b3_2 b3_3 : Int) : ∀ (m : Nat) (a : Int) (r : Bool), loopN (Dimpl_room_2 n t0 t11 t12 b3_0 b3_1 b3_2 b3_3) m a = some r → Wk Try.prog H Y 99 [.code (cp [1, 0, 1, 0] (bodyOf Try.f99)), .blk 0, .code (cp [1, 1] (bodyOf Try.f99))] (FinX Try.prog Try.f99 [] (bl r) []) ⟨[(0, .sl false 4 t0.length ((ePl).f t0)), (3, .ptr 3 0), (11, .sl false 4 t11.length ((ePl).f t11)), (12, i64 t12), (13, i64 a)], [(3, ⟨true, 0, [i64 b3_0, i64 b3_1, i64 b3_2, i64 b3_3]⟩)]⟩ := by
  refine loopN_ind (fun rec0 hrec0 a r h => ?_)
  obtain ⟨t13, rfl⟩ : ∃ x, x = a := ⟨a, rfl⟩
  unfold Dimpl_room_2 at h
  refine x_frk 6 [] onil h (by kernel_rfl) (fun h => ?_) (fun h => ?_)
  · obtain ⟨v0, hv0, h⟩ := bind_some h
    obtain ⟨v1, hv1, h⟩ := bind_some h
    refine x_frk 19 [(1, .val (.cptr (ePl.c v0 ++ (ePl).f ((t11).drop (Int.toNat t13 + 1))))), (6, .call [] [] (bl v1) [])] (ocons (ix ePl hv0) (ocons (Timpl_clash2 (Y := Y) n v0 (Pl.mk b3_0 b3_1 b3_2 b3_3) _ hv1) onil)) h (by kernel_rfl) (fun h => ?_) (fun h => ?_)
    · replace h := Option.some.inj h; subst h
      exact x_end 4 [] [] onil onil (by kernel_rfl)
    · obtain ⟨v2, hv2, h⟩ := bind_some h
      exact x_to 10 [(2, .val (.sl false 4 v2.length ((ePl).f v2)))] (ocons (slF ePl hv2) onil) (Timpl_room_1 n rec0 t0 t11 t12 b3_0 b3_1 b3_2 b3_3 hrec0 t13 v2 (v2.length : Int) v0.A v0.B v0.C v0.D n 0 r h) (by kernel_rfl)
  · replace h := Option.some.inj h; subst h
    exact x_end 5 [] [] onil onil (by kernel_rfl)
def Dimpl_room (n : Nat) (a0 : (List Pl)) (a1 : Pl) : Option Bool :=
  loopN (Dimpl_room_2 n a0 a0 (a0.length : Int) a1.A a1.B a1.C a1.D) n 0
theorem Timpl_room {Y} (n : Nat) (a0 : (List Pl)) (a1 : Pl) (r : Bool) (h : Dimpl_room n a0 a1 = some r) : Big Try.prog H Y (.call 99 [.sl false 4 a0.length ((ePl).f a0), .agg [i64 a1.A, i64 a1.B, i64 a1.C, i64 a1.D]] (lk []) (bl r) (lk [])) := by
  unfold Dimpl_room at h
  refine x_call (fn := Try.f99) (c := bodyOf Try.f99) (bs0 := []) Try.func99 (by kernel_rfl) (by kernel_rfl) ?_
  exact x_to 13 [] onil (Timpl_room_2 n a0 a0 (a0.length : Int) a1.A a1.B a1.C a1.D n 0 r h) (by kernel_rfl)
/-! impl.with -/
def Dimpl_with (a0 : (List Pl)) (a1 : Pl) : Option (List Pl) :=
  chk (apB 32 (0 + a0.length)) (chk (apB 32 (([] ++ a0).length + 1)) (some (([] ++ a0) ++ [a1])))
theorem Timpl_with {Y} (a0 : (List Pl)) (a1 : Pl) (r : (List Pl)) (h : Dimpl_with a0 a1 = some r) : Big Try.prog H Y (.call 49 [.sl false 4 a0.length ((ePl).f a0), .agg [i64 a1.A, i64 a1.B, i64 a1.C, i64 a1.D]] (lk []) (.sl true 4 r.length ((ePl).f r)) (lk [])) := by
  unfold Dimpl_with at h
  refine x_call (fn := Try.f49) (c := bodyOf Try.f49) (bs0 := []) Try.func49 (by kernel_rfl) (by kernel_rfl) ?_
  obtain ⟨c0, h⟩ := chk_some h
  obtain ⟨c1, h⟩ := chk_some h
  replace h := Option.some.inj h; subst h
  exact x_end 15 [(4, .app false (List.length ([] ++ a0)) ((ePl).f ([] ++ a0))), (2, .app false (List.length (([] ++ a0) ++ [a1])) ((ePl).f (([] ++ a0) ++ [a1])))] [] (ocons (len_row' (L := []) ePl) (ocons (app_one (L := []) (M := a0) ePl c0) (ocons (app_new (L := []) (M := a0) ePl) (ocons (app_m (L := []) (M := a0) ePl rfl) (ocons (len_row' (L := a0) ePl) (ocons (len_row' (L := ([] ++ a0)) ePl) (ocons (app_one (L := ([] ++ a0)) (M := [a1]) ePl c1) (ocons (app_new (L := ([] ++ a0)) (M := [a1]) ePl) (ocons (app_m (L := ([] ++ a0)) (M := [a1]) ePl rfl) (ocons (len_row' (L := [a1]) ePl) (ocons (Enc.noOwn ePl (fun _ => rfl) [a1]) onil))))))))))) (ocons (len_row (L := (([] ++ a0) ++ [a1])) ePl) onil) (by kernel_rfl)
/-! impl.checker).right -/
def Dimpl_checker_right_1 (_n : Nat) (self : (Int × Sol × (List Pl)) → Option (Bool × Int)) (t2 : List Pl) (t59 _b4_0 : Bool) (b4_1 b4_2 b4_3 b4_4 : Int) (b4_5 : List Sol) (b7_0 b7_1 b7_2 b7_3 b1000_0 : Int) : Option (Bool × Int) :=
  frk t59 (some (false, b1000_0)) ((lget b4_5 0).bind fun v5 => (Dimpl_with t2 (Pl.mk b4_1 b4_2 b4_3 b4_4)).bind fun v6 => (self (b1000_0, v5, v6)).bind fun v7 => frk v7.1 ((lget b4_5 1).bind fun v8 => (Dimpl_with t2 (Pl.mk b7_0 b7_1 b7_2 b7_3)).bind fun v9 => (self (v7.2, v8, v9)).bind fun v10 => some v10) (some (false, v7.2)))
theorem Timpl_checker_right_1 {Y} (n : Nat) (self : (Int × Sol × (List Pl)) → Option (Bool × Int)) (hself : ∀ (a : (Int × Sol × (List Pl))) (r : (Bool × Int)), self a = some r → Big Try.prog H Y (.call 76 [.ptr 1000 0, .agg [bl a.2.1.inn, i64 a.2.1.pl.A, i64 a.2.1.pl.B, i64 a.2.1.pl.C, i64 a.2.1.pl.D, .sl false 6 a.2.1.kids.length ((eSol false).f a.2.1.kids)], .sl false 4 a.2.2.length ((ePl).f a.2.2)] (lk [(1000, ⟨true, 0, [i64 a.1]⟩)]) (bl r.1) (lk [(1000, ⟨true, 0, [i64 r.2]⟩)]))) (t2 : List Pl) (t59 b4_0 : Bool) (b4_1 b4_2 b4_3 b4_4 : Int) (b4_5 : List Sol) (b7_0 b7_1 b7_2 b7_3 b1000_0 : Int) (r : (Bool × Int)) (h : Dimpl_checker_right_1 n self t2 t59 b4_0 b4_1 b4_2 b4_3 b4_4 b4_5 b7_0 b7_1 b7_2 b7_3 b1000_0 = some r) : Wk Try.prog H Y 76 [.code (cp [1, 1, 1, 1, 1, 0, 1] (bodyOf Try.f76)), .code (cp [1, 1, 1, 1, 1, 1] (bodyOf Try.f76))] (FinX Try.prog Try.f76 [(1000, ⟨true, 0, [.bad]⟩)] (bl r.1) [(1000, ⟨true, 0, [i64 r.2]⟩)]) ⟨[(0, .ptr 1000 0), (2, .sl false 4 t2.length ((ePl).f t2)), (4, .ptr 4 0), (7, .ptr 7 0), (59, bl t59)], [(4, ⟨true, 0, [bl b4_0, i64 b4_1, i64 b4_2, i64 b4_3, i64 b4_4, .sl false 6 b4_5.length ((eSol false).f b4_5)]⟩), (7, ⟨true, 0, [i64 b7_0, i64 b7_1, i64 b7_2, i64 b7_3]⟩), (1000, ⟨true, 0, [i64 b1000_0]⟩)]⟩ := by
  unfold Dimpl_checker_right_1 at h
  refine x_frk 0 [] onil h (by kernel_rfl) (fun h => ?_) (fun h => ?_)
  · replace h := Option.some.inj h; subst h
    exact x_end 4 [] [] onil onil (by kernel_rfl)
  · obtain ⟨v5, hv5, h⟩ := bind_some h
    obtain ⟨v6, hv6, h⟩ := bind_some h
    obtain ⟨v7, hv7, h⟩ := bind_some h
    refine x_frk 14 [(3, .val (.cptr ((eSol false).c v5 ++ (eSol false).f ((b4_5).drop (Int.toNat 0 + 1))))), (4, .call [] [] (.sl false 4 v6.length ((ePl).f v6)) []), (0, .call [] [] (bl v7.1) [(1000, ⟨true, 0, [i64 v7.2]⟩)])] (ocons (ix (eSol false) hv5) (ocons (shSl (L := v6) ePl ePl sPl (Timpl_with (Y := Y) t2 (Pl.mk b4_1 b4_2 b4_3 b4_4) _ hv6)) (ocons (hself (b1000_0, v5, v6) _ hv7) onil))) h (by kernel_rfl) (fun h => ?_) (fun h => ?_)
    · obtain ⟨v8, hv8, h⟩ := bind_some h
      obtain ⟨v9, hv9, h⟩ := bind_some h
      obtain ⟨v10, hv10, h⟩ := bind_some h
      replace h := Option.some.inj h; subst h
      exact x_end 12 [(3, .val (.cptr ((eSol false).c v8 ++ (eSol false).f ((b4_5).drop (Int.toNat 1 + 1))))), (3, .call [] [] (.sl false 4 v9.length ((ePl).f v9)) []), (0, .call [] [] (bl v10.1) [(1000, ⟨true, 0, [i64 v10.2]⟩)])] [] (ocons (ix (eSol false) hv8) (ocons (shSl (L := v9) ePl ePl sPl (Timpl_with (Y := Y) t2 (Pl.mk b7_0 b7_1 b7_2 b7_3) _ hv9)) (ocons (hself (v7.2, v8, v9) _ hv10) onil))) onil (by kernel_rfl)
    · replace h := Option.some.inj h; subst h
      exact x_end 12 [] [] onil onil (by kernel_rfl)
def Dimpl_checker_right_0 (n : Nat) (self : (Int × Sol × (List Pl)) → Option (Bool × Int)) (t2 : List Pl) (t45 b4_0 : Bool) (b4_1 b4_2 b4_3 b4_4 : Int) (b4_5 : List Sol) (b1000_0 : Int) : Option (Bool × Int) :=
  frk t45 (some (false, b1000_0)) ((Dimpl_flip (Pl.mk b4_1 b4_2 b4_3 b4_4)).bind fun v2 => (Dimpl_room n t2 (Pl.mk b4_1 b4_2 b4_3 b4_4)).bind fun v3 => frk (!v3) (some (false, b1000_0)) ((Dimpl_room n t2 v2).bind fun v4 => Dimpl_checker_right_1 n self t2 (!v4) b4_0 b4_1 b4_2 b4_3 b4_4 b4_5 v2.A v2.B v2.C v2.D b1000_0))
theorem Timpl_checker_right_0 {Y} (n : Nat) (self : (Int × Sol × (List Pl)) → Option (Bool × Int)) (hself : ∀ (a : (Int × Sol × (List Pl))) (r : (Bool × Int)), self a = some r → Big Try.prog H Y (.call 76 [.ptr 1000 0, .agg [bl a.2.1.inn, i64 a.2.1.pl.A, i64 a.2.1.pl.B, i64 a.2.1.pl.C, i64 a.2.1.pl.D, .sl false 6 a.2.1.kids.length ((eSol false).f a.2.1.kids)], .sl false 4 a.2.2.length ((ePl).f a.2.2)] (lk [(1000, ⟨true, 0, [i64 a.1]⟩)]) (bl r.1) (lk [(1000, ⟨true, 0, [i64 r.2]⟩)]))) (t2 : List Pl) (t45 b4_0 : Bool) (b4_1 b4_2 b4_3 b4_4 : Int) (b4_5 : List Sol) (b1000_0 : Int) (r : (Bool × Int)) (h : Dimpl_checker_right_0 n self t2 t45 b4_0 b4_1 b4_2 b4_3 b4_4 b4_5 b1000_0 = some r) : Wk Try.prog H Y 76 [.code (cp [1, 1, 1, 0, 1] (bodyOf Try.f76)), .code (cp [1, 1, 1, 1] (bodyOf Try.f76))] (FinX Try.prog Try.f76 [(1000, ⟨true, 0, [.bad]⟩)] (bl r.1) [(1000, ⟨true, 0, [i64 r.2]⟩)]) ⟨[(0, .ptr 1000 0), (2, .sl false 4 t2.length ((ePl).f t2)), (4, .ptr 4 0), (45, bl t45)], [(4, ⟨true, 0, [bl b4_0, i64 b4_1, i64 b4_2, i64 b4_3, i64 b4_4, .sl false 6 b4_5.length ((eSol false).f b4_5)]⟩), (1000, ⟨true, 0, [i64 b1000_0]⟩)]⟩ := by
  unfold Dimpl_checker_right_0 at h
  refine x_frk 0 [] onil h (by kernel_rfl) (fun h => ?_) (fun h => ?_)
  · replace h := Option.some.inj h; subst h
    exact x_end 4 [] [] onil onil (by kernel_rfl)
  · obtain ⟨v2, hv2, h⟩ := bind_some h
    obtain ⟨v3, hv3, h⟩ := bind_some h
    refine x_frk 18 [(2, .call [] [] (.agg [i64 v2.A, i64 v2.B, i64 v2.C, i64 v2.D]) []), (5, .call [] [] (bl v3) [])] (ocons (Timpl_flip (Y := Y) (Pl.mk b4_1 b4_2 b4_3 b4_4) _ hv2) (ocons (Timpl_room (Y := Y) n t2 (Pl.mk b4_1 b4_2 b4_3 b4_4) _ hv3) onil)) h (by kernel_rfl) (fun h => ?_) (fun h => ?_)
    · replace h := Option.some.inj h; subst h
      exact x_end 11 [] [] onil onil (by kernel_rfl)
    · obtain ⟨v4, hv4, h⟩ := bind_some h
      exact x_to 6 [(2, .call [] [] (bl v4) [])] (ocons (Timpl_room (Y := Y) n t2 v2 _ hv4) onil) (Timpl_checker_right_1 n self hself t2 (!v4) b4_0 b4_1 b4_2 b4_3 b4_4 b4_5 v2.A v2.B v2.C v2.D b1000_0 r h) (by kernel_rfl)
def Dimpl_checker_right_b (n : Nat) (self : (Int × Sol × (List Pl)) → Option (Bool × Int)) (a : (Int × Sol × (List Pl))) : Option (Bool × Int) :=
  match a with
  | (a0, a1, a2) => (Dimpl_Solid_isLeaf a1).bind fun v0 => frk v0 (some ((a1.pl.A == 0 && (a1.pl.B == 0 && (a1.pl.C == 0 && (a1.pl.D == 0 && true)))), a0)) (frk a1.inn (some (false, w64 (a0 + 1))) (frk ((a1.kids.length : Int) != 2) (some (false, w64 (a0 + 1))) (frk (decide ((w64 (a0 + 1)) > 300)) (some (false, w64 (a0 + 1))) (frk (decide ((a2.length : Int) ≥ 24)) (some (false, w64 (a0 + 1))) ((Dimpl_PlaneOk n a1.pl).bind fun v1 => Dimpl_checker_right_0 n self a2 (!v1) a1.inn a1.pl.A a1.pl.B a1.pl.C a1.pl.D a1.kids (w64 (a0 + 1)))))))
def Dimpl_checker_right (n : Nat) (a0 : Int) (a1 : Sol) (a2 : (List Pl)) : Option (Bool × Int) := loopN (Dimpl_checker_right_b n) n (a0, a1, a2)
theorem Timpl_checker_right_b {Y} (n : Nat) : ∀ (m : Nat) (a : (Int × Sol × (List Pl))) (r : (Bool × Int)), loopN (Dimpl_checker_right_b n) m a = some r → ∀ (_ : Unit), Big Try.prog H Y (.call 76 [.ptr 1000 0, .agg [bl a.2.1.inn, i64 a.2.1.pl.A, i64 a.2.1.pl.B, i64 a.2.1.pl.C, i64 a.2.1.pl.D, .sl false 6 a.2.1.kids.length ((eSol false).f a.2.1.kids)], .sl false 4 a.2.2.length ((ePl).f a.2.2)] (lk [(1000, ⟨true, 0, [i64 a.1]⟩)]) (bl r.1) (lk [(1000, ⟨true, 0, [i64 r.2]⟩)])) := by
  refine loopN_ind (fun self hs a r h => ?_)
  have hself : ∀ (a : (Int × Sol × (List Pl))) (r : (Bool × Int)), self a = some r → Big Try.prog H Y (.call 76 [.ptr 1000 0, .agg [bl a.2.1.inn, i64 a.2.1.pl.A, i64 a.2.1.pl.B, i64 a.2.1.pl.C, i64 a.2.1.pl.D, .sl false 6 a.2.1.kids.length ((eSol false).f a.2.1.kids)], .sl false 4 a.2.2.length ((ePl).f a.2.2)] (lk [(1000, ⟨true, 0, [i64 a.1]⟩)]) (bl r.1) (lk [(1000, ⟨true, 0, [i64 r.2]⟩)])) := fun a r h => hs a r h ()
  intro _
  obtain ⟨a0, a1, a2⟩ := a
  unfold Dimpl_checker_right_b at h
  refine x_call (fn := Try.f76) (c := bodyOf Try.f76) (bs0 := [(1000, ⟨true, 0, [.bad]⟩)]) Try.func76 (by kernel_rfl) (by kernel_rfl) ?_
  obtain ⟨v0, hv0, h⟩ := bind_some h
  refine x_frk 10 [(2, .call [] [] (bl v0) [])] (ocons (Timpl_Solid_isLeaf (Y := Y) a1 [] _ hv0) onil) h (by kernel_rfl) (fun h => ?_) (fun h => ?_)
  · replace h := Option.some.inj h; subst h
    exact x_end 8 [] [] onil onil (by kernel_rfl)
  · refine x_frk 18 [] onil h (by kernel_rfl) (fun h => ?_) (fun h => ?_)
    · replace h := Option.some.inj h; subst h
      exact x_end 29 [] [] onil onil (by kernel_rfl)
    · refine x_frk 6 [] onil h (by kernel_rfl) (fun h => ?_) (fun h => ?_)
      · replace h := Option.some.inj h; subst h
        exact x_end 23 [] [] onil onil (by kernel_rfl)
      · refine x_frk 7 [] onil h (by kernel_rfl) (fun h => ?_) (fun h => ?_)
        · replace h := Option.some.inj h; subst h
          exact x_end 16 [] [] onil onil (by kernel_rfl)
        · refine x_frk 5 [] onil h (by kernel_rfl) (fun h => ?_) (fun h => ?_)
          · replace h := Option.some.inj h; subst h
            exact x_end 11 [] [] onil onil (by kernel_rfl)
          · obtain ⟨v1, hv1, h⟩ := bind_some h
            exact x_to 6 [(2, .call [] [] (bl v1) [])] (ocons (Timpl_PlaneOk (Y := Y) n a1.pl _ hv1) onil) (Timpl_checker_right_0 n self hself a2 (!v1) a1.inn a1.pl.A a1.pl.B a1.pl.C a1.pl.D a1.kids (w64 (a0 + 1)) r h) (by kernel_rfl)
theorem Timpl_checker_right {Y} (n : Nat) (a0 : Int) (a1 : Sol) (a2 : (List Pl)) (r : (Bool × Int)) (h : Dimpl_checker_right n a0 a1 a2 = some r) : Big Try.prog H Y (.call 76 [.ptr 1000 0, .agg [bl a1.inn, i64 a1.pl.A, i64 a1.pl.B, i64 a1.pl.C, i64 a1.pl.D, .sl false 6 a1.kids.length ((eSol false).f a1.kids)], .sl false 4 a2.length ((ePl).f a2)] (lk [(1000, ⟨true, 0, [i64 a0]⟩)]) (bl r.1) (lk [(1000, ⟨true, 0, [i64 r.2]⟩)])) := Timpl_checker_right_b n n (a0, a1, a2) r h ()
/-! impl.SolidOk -/
def Dimpl_SolidOk (n : Nat) (a0 : Sol) : Option Bool :=
  (Dimpl_checker_right n 0 a0 []).bind fun v0 => some v0.1
theorem Timpl_SolidOk {Y} (n : Nat) (a0 : Sol) (r : Bool) (h : Dimpl_SolidOk n a0 = some r) : Big Try.prog H Y (.call 29 [.agg [bl a0.inn, i64 a0.pl.A, i64 a0.pl.B, i64 a0.pl.C, i64 a0.pl.D, .sl false 6 a0.kids.length ((eSol false).f a0.kids)]] (lk []) (bl r) (lk [])) := by
  unfold Dimpl_SolidOk at h
  refine x_call (fn := Try.f29) (c := bodyOf Try.f29) (bs0 := []) Try.func29 (by kernel_rfl) (by kernel_rfl) ?_
  obtain ⟨v0, hv0, h⟩ := bind_some h
  replace h := Option.some.inj h; subst h
  exact x_end 15 [(4, .call [(false, 4)] [] (bl v0.1) [(1000, ⟨true, 0, [i64 v0.2]⟩)])] [] (ocons (Timpl_checker_right (Y := Y) n 0 a0 [] _ hv0) onil) onil (by kernel_rfl)
/-! impl.Leaf -/
def Dimpl_Leaf (a0 : Bool) : Option Sol :=
  some (Sol.mk a0 (Pl.mk 0 0 0 0) [])
theorem Timpl_Leaf {Y} (a0 : Bool) (r : Sol) (h : Dimpl_Leaf a0 = some r) : Big Try.prog H Y (.call 57 [bl a0] (lk []) (.agg [bl r.inn, i64 r.pl.A, i64 r.pl.B, i64 r.pl.C, i64 r.pl.D, .sl true 6 r.kids.length ((eSol true).f r.kids)]) (lk [])) := by
  unfold Dimpl_Leaf at h
  refine x_call (fn := Try.f57) (c := bodyOf Try.f57) (bs0 := []) Try.func57 (by kernel_rfl) (by kernel_rfl) ?_
  replace h := Option.some.inj h; subst h
  exact x_end 10 [] [(true, 6)] onil onil (by kernel_rfl)
/-! impl.node -/
def Dimpl_nodeo1o2 (a0 : Pl) (a1 : Sol) (a2 : Sol) : Option Sol :=
  some (Sol.mk false a0 [a1, a2])
theorem Timpl_nodeo1o2 {Y} (a0 : Pl) (a1 : Sol) (a2 : Sol) (r : Sol) (h : Dimpl_nodeo1o2 a0 a1 a2 = some r) : Big Try.prog H Y (.call 90 [.agg [i64 a0.A, i64 a0.B, i64 a0.C, i64 a0.D], .agg [bl a1.inn, i64 a1.pl.A, i64 a1.pl.B, i64 a1.pl.C, i64 a1.pl.D, .sl true 6 a1.kids.length ((eSol true).f a1.kids)], .agg [bl a2.inn, i64 a2.pl.A, i64 a2.pl.B, i64 a2.pl.C, i64 a2.pl.D, .sl true 6 a2.kids.length ((eSol true).f a2.kids)]] (lk []) (.agg [bl r.inn, i64 r.pl.A, i64 r.pl.B, i64 r.pl.C, i64 r.pl.D, .sl true 6 r.kids.length ((eSol true).f r.kids)]) (lk [])) := by
  unfold Dimpl_nodeo1o2 at h
  refine x_call (fn := Try.f90) (c := bodyOf Try.f90) (bs0 := []) Try.func90 (by kernel_rfl) (by kernel_rfl) ?_
  replace h := Option.some.inj h; subst h
  exact x_end 17 [(8, .fixb 10 ⟨true, 6, (eSol true).f [a1, a2]⟩)] [] (ocons (boxSol true true [a1, a2]) onil) (ocons (len_row (L := [a1, a2]) (eSol true)) onil) (by kernel_rfl)
/-! impl.not -/
def Dimpl_not_b (_n : Nat) (self : Sol → Option Sol) (a : Sol) : Option Sol :=
  match a with
  | a0 => (Dimpl_Solid_isLeaf a0).bind fun v0 => frk v0 ((Dimpl_Leaf (!a0.inn)).bind fun v1 => some v1) ((lget a0.kids 0).bind fun v2 => (self v2).bind fun v3 => (lget a0.kids 1).bind fun v4 => (self v4).bind fun v5 => (Dimpl_nodeo1o2 a0.pl v3 v5).bind fun v6 => some v6)
def Dimpl_not (n : Nat) (a0 : Sol) : Option Sol := loopN (Dimpl_not_b n) n a0
theorem Timpl_not_b {Y} (n : Nat) : ∀ (m : Nat) (a : Sol) (r : Sol), loopN (Dimpl_not_b n) m a = some r → ∀ (_ : Unit), Big Try.prog H Y (.call 58 [.agg [bl a.inn, i64 a.pl.A, i64 a.pl.B, i64 a.pl.C, i64 a.pl.D, .sl false 6 a.kids.length ((eSol false).f a.kids)]] (lk []) (.agg [bl r.inn, i64 r.pl.A, i64 r.pl.B, i64 r.pl.C, i64 r.pl.D, .sl true 6 r.kids.length ((eSol true).f r.kids)]) (lk [])) := by
  refine loopN_ind (fun self hs a r h => ?_)
  have hself : ∀ (a : Sol) (r : Sol), self a = some r → Big Try.prog H Y (.call 58 [.agg [bl a.inn, i64 a.pl.A, i64 a.pl.B, i64 a.pl.C, i64 a.pl.D, .sl false 6 a.kids.length ((eSol false).f a.kids)]] (lk []) (.agg [bl r.inn, i64 r.pl.A, i64 r.pl.B, i64 r.pl.C, i64 r.pl.D, .sl true 6 r.kids.length ((eSol true).f r.kids)]) (lk [])) := fun a r h => hs a r h ()
  intro _
  obtain ⟨a0, rfl⟩ : ∃ x, x = a := ⟨a, rfl⟩
  unfold Dimpl_not_b at h
  refine x_call (fn := Try.f58) (c := bodyOf Try.f58) (bs0 := []) Try.func58 (by kernel_rfl) (by kernel_rfl) ?_
  obtain ⟨v0, hv0, h⟩ := bind_some h
  refine x_frk 10 [(2, .call [] [] (bl v0) [])] (ocons (Timpl_Solid_isLeaf (Y := Y) a0 [] _ hv0) onil) h (by kernel_rfl) (fun h => ?_) (fun h => ?_)
  · obtain ⟨v1, hv1, h⟩ := bind_some h
    replace h := Option.some.inj h; subst h
    exact x_end 8 [(3, .call [] [] (.agg [bl v1.inn, i64 v1.pl.A, i64 v1.pl.B, i64 v1.pl.C, i64 v1.pl.D, .sl true 6 v1.kids.length ((eSol true).f v1.kids)]) [])] [] (ocons (Timpl_Leaf (Y := Y) (!a0.inn) _ hv1) onil) onil (by kernel_rfl)
  · obtain ⟨v2, hv2, h⟩ := bind_some h
    obtain ⟨v3, hv3, h⟩ := bind_some h
    obtain ⟨v4, hv4, h⟩ := bind_some h
    obtain ⟨v5, hv5, h⟩ := bind_some h
    obtain ⟨v6, hv6, h⟩ := bind_some h
    replace h := Option.some.inj h; subst h
    exact x_end 18 [(4, .val (.cptr ((eSol false).c v2 ++ (eSol false).f ((a0.kids).drop (Int.toNat 0 + 1))))), (1, .call [] [] (.agg [bl v3.inn, i64 v3.pl.A, i64 v3.pl.B, i64 v3.pl.C, i64 v3.pl.D, .sl true 6 v3.kids.length ((eSol true).f v3.kids)]) []), (2, .val (.cptr ((eSol false).c v4 ++ (eSol false).f ((a0.kids).drop (Int.toNat 1 + 1))))), (1, .call [] [] (.agg [bl v5.inn, i64 v5.pl.A, i64 v5.pl.B, i64 v5.pl.C, i64 v5.pl.D, .sl true 6 v5.kids.length ((eSol true).f v5.kids)]) []), (0, .call [] [] (.agg [bl v6.inn, i64 v6.pl.A, i64 v6.pl.B, i64 v6.pl.C, i64 v6.pl.D, .sl true 6 v6.kids.length ((eSol true).f v6.kids)]) [])] [] (ocons (ix (eSol false) hv2) (ocons (hself v2 _ hv3) (ocons (ix (eSol false) hv4) (ocons (hself v4 _ hv5) (ocons (Timpl_nodeo1o2 (Y := Y) a0.pl v3 v5 _ hv6) onil))))) onil (by kernel_rfl)
theorem Timpl_not {Y} (n : Nat) (a0 : Sol) (r : Sol) (h : Dimpl_not n a0 = some r) : Big Try.prog H Y (.call 58 [.agg [bl a0.inn, i64 a0.pl.A, i64 a0.pl.B, i64 a0.pl.C, i64 a0.pl.D, .sl false 6 a0.kids.length ((eSol false).f a0.kids)]] (lk []) (.agg [bl r.inn, i64 r.pl.A, i64 r.pl.B, i64 r.pl.C, i64 r.pl.D, .sl true 6 r.kids.length ((eSol true).f r.kids)]) (lk [])) := Timpl_not_b n n a0 r h ()
/-! impl.Not -/
def Dimpl_Not (n : Nat) (a0 : Sol) : Option Sol :=
  (Dimpl_SolidOk n a0).bind fun v0 => frk (!v0) ((Dimpl_Leaf false).bind fun v1 => some v1) ((Dimpl_not n a0).bind fun v2 => some v2)
theorem Timpl_Not {Y} (n : Nat) (a0 : Sol) (r : Sol) (h : Dimpl_Not n a0 = some r) : Big Try.prog H Y (.call 22 [.agg [bl a0.inn, i64 a0.pl.A, i64 a0.pl.B, i64 a0.pl.C, i64 a0.pl.D, .sl false 6 a0.kids.length ((eSol false).f a0.kids)]] (lk []) (.agg [bl r.inn, i64 r.pl.A, i64 r.pl.B, i64 r.pl.C, i64 r.pl.D, .sl true 6 r.kids.length ((eSol true).f r.kids)]) (lk [])) := by
  unfold Dimpl_Not at h
  refine x_call (fn := Try.f22) (c := bodyOf Try.f22) (bs0 := []) Try.func22 (by kernel_rfl) (by kernel_rfl) ?_
  obtain ⟨v0, hv0, h⟩ := bind_some h
  refine x_frk 12 [(3, .call [] [] (bl v0) [])] (ocons (Timpl_SolidOk (Y := Y) n a0 _ hv0) onil) h (by kernel_rfl) (fun h => ?_) (fun h => ?_)
  · obtain ⟨v1, hv1, h⟩ := bind_some h
    replace h := Option.some.inj h; subst h
    exact x_end 5 [(0, .call [] [] (.agg [bl v1.inn, i64 v1.pl.A, i64 v1.pl.B, i64 v1.pl.C, i64 v1.pl.D, .sl true 6 v1.kids.length ((eSol true).f v1.kids)]) [])] [] (ocons (Timpl_Leaf (Y := Y) false _ hv1) onil) onil (by kernel_rfl)
  · obtain ⟨v2, hv2, h⟩ := bind_some h
    replace h := Option.some.inj h; subst h
    exact x_end 7 [(1, .call [] [] (.agg [bl v2.inn, i64 v2.pl.A, i64 v2.pl.B, i64 v2.pl.C, i64 v2.pl.D, .sl true 6 v2.kids.length ((eSol true).f v2.kids)]) [])] [] (ocons (Timpl_not (Y := Y) n a0 _ hv2) onil) onil (by kernel_rfl)
/-! impl.isOp -/
def Dimpl_isOp (a0 : Int) : Option Bool :=
  (Dimpl_inRange a0 1 4).bind fun v0 => some v0
theorem Timpl_isOp {Y} (a0 : Int) (r : Bool) (h : Dimpl_isOp a0 = some r) : Big Try.prog H Y (.call 59 [i64 a0] (lk []) (bl r) (lk [])) := by
  unfold Dimpl_isOp at h
  refine x_call (fn := Try.f59) (c := bodyOf Try.f59) (bs0 := []) Try.func59 (by kernel_rfl) (by kernel_rfl) ?_
  obtain ⟨v0, hv0, h⟩ := bind_some h
  replace h := Option.some.inj h; subst h
  exact x_end 10 [(2, .call [] [] (bl v0) [])] [] (ocons (Timpl_inRange (Y := Y) a0 1 4 _ hv0) onil) onil (by kernel_rfl)
/-! impl.merger).leaf -/
def Dimpl_merger_leaf (a0 : (Int × Int × Bool)) (a1 a2 : Bool) : Option (Sol × (Int × Int × Bool)) :=
  frk (a0.1 == 1) (frk a1 ((Dimpl_Leaf a2).bind fun v0 => some (v0, a0)) ((Dimpl_Leaf false).bind fun v1 => some (v1, a0))) (frk (a0.1 == 2) (frk a1 ((Dimpl_Leaf true).bind fun v2 => some (v2, a0)) ((Dimpl_Leaf a2).bind fun v3 => some (v3, a0))) (frk (a0.1 == 3) (frk a1 ((Dimpl_Leaf (!a2)).bind fun v4 => some (v4, a0)) ((Dimpl_Leaf false).bind fun v5 => some (v5, a0))) ((Dimpl_Leaf (!(a1 == a2))).bind fun v6 => some (v6, a0))))
theorem Timpl_merger_leaf {Y} (a0 : (Int × Int × Bool)) (a1 a2 : Bool) (r : (Sol × (Int × Int × Bool))) (h : Dimpl_merger_leaf a0 a1 a2 = some r) : Big Try.prog H Y (.call 132 [.ptr 1000 0, bl a1, bl a2] (lk [(1000, ⟨true, 0, [i64 a0.1, i64 a0.2.1, bl a0.2.2]⟩)]) (.agg [bl r.1.inn, i64 r.1.pl.A, i64 r.1.pl.B, i64 r.1.pl.C, i64 r.1.pl.D, .sl true 6 r.1.kids.length ((eSol true).f r.1.kids)]) (lk [(1000, ⟨true, 0, [i64 r.2.1, i64 r.2.2.1, bl r.2.2.2]⟩)])) := by
  unfold Dimpl_merger_leaf at h
  refine x_call (fn := Try.f132) (c := bodyOf Try.f132) (bs0 := [(1000, ⟨true, 0, [.bad, .bad, .bad]⟩)]) Try.func132 (by kernel_rfl) (by kernel_rfl) ?_
  refine x_frk 18 [] onil h (by kernel_rfl) (fun h => ?_) (fun h => ?_)
  · refine x_frk 4 [] onil h (by kernel_rfl) (fun h => ?_) (fun h => ?_)
    · obtain ⟨v0, hv0, h⟩ := bind_some h
      replace h := Option.some.inj h; subst h
      exact x_end 5 [(2, .call [] [] (.agg [bl v0.inn, i64 v0.pl.A, i64 v0.pl.B, i64 v0.pl.C, i64 v0.pl.D, .sl true 6 v0.kids.length ((eSol true).f v0.kids)]) [])] [] (ocons (Timpl_Leaf (Y := Y) a2 _ hv0) onil) onil (by kernel_rfl)
    · obtain ⟨v1, hv1, h⟩ := bind_some h
      replace h := Option.some.inj h; subst h
      exact x_end 5 [(2, .call [] [] (.agg [bl v1.inn, i64 v1.pl.A, i64 v1.pl.B, i64 v1.pl.C, i64 v1.pl.D, .sl true 6 v1.kids.length ((eSol true).f v1.kids)]) [])] [] (ocons (Timpl_Leaf (Y := Y) false _ hv1) onil) onil (by kernel_rfl)
  · refine x_frk 5 [] onil h (by kernel_rfl) (fun h => ?_) (fun h => ?_)
    · refine x_frk 4 [] onil h (by kernel_rfl) (fun h => ?_) (fun h => ?_)
      · obtain ⟨v2, hv2, h⟩ := bind_some h
        replace h := Option.some.inj h; subst h
        exact x_end 5 [(2, .call [] [] (.agg [bl v2.inn, i64 v2.pl.A, i64 v2.pl.B, i64 v2.pl.C, i64 v2.pl.D, .sl true 6 v2.kids.length ((eSol true).f v2.kids)]) [])] [] (ocons (Timpl_Leaf (Y := Y) true _ hv2) onil) onil (by kernel_rfl)
      · obtain ⟨v3, hv3, h⟩ := bind_some h
        replace h := Option.some.inj h; subst h
        exact x_end 5 [(2, .call [] [] (.agg [bl v3.inn, i64 v3.pl.A, i64 v3.pl.B, i64 v3.pl.C, i64 v3.pl.D, .sl true 6 v3.kids.length ((eSol true).f v3.kids)]) [])] [] (ocons (Timpl_Leaf (Y := Y) a2 _ hv3) onil) onil (by kernel_rfl)
    · refine x_frk 5 [] onil h (by kernel_rfl) (fun h => ?_) (fun h => ?_)
      · refine x_frk 4 [] onil h (by kernel_rfl) (fun h => ?_) (fun h => ?_)
        · obtain ⟨v4, hv4, h⟩ := bind_some h
          replace h := Option.some.inj h; subst h
          exact x_end 6 [(3, .call [] [] (.agg [bl v4.inn, i64 v4.pl.A, i64 v4.pl.B, i64 v4.pl.C, i64 v4.pl.D, .sl true 6 v4.kids.length ((eSol true).f v4.kids)]) [])] [] (ocons (Timpl_Leaf (Y := Y) (!a2) _ hv4) onil) onil (by kernel_rfl)
        · obtain ⟨v5, hv5, h⟩ := bind_some h
          replace h := Option.some.inj h; subst h
          exact x_end 6 [(3, .call [] [] (.agg [bl v5.inn, i64 v5.pl.A, i64 v5.pl.B, i64 v5.pl.C, i64 v5.pl.D, .sl true 6 v5.kids.length ((eSol true).f v5.kids)]) [])] [] (ocons (Timpl_Leaf (Y := Y) false _ hv5) onil) onil (by kernel_rfl)
      · obtain ⟨v6, hv6, h⟩ := bind_some h
        replace h := Option.some.inj h; subst h
        exact x_end 10 [(3, .call [] [] (.agg [bl v6.inn, i64 v6.pl.A, i64 v6.pl.B, i64 v6.pl.C, i64 v6.pl.D, .sl true 6 v6.kids.length ((eSol true).f v6.kids)]) [])] [] (ocons (Timpl_Leaf (Y := Y) (!(a1 == a2)) _ hv6) onil) onil (by kernel_rfl)
/-! impl.merger).join -/
def Dimpl_merger_joino2o3_1 (b5_0 b5_1 b5_2 b5_3 : Int) (b6_0 : Bool) (b6_1 b6_2 b6_3 b6_4 : Int) (b6_5 : List Sol) (b7_0 : Bool) (b7_1 b7_2 b7_3 b7_4 : Int) (b7_5 : List Sol) (_b8_0 : Bool) (_b8_1 _b8_2 _b8_3 _b8_4 b1000_0 b1000_1 : Int) (b1000_2 : Bool) : Option (Sol × (Int × Int × Bool)) :=
  (Dimpl_nodeo1o2 (Pl.mk b5_0 b5_1 b5_2 b5_3) (Sol.mk b6_0 (Pl.mk b6_1 b6_2 b6_3 b6_4) b6_5) (Sol.mk b7_0 (Pl.mk b7_1 b7_2 b7_3 b7_4) b7_5)).bind fun v3 => some (v3, (b1000_0, b1000_1, b1000_2))
theorem Timpl_merger_joino2o3_1 {Y} (b5_0 b5_1 b5_2 b5_3 : Int) (b6_0 : Bool) (b6_1 b6_2 b6_3 b6_4 : Int) (b6_5 : List Sol) (b7_0 : Bool) (b7_1 b7_2 b7_3 b7_4 : Int) (b7_5 : List Sol) (b8_0 : Bool) (b8_1 b8_2 b8_3 b8_4 b1000_0 b1000_1 : Int) (b1000_2 : Bool) (r : (Sol × (Int × Int × Bool))) (h : Dimpl_merger_joino2o3_1 b5_0 b5_1 b5_2 b5_3 b6_0 b6_1 b6_2 b6_3 b6_4 b6_5 b7_0 b7_1 b7_2 b7_3 b7_4 b7_5 b8_0 b8_1 b8_2 b8_3 b8_4 b1000_0 b1000_1 b1000_2 = some r) : Wk Try.prog H Y 120 [.code (cp [1, 1, 1, 1, 0] (bodyOf Try.f120)), .code (cp [1, 1, 1, 1, 1] (bodyOf Try.f120))] (FinX Try.prog Try.f120 [(1000, ⟨true, 0, [.bad, .bad, .bad]⟩)] (.agg [bl r.1.inn, i64 r.1.pl.A, i64 r.1.pl.B, i64 r.1.pl.C, i64 r.1.pl.D, .sl true 6 r.1.kids.length ((eSol true).f r.1.kids)]) [(1000, ⟨true, 0, [i64 r.2.1, i64 r.2.2.1, bl r.2.2.2]⟩)]) ⟨[(5, .ptr 5 0), (6, .ptr 6 0), (7, .ptr 7 0), (8, .ptr 8 0)], [(5, ⟨true, 0, [i64 b5_0, i64 b5_1, i64 b5_2, i64 b5_3]⟩), (6, ⟨true, 0, [bl b6_0, i64 b6_1, i64 b6_2, i64 b6_3, i64 b6_4, .sl true 6 b6_5.length ((eSol true).f b6_5)]⟩), (7, ⟨true, 0, [bl b7_0, i64 b7_1, i64 b7_2, i64 b7_3, i64 b7_4, .sl true 6 b7_5.length ((eSol true).f b7_5)]⟩), (8, ⟨true, 0, [bl b8_0, i64 b8_1, i64 b8_2, i64 b8_3, i64 b8_4, .nil]⟩), (1000, ⟨true, 0, [i64 b1000_0, i64 b1000_1, bl b1000_2]⟩)]⟩ := by
  unfold Dimpl_merger_joino2o3_1 at h
  obtain ⟨v3, hv3, h⟩ := bind_some h
  replace h := Option.some.inj h; subst h
  exact x_end 7 [(3, .call [] [] (.agg [bl v3.inn, i64 v3.pl.A, i64 v3.pl.B, i64 v3.pl.C, i64 v3.pl.D, .sl true 6 v3.kids.length ((eSol true).f v3.kids)]) [])] [] (ocons (Timpl_nodeo1o2 (Y := Y) (Pl.mk b5_0 b5_1 b5_2 b5_3) (Sol.mk b6_0 (Pl.mk b6_1 b6_2 b6_3 b6_4) b6_5) (Sol.mk b7_0 (Pl.mk b7_1 b7_2 b7_3 b7_4) b7_5) _ hv3) onil) onil (by kernel_rfl)
def Dimpl_merger_joino2o3_0 (t19 : Bool) (b5_0 b5_1 b5_2 b5_3 : Int) (b6_0 : Bool) (b6_1 b6_2 b6_3 b6_4 : Int) (b6_5 : List Sol) (b7_0 : Bool) (b7_1 b7_2 b7_3 b7_4 : Int) (b7_5 : List Sol) (b8_0 : Bool) (b8_1 b8_2 b8_3 b8_4 b1000_0 b1000_1 : Int) (b1000_2 : Bool) : Option (Sol × (Int × Int × Bool)) :=
  frk t19 ((Dimpl_Leaf b6_0).bind fun v2 => some (v2, (b1000_0, b1000_1, b1000_2))) (frk b1000_2 (Dimpl_merger_joino2o3_1 b5_0 b5_1 b5_2 b5_3 b6_0 b6_1 b6_2 b6_3 b6_4 b6_5 b7_0 b7_1 b7_2 b7_3 b7_4 b7_5 b8_0 b8_1 b8_2 b8_3 b8_4 b1000_0 (w64 (b1000_1 + 1)) true) (Dimpl_merger_joino2o3_1 b5_0 b5_1 b5_2 b5_3 b6_0 b6_1 b6_2 b6_3 b6_4 b6_5 b7_0 b7_1 b7_2 b7_3 b7_4 b7_5 b8_0 b8_1 b8_2 b8_3 b8_4 b1000_0 (w64 (b1000_1 + 1)) (decide ((w64 (b1000_1 + 1)) > 300))))
theorem Timpl_merger_joino2o3_0 {Y} (t19 : Bool) (b5_0 b5_1 b5_2 b5_3 : Int) (b6_0 : Bool) (b6_1 b6_2 b6_3 b6_4 : Int) (b6_5 : List Sol) (b7_0 : Bool) (b7_1 b7_2 b7_3 b7_4 : Int) (b7_5 : List Sol) (b8_0 : Bool) (b8_1 b8_2 b8_3 b8_4 b1000_0 b1000_1 : Int) (b1000_2 : Bool) (r : (Sol × (Int × Int × Bool))) (h : Dimpl_merger_joino2o3_0 t19 b5_0 b5_1 b5_2 b5_3 b6_0 b6_1 b6_2 b6_3 b6_4 b6_5 b7_0 b7_1 b7_2 b7_3 b7_4 b7_5 b8_0 b8_1 b8_2 b8_3 b8_4 b1000_0 b1000_1 b1000_2 = some r) : Wk Try.prog H Y 120 [.code (cp [1, 0, 1] (bodyOf Try.f120)), .code (cp [1, 1] (bodyOf Try.f120))] (FinX Try.prog Try.f120 [(1000, ⟨true, 0, [.bad, .bad, .bad]⟩)] (.agg [bl r.1.inn, i64 r.1.pl.A, i64 r.1.pl.B, i64 r.1.pl.C, i64 r.1.pl.D, .sl true 6 r.1.kids.length ((eSol true).f r.1.kids)]) [(1000, ⟨true, 0, [i64 r.2.1, i64 r.2.2.1, bl r.2.2.2]⟩)]) ⟨[(0, .ptr 1000 0), (5, .ptr 5 0), (6, .ptr 6 0), (7, .ptr 7 0), (8, .ptr 8 0), (19, bl t19)], [(5, ⟨true, 0, [i64 b5_0, i64 b5_1, i64 b5_2, i64 b5_3]⟩), (6, ⟨true, 0, [bl b6_0, i64 b6_1, i64 b6_2, i64 b6_3, i64 b6_4, .sl true 6 b6_5.length ((eSol true).f b6_5)]⟩), (7, ⟨true, 0, [bl b7_0, i64 b7_1, i64 b7_2, i64 b7_3, i64 b7_4, .sl true 6 b7_5.length ((eSol true).f b7_5)]⟩), (8, ⟨true, 0, [bl b8_0, i64 b8_1, i64 b8_2, i64 b8_3, i64 b8_4, .nil]⟩), (1000, ⟨true, 0, [i64 b1000_0, i64 b1000_1, bl b1000_2]⟩)]⟩ := by
  unfold Dimpl_merger_joino2o3_0 at h
  refine x_frk 0 [] onil h (by kernel_rfl) (fun h => ?_) (fun h => ?_)
  · obtain ⟨v2, hv2, h⟩ := bind_some h
    replace h := Option.some.inj h; subst h
    exact x_end 7 [(2, .call [] [] (.agg [bl v2.inn, i64 v2.pl.A, i64 v2.pl.B, i64 v2.pl.C, i64 v2.pl.D, .sl true 6 v2.kids.length ((eSol true).f v2.kids)]) [])] [] (ocons (Timpl_Leaf (Y := Y) b6_0 _ hv2) onil) onil (by kernel_rfl)
  · refine x_frk 20 [] onil h (by kernel_rfl) (fun h => ?_) (fun h => ?_)
    · exact x_to 11 [] onil (Timpl_merger_joino2o3_1 b5_0 b5_1 b5_2 b5_3 b6_0 b6_1 b6_2 b6_3 b6_4 b6_5 b7_0 b7_1 b7_2 b7_3 b7_4 b7_5 b8_0 b8_1 b8_2 b8_3 b8_4 b1000_0 (w64 (b1000_1 + 1)) true r h) (by kernel_rfl)
    · exact x_to 11 [] onil (Timpl_merger_joino2o3_1 b5_0 b5_1 b5_2 b5_3 b6_0 b6_1 b6_2 b6_3 b6_4 b6_5 b7_0 b7_1 b7_2 b7_3 b7_4 b7_5 b8_0 b8_1 b8_2 b8_3 b8_4 b1000_0 (w64 (b1000_1 + 1)) (decide ((w64 (b1000_1 + 1)) > 300)) r h) (by kernel_rfl)
def Dimpl_merger_joino2o3_2 (b5_0 b5_1 b5_2 b5_3 : Int) (b6_0 : Bool) (b6_1 b6_2 b6_3 b6_4 : Int) (b6_5 : List Sol) (b7_0 : Bool) (b7_1 b7_2 b7_3 b7_4 : Int) (b7_5 : List Sol) (b8_0 : Bool) (b8_1 b8_2 b8_3 b8_4 b1000_0 b1000_1 : Int) (b1000_2 : Bool) : Option (Sol × (Int × Int × Bool)) :=
  frk b1000_2 (Dimpl_merger_joino2o3_1 b5_0 b5_1 b5_2 b5_3 b6_0 b6_1 b6_2 b6_3 b6_4 b6_5 b7_0 b7_1 b7_2 b7_3 b7_4 b7_5 b8_0 b8_1 b8_2 b8_3 b8_4 b1000_0 b1000_1 true) (Dimpl_merger_joino2o3_1 b5_0 b5_1 b5_2 b5_3 b6_0 b6_1 b6_2 b6_3 b6_4 b6_5 b7_0 b7_1 b7_2 b7_3 b7_4 b7_5 b8_0 b8_1 b8_2 b8_3 b8_4 b1000_0 b1000_1 (decide (b1000_1 > 300)))
theorem Timpl_merger_joino2o3_2 {Y} (b5_0 b5_1 b5_2 b5_3 : Int) (b6_0 : Bool) (b6_1 b6_2 b6_3 b6_4 : Int) (b6_5 : List Sol) (b7_0 : Bool) (b7_1 b7_2 b7_3 b7_4 : Int) (b7_5 : List Sol) (b8_0 : Bool) (b8_1 b8_2 b8_3 b8_4 b1000_0 b1000_1 : Int) (b1000_2 : Bool) (r : (Sol × (Int × Int × Bool))) (h : Dimpl_merger_joino2o3_2 b5_0 b5_1 b5_2 b5_3 b6_0 b6_1 b6_2 b6_3 b6_4 b6_5 b7_0 b7_1 b7_2 b7_3 b7_4 b7_5 b8_0 b8_1 b8_2 b8_3 b8_4 b1000_0 b1000_1 b1000_2 = some r) : Wk Try.prog H Y 120 [.code (cp [1, 1, 1, 0] (bodyOf Try.f120)), .code (cp [1, 1, 1, 1] (bodyOf Try.f120))] (FinX Try.prog Try.f120 [(1000, ⟨true, 0, [.bad, .bad, .bad]⟩)] (.agg [bl r.1.inn, i64 r.1.pl.A, i64 r.1.pl.B, i64 r.1.pl.C, i64 r.1.pl.D, .sl true 6 r.1.kids.length ((eSol true).f r.1.kids)]) [(1000, ⟨true, 0, [i64 r.2.1, i64 r.2.2.1, bl r.2.2.2]⟩)]) ⟨[(0, .ptr 1000 0), (5, .ptr 5 0), (6, .ptr 6 0), (7, .ptr 7 0), (8, .ptr 8 0)], [(5, ⟨true, 0, [i64 b5_0, i64 b5_1, i64 b5_2, i64 b5_3]⟩), (6, ⟨true, 0, [bl b6_0, i64 b6_1, i64 b6_2, i64 b6_3, i64 b6_4, .sl true 6 b6_5.length ((eSol true).f b6_5)]⟩), (7, ⟨true, 0, [bl b7_0, i64 b7_1, i64 b7_2, i64 b7_3, i64 b7_4, .sl true 6 b7_5.length ((eSol true).f b7_5)]⟩), (8, ⟨true, 0, [bl b8_0, i64 b8_1, i64 b8_2, i64 b8_3, i64 b8_4, .nil]⟩), (1000, ⟨true, 0, [i64 b1000_0, i64 b1000_1, bl b1000_2]⟩)]⟩ := by
  unfold Dimpl_merger_joino2o3_2 at h
  refine x_frk 7 [] onil h (by kernel_rfl) (fun h => ?_) (fun h => ?_)
  · exact x_to 11 [] onil (Timpl_merger_joino2o3_1 b5_0 b5_1 b5_2 b5_3 b6_0 b6_1 b6_2 b6_3 b6_4 b6_5 b7_0 b7_1 b7_2 b7_3 b7_4 b7_5 b8_0 b8_1 b8_2 b8_3 b8_4 b1000_0 b1000_1 true r h) (by kernel_rfl)
  · exact x_to 11 [] onil (Timpl_merger_joino2o3_1 b5_0 b5_1 b5_2 b5_3 b6_0 b6_1 b6_2 b6_3 b6_4 b6_5 b7_0 b7_1 b7_2 b7_3 b7_4 b7_5 b8_0 b8_1 b8_2 b8_3 b8_4 b1000_0 b1000_1 (decide (b1000_1 > 300)) r h) (by kernel_rfl)
def Dimpl_merger_joino2o3 (a0 : (Int × Int × Bool)) (a1 : Pl) (a2 : Sol) (a3 : Sol) : Option (Sol × (Int × Int × Bool)) :=
  (Dimpl_Solid_isLeaf a2).bind fun v0 => frk v0 ((Dimpl_Solid_isLeaf a3).bind fun v1 => frk v1 (Dimpl_merger_joino2o3_0 (a2.inn == a3.inn) a1.A a1.B a1.C a1.D a2.inn a2.pl.A a2.pl.B a2.pl.C a2.pl.D a2.kids a3.inn a3.pl.A a3.pl.B a3.pl.C a3.pl.D a3.kids false 0 0 0 0 a0.1 a0.2.1 a0.2.2) (Dimpl_merger_joino2o3_2 a1.A a1.B a1.C a1.D a2.inn a2.pl.A a2.pl.B a2.pl.C a2.pl.D a2.kids a3.inn a3.pl.A a3.pl.B a3.pl.C a3.pl.D a3.kids false 0 0 0 0 a0.1 (w64 (a0.2.1 + 1)) a0.2.2)) (Dimpl_merger_joino2o3_2 a1.A a1.B a1.C a1.D a2.inn a2.pl.A a2.pl.B a2.pl.C a2.pl.D a2.kids a3.inn a3.pl.A a3.pl.B a3.pl.C a3.pl.D a3.kids false 0 0 0 0 a0.1 (w64 (a0.2.1 + 1)) a0.2.2)
theorem Timpl_merger_joino2o3 {Y} (a0 : (Int × Int × Bool)) (a1 : Pl) (a2 : Sol) (a3 : Sol) (r : (Sol × (Int × Int × Bool))) (h : Dimpl_merger_joino2o3 a0 a1 a2 a3 = some r) : Big Try.prog H Y (.call 120 [.ptr 1000 0, .agg [i64 a1.A, i64 a1.B, i64 a1.C, i64 a1.D], .agg [bl a2.inn, i64 a2.pl.A, i64 a2.pl.B, i64 a2.pl.C, i64 a2.pl.D, .sl true 6 a2.kids.length ((eSol true).f a2.kids)], .agg [bl a3.inn, i64 a3.pl.A, i64 a3.pl.B, i64 a3.pl.C, i64 a3.pl.D, .sl true 6 a3.kids.length ((eSol true).f a3.kids)]] (lk [(1000, ⟨true, 0, [i64 a0.1, i64 a0.2.1, bl a0.2.2]⟩)]) (.agg [bl r.1.inn, i64 r.1.pl.A, i64 r.1.pl.B, i64 r.1.pl.C, i64 r.1.pl.D, .sl true 6 r.1.kids.length ((eSol true).f r.1.kids)]) (lk [(1000, ⟨true, 0, [i64 r.2.1, i64 r.2.2.1, bl r.2.2.2]⟩)])) := by
  unfold Dimpl_merger_joino2o3 at h
  refine x_call (fn := Try.f120) (c := bodyOf Try.f120) (bs0 := [(1000, ⟨true, 0, [.bad, .bad, .bad]⟩)]) Try.func120 (by kernel_rfl) (by kernel_rfl) ?_
  obtain ⟨v0, hv0, h⟩ := bind_some h
  refine x_frk 12 [(4, .call [] [(eSol false).f a2.kids] (bl v0) [])] (ocons (Timpl_Solid_isLeaf (Y := Y) a2 [] _ hv0) (ocons (Enc.share (eSol true) (eSol false) (sSol true) a2.kids) onil)) h (by kernel_rfl) (fun h => ?_) (fun h => ?_)
  · obtain ⟨v1, hv1, h⟩ := bind_some h
    refine x_frk 3 [(0, .call [] [(eSol false).f a3.kids] (bl v1) [])] (ocons (Timpl_Solid_isLeaf (Y := Y) a3 [] _ hv1) (ocons (Enc.share (eSol true) (eSol false) (sSol true) a3.kids) onil)) h (by kernel_rfl) (fun h => ?_) (fun h => ?_)
    · exact x_to 7 [] onil (Timpl_merger_joino2o3_0 (a2.inn == a3.inn) a1.A a1.B a1.C a1.D a2.inn a2.pl.A a2.pl.B a2.pl.C a2.pl.D a2.kids a3.inn a3.pl.A a3.pl.B a3.pl.C a3.pl.D a3.kids false 0 0 0 0 a0.1 a0.2.1 a0.2.2 r h) (by kernel_rfl)
    · exact x_to 21 [] onil (Timpl_merger_joino2o3_2 a1.A a1.B a1.C a1.D a2.inn a2.pl.A a2.pl.B a2.pl.C a2.pl.D a2.kids a3.inn a3.pl.A a3.pl.B a3.pl.C a3.pl.D a3.kids false 0 0 0 0 a0.1 (w64 (a0.2.1 + 1)) a0.2.2 r h) (by kernel_rfl)
  · exact x_to 24 [] onil (Timpl_merger_joino2o3_2 a1.A a1.B a1.C a1.D a2.inn a2.pl.A a2.pl.B a2.pl.C a2.pl.D a2.kids a3.inn a3.pl.A a3.pl.B a3.pl.C a3.pl.D a3.kids false 0 0 0 0 a0.1 (w64 (a0.2.1 + 1)) a0.2.2 r h) (by kernel_rfl)
/-! impl.merger).take -/
def Dimpl_merger_take_b (n : Nat) (self1 : ((Int × Int × Bool) × Bool × Sol × (List Pl)) → Option (Sol × (Int × Int × Bool))) (a : ((Int × Int × Bool) × Bool × Sol × (List Pl))) : Option (Sol × (Int × Int × Bool)) :=
  match a with
  | (a0, a1, a2, a3) => frk a0.2.2 (some ((Sol.mk false (Pl.mk 0 0 0 0) []), a0)) ((Dimpl_Solid_isLeaf a2).bind fun v0 => frk v0 ((Dimpl_merger_leaf a0 a1 a2.inn).bind fun v1 => some v1) ((Dimpl_flip a2.pl).bind fun v2 => (Dimpl_room n a3 v2).bind fun v3 => frk (!v3) ((lget a2.kids 0).bind fun v4 => (self1 (a0, a1, v4, a3)).bind fun v5 => some v5) ((Dimpl_room n a3 a2.pl).bind fun v6 => frk (!v6) ((lget a2.kids 1).bind fun v7 => (self1 (a0, a1, v7, a3)).bind fun v8 => some v8) (frk (decide ((a3.length : Int) ≥ 24)) (some ((Sol.mk false (Pl.mk 0 0 0 0) []), (a0.1, a0.2.1, true))) ((lget a2.kids 0).bind fun v9 => (Dimpl_with a3 a2.pl).bind fun v10 => (self1 (a0, a1, v9, v10)).bind fun v11 => (lget a2.kids 1).bind fun v12 => (Dimpl_with a3 v2).bind fun v13 => (self1 (v11.2, a1, v12, v13)).bind fun v14 => (Dimpl_merger_joino2o3 v14.2 a2.pl v11.1 v14.1).bind fun v15 => some v15)))))
def Dimpl_merger_take (n : Nat) (a0 : (Int × Int × Bool)) (a1 : Bool) (a2 : Sol) (a3 : (List Pl)) : Option (Sol × (Int × Int × Bool)) := loopN (Dimpl_merger_take_b n) n (a0, a1, a2, a3)
theorem Timpl_merger_take_b {Y} (n : Nat) : ∀ (m : Nat) (a : ((Int × Int × Bool) × Bool × Sol × (List Pl))) (r : (Sol × (Int × Int × Bool))), loopN (Dimpl_merger_take_b n) m a = some r → ∀ (_ : Unit), Big Try.prog H Y (.call 119 [.ptr 1000 0, bl a.2.1, .agg [bl a.2.2.1.inn, i64 a.2.2.1.pl.A, i64 a.2.2.1.pl.B, i64 a.2.2.1.pl.C, i64 a.2.2.1.pl.D, .sl false 6 a.2.2.1.kids.length ((eSol false).f a.2.2.1.kids)], .sl false 4 a.2.2.2.length ((ePl).f a.2.2.2)] (lk [(1000, ⟨true, 0, [i64 a.1.1, i64 a.1.2.1, bl a.1.2.2]⟩)]) (.agg [bl r.1.inn, i64 r.1.pl.A, i64 r.1.pl.B, i64 r.1.pl.C, i64 r.1.pl.D, .sl true 6 r.1.kids.length ((eSol true).f r.1.kids)]) (lk [(1000, ⟨true, 0, [i64 r.2.1, i64 r.2.2.1, bl r.2.2.2]⟩)])) := by
  refine loopN_ind (fun self1 hs a r h => ?_)
  have hself1 : ∀ (a : ((Int × Int × Bool) × Bool × Sol × (List Pl))) (r : (Sol × (Int × Int × Bool))), self1 a = some r → Big Try.prog H Y (.call 119 [.ptr 1000 0, bl a.2.1, .agg [bl a.2.2.1.inn, i64 a.2.2.1.pl.A, i64 a.2.2.1.pl.B, i64 a.2.2.1.pl.C, i64 a.2.2.1.pl.D, .sl false 6 a.2.2.1.kids.length ((eSol false).f a.2.2.1.kids)], .sl false 4 a.2.2.2.length ((ePl).f a.2.2.2)] (lk [(1000, ⟨true, 0, [i64 a.1.1, i64 a.1.2.1, bl a.1.2.2]⟩)]) (.agg [bl r.1.inn, i64 r.1.pl.A, i64 r.1.pl.B, i64 r.1.pl.C, i64 r.1.pl.D, .sl true 6 r.1.kids.length ((eSol true).f r.1.kids)]) (lk [(1000, ⟨true, 0, [i64 r.2.1, i64 r.2.2.1, bl r.2.2.2]⟩)])) := fun a r h => hs a r h ()
  intro _
  obtain ⟨a0, a1, a2, a3⟩ := a
  unfold Dimpl_merger_take_b at h
  refine x_call (fn := Try.f119) (c := bodyOf Try.f119) (bs0 := [(1000, ⟨true, 0, [.bad, .bad, .bad]⟩)]) Try.func119 (by kernel_rfl) (by kernel_rfl) ?_
  refine x_frk 13 [] onil h (by kernel_rfl) (fun h => ?_) (fun h => ?_)
  · replace h := Option.some.inj h; subst h
    exact x_end 5 [] [(true, 6)] onil onil (by kernel_rfl)
  · obtain ⟨v0, hv0, h⟩ := bind_some h
    refine x_frk 6 [(0, .call [] [] (bl v0) [])] (ocons (Timpl_Solid_isLeaf (Y := Y) a2 [] _ hv0) onil) h (by kernel_rfl) (fun h => ?_) (fun h => ?_)
    · obtain ⟨v1, hv1, h⟩ := bind_some h
      replace h := Option.some.inj h; subst h
      exact x_end 9 [(4, .call [] [] (.agg [bl v1.1.inn, i64 v1.1.pl.A, i64 v1.1.pl.B, i64 v1.1.pl.C, i64 v1.1.pl.D, .sl true 6 v1.1.kids.length ((eSol true).f v1.1.kids)]) [(1000, ⟨true, 0, [i64 v1.2.1, i64 v1.2.2.1, bl v1.2.2.2]⟩)])] [] (ocons (Timpl_merger_leaf (Y := Y) a0 a1 a2.inn _ hv1) onil) onil (by kernel_rfl)
    · obtain ⟨v2, hv2, h⟩ := bind_some h
      obtain ⟨v3, hv3, h⟩ := bind_some h
      refine x_frk 19 [(2, .call [] [] (.agg [i64 v2.A, i64 v2.B, i64 v2.C, i64 v2.D]) []), (4, .call [] [] (bl v3) [])] (ocons (Timpl_flip (Y := Y) a2.pl _ hv2) (ocons (Timpl_room (Y := Y) n a3 v2 _ hv3) onil)) h (by kernel_rfl) (fun h => ?_) (fun h => ?_)
      · obtain ⟨v4, hv4, h⟩ := bind_some h
        obtain ⟨v5, hv5, h⟩ := bind_some h
        replace h := Option.some.inj h; subst h
        exact x_end 12 [(4, .val (.cptr ((eSol false).c v4 ++ (eSol false).f ((a2.kids).drop (Int.toNat 0 + 1))))), (2, .call [] [] (.agg [bl v5.1.inn, i64 v5.1.pl.A, i64 v5.1.pl.B, i64 v5.1.pl.C, i64 v5.1.pl.D, .sl true 6 v5.1.kids.length ((eSol true).f v5.1.kids)]) [(1000, ⟨true, 0, [i64 v5.2.1, i64 v5.2.2.1, bl v5.2.2.2]⟩)])] [] (ocons (ix (eSol false) hv4) (ocons (hself1 (a0, a1, v4, a3) _ hv5) onil)) onil (by kernel_rfl)
      · obtain ⟨v6, hv6, h⟩ := bind_some h
        refine x_frk 9 [(3, .call [] [] (bl v6) [])] (ocons (Timpl_room (Y := Y) n a3 a2.pl _ hv6) onil) h (by kernel_rfl) (fun h => ?_) (fun h => ?_)
        · obtain ⟨v7, hv7, h⟩ := bind_some h
          obtain ⟨v8, hv8, h⟩ := bind_some h
          replace h := Option.some.inj h; subst h
          exact x_end 12 [(4, .val (.cptr ((eSol false).c v7 ++ (eSol false).f ((a2.kids).drop (Int.toNat 1 + 1))))), (2, .call [] [] (.agg [bl v8.1.inn, i64 v8.1.pl.A, i64 v8.1.pl.B, i64 v8.1.pl.C, i64 v8.1.pl.D, .sl true 6 v8.1.kids.length ((eSol true).f v8.1.kids)]) [(1000, ⟨true, 0, [i64 v8.2.1, i64 v8.2.2.1, bl v8.2.2.2]⟩)])] [] (ocons (ix (eSol false) hv7) (ocons (hself1 (a0, a1, v7, a3) _ hv8) onil)) onil (by kernel_rfl)
        · refine x_frk 7 [] onil h (by kernel_rfl) (fun h => ?_) (fun h => ?_)
          · replace h := Option.some.inj h; subst h
            exact x_end 12 [] [(true, 6)] onil onil (by kernel_rfl)
          · obtain ⟨v9, hv9, h⟩ := bind_some h
            obtain ⟨v10, hv10, h⟩ := bind_some h
            obtain ⟨v11, hv11, h⟩ := bind_some h
            obtain ⟨v12, hv12, h⟩ := bind_some h
            obtain ⟨v13, hv13, h⟩ := bind_some h
            obtain ⟨v14, hv14, h⟩ := bind_some h
            obtain ⟨v15, hv15, h⟩ := bind_some h
            replace h := Option.some.inj h; subst h
            exact x_end 43 [(4, .val (.cptr ((eSol false).c v9 ++ (eSol false).f ((a2.kids).drop (Int.toNat 0 + 1))))), (4, .call [] [] (.sl false 4 v10.length ((ePl).f v10)) []), (0, .call [] [] (.agg [bl v11.1.inn, i64 v11.1.pl.A, i64 v11.1.pl.B, i64 v11.1.pl.C, i64 v11.1.pl.D, .sl true 6 v11.1.kids.length ((eSol true).f v11.1.kids)]) [(1000, ⟨true, 0, [i64 v11.2.1, i64 v11.2.2.1, bl v11.2.2.2]⟩)]), (6, .val (.cptr ((eSol false).c v12 ++ (eSol false).f ((a2.kids).drop (Int.toNat 1 + 1))))), (3, .call [] [] (.sl false 4 v13.length ((ePl).f v13)) []), (0, .call [] [] (.agg [bl v14.1.inn, i64 v14.1.pl.A, i64 v14.1.pl.B, i64 v14.1.pl.C, i64 v14.1.pl.D, .sl true 6 v14.1.kids.length ((eSol true).f v14.1.kids)]) [(1000, ⟨true, 0, [i64 v14.2.1, i64 v14.2.2.1, bl v14.2.2.2]⟩)]), (7, .call [] [] (.agg [bl v15.1.inn, i64 v15.1.pl.A, i64 v15.1.pl.B, i64 v15.1.pl.C, i64 v15.1.pl.D, .sl true 6 v15.1.kids.length ((eSol true).f v15.1.kids)]) [(1000, ⟨true, 0, [i64 v15.2.1, i64 v15.2.2.1, bl v15.2.2.2]⟩)])] [] (ocons (ix (eSol false) hv9) (ocons (shSl (L := v10) ePl ePl sPl (Timpl_with (Y := Y) a3 a2.pl _ hv10)) (ocons (hself1 (a0, a1, v9, v10) _ hv11) (ocons (ix (eSol false) hv12) (ocons (shSl (L := v13) ePl ePl sPl (Timpl_with (Y := Y) a3 v2 _ hv13)) (ocons (hself1 (v11.2, a1, v12, v13) _ hv14) (ocons (Timpl_merger_joino2o3 (Y := Y) v14.2 a2.pl v11.1 v14.1 _ hv15) onil))))))) onil (by kernel_rfl)
theorem Timpl_merger_take {Y} (n : Nat) (a0 : (Int × Int × Bool)) (a1 : Bool) (a2 : Sol) (a3 : (List Pl)) (r : (Sol × (Int × Int × Bool))) (h : Dimpl_merger_take n a0 a1 a2 a3 = some r) : Big Try.prog H Y (.call 119 [.ptr 1000 0, bl a1, .agg [bl a2.inn, i64 a2.pl.A, i64 a2.pl.B, i64 a2.pl.C, i64 a2.pl.D, .sl false 6 a2.kids.length ((eSol false).f a2.kids)], .sl false 4 a3.length ((ePl).f a3)] (lk [(1000, ⟨true, 0, [i64 a0.1, i64 a0.2.1, bl a0.2.2]⟩)]) (.agg [bl r.1.inn, i64 r.1.pl.A, i64 r.1.pl.B, i64 r.1.pl.C, i64 r.1.pl.D, .sl true 6 r.1.kids.length ((eSol true).f r.1.kids)]) (lk [(1000, ⟨true, 0, [i64 r.2.1, i64 r.2.2.1, bl r.2.2.2]⟩)])) := Timpl_merger_take_b n n (a0, a1, a2, a3) r h ()
/-! impl.merger).put -/
def Dimpl_merger_put_b (n : Nat) (self : ((Int × Int × Bool) × Sol × Sol × (List Pl)) → Option (Sol × (Int × Int × Bool))) (a : ((Int × Int × Bool) × Sol × Sol × (List Pl))) : Option (Sol × (Int × Int × Bool)) :=
  match a with
  | (a0, a1, a2, a3) => frk a0.2.2 (some ((Sol.mk false (Pl.mk 0 0 0 0) []), a0)) ((Dimpl_Solid_isLeaf a1).bind fun v0 => frk v0 ((Dimpl_merger_take n a0 a1.inn a2 a3).bind fun v1 => some v1) ((lget a1.kids 0).bind fun v2 => (Dimpl_with a3 a1.pl).bind fun v3 => (self (a0, v2, a2, v3)).bind fun v4 => (lget a1.kids 1).bind fun v5 => (Dimpl_flip a1.pl).bind fun v6 => (Dimpl_with a3 v6).bind fun v7 => (self (v4.2, v5, a2, v7)).bind fun v8 => (Dimpl_merger_joino2o3 v8.2 a1.pl v4.1 v8.1).bind fun v9 => some v9))
def Dimpl_merger_put (n : Nat) (a0 : (Int × Int × Bool)) (a1 : Sol) (a2 : Sol) (a3 : (List Pl)) : Option (Sol × (Int × Int × Bool)) := loopN (Dimpl_merger_put_b n) n (a0, a1, a2, a3)
theorem Timpl_merger_put_b {Y} (n : Nat) : ∀ (m : Nat) (a : ((Int × Int × Bool) × Sol × Sol × (List Pl))) (r : (Sol × (Int × Int × Bool))), loopN (Dimpl_merger_put_b n) m a = some r → ∀ (_ : Unit), Big Try.prog H Y (.call 96 [.ptr 1000 0, .agg [bl a.2.1.inn, i64 a.2.1.pl.A, i64 a.2.1.pl.B, i64 a.2.1.pl.C, i64 a.2.1.pl.D, .sl false 6 a.2.1.kids.length ((eSol false).f a.2.1.kids)], .agg [bl a.2.2.1.inn, i64 a.2.2.1.pl.A, i64 a.2.2.1.pl.B, i64 a.2.2.1.pl.C, i64 a.2.2.1.pl.D, .sl false 6 a.2.2.1.kids.length ((eSol false).f a.2.2.1.kids)], .sl false 4 a.2.2.2.length ((ePl).f a.2.2.2)] (lk [(1000, ⟨true, 0, [i64 a.1.1, i64 a.1.2.1, bl a.1.2.2]⟩)]) (.agg [bl r.1.inn, i64 r.1.pl.A, i64 r.1.pl.B, i64 r.1.pl.C, i64 r.1.pl.D, .sl true 6 r.1.kids.length ((eSol true).f r.1.kids)]) (lk [(1000, ⟨true, 0, [i64 r.2.1, i64 r.2.2.1, bl r.2.2.2]⟩)])) := by
  refine loopN_ind (fun self hs a r h => ?_)
  have hself : ∀ (a : ((Int × Int × Bool) × Sol × Sol × (List Pl))) (r : (Sol × (Int × Int × Bool))), self a = some r → Big Try.prog H Y (.call 96 [.ptr 1000 0, .agg [bl a.2.1.inn, i64 a.2.1.pl.A, i64 a.2.1.pl.B, i64 a.2.1.pl.C, i64 a.2.1.pl.D, .sl false 6 a.2.1.kids.length ((eSol false).f a.2.1.kids)], .agg [bl a.2.2.1.inn, i64 a.2.2.1.pl.A, i64 a.2.2.1.pl.B, i64 a.2.2.1.pl.C, i64 a.2.2.1.pl.D, .sl false 6 a.2.2.1.kids.length ((eSol false).f a.2.2.1.kids)], .sl false 4 a.2.2.2.length ((ePl).f a.2.2.2)] (lk [(1000, ⟨true, 0, [i64 a.1.1, i64 a.1.2.1, bl a.1.2.2]⟩)]) (.agg [bl r.1.inn, i64 r.1.pl.A, i64 r.1.pl.B, i64 r.1.pl.C, i64 r.1.pl.D, .sl true 6 r.1.kids.length ((eSol true).f r.1.kids)]) (lk [(1000, ⟨true, 0, [i64 r.2.1, i64 r.2.2.1, bl r.2.2.2]⟩)])) := fun a r h => hs a r h ()
  intro _
  obtain ⟨a0, a1, a2, a3⟩ := a
  unfold Dimpl_merger_put_b at h
  refine x_call (fn := Try.f96) (c := bodyOf Try.f96) (bs0 := [(1000, ⟨true, 0, [.bad, .bad, .bad]⟩)]) Try.func96 (by kernel_rfl) (by kernel_rfl) ?_
  refine x_frk 14 [] onil h (by kernel_rfl) (fun h => ?_) (fun h => ?_)
  · replace h := Option.some.inj h; subst h
    exact x_end 5 [] [(true, 6)] onil onil (by kernel_rfl)
  · obtain ⟨v0, hv0, h⟩ := bind_some h
    refine x_frk 6 [(0, .call [] [] (bl v0) [])] (ocons (Timpl_Solid_isLeaf (Y := Y) a1 [] _ hv0) onil) h (by kernel_rfl) (fun h => ?_) (fun h => ?_)
    · obtain ⟨v1, hv1, h⟩ := bind_some h
      replace h := Option.some.inj h; subst h
      exact x_end 10 [(5, .call [] [] (.agg [bl v1.1.inn, i64 v1.1.pl.A, i64 v1.1.pl.B, i64 v1.1.pl.C, i64 v1.1.pl.D, .sl true 6 v1.1.kids.length ((eSol true).f v1.1.kids)]) [(1000, ⟨true, 0, [i64 v1.2.1, i64 v1.2.2.1, bl v1.2.2.2]⟩)])] [] (ocons (Timpl_merger_take (Y := Y) n a0 a1.inn a2 a3 _ hv1) onil) onil (by kernel_rfl)
    · obtain ⟨v2, hv2, h⟩ := bind_some h
      obtain ⟨v3, hv3, h⟩ := bind_some h
      obtain ⟨v4, hv4, h⟩ := bind_some h
      obtain ⟨v5, hv5, h⟩ := bind_some h
      obtain ⟨v6, hv6, h⟩ := bind_some h
      obtain ⟨v7, hv7, h⟩ := bind_some h
      obtain ⟨v8, hv8, h⟩ := bind_some h
      obtain ⟨v9, hv9, h⟩ := bind_some h
      replace h := Option.some.inj h; subst h
      exact x_end 44 [(3, .val (.cptr ((eSol false).c v2 ++ (eSol false).f ((a1.kids).drop (Int.toNat 0 + 1))))), (5, .call [] [] (.sl false 4 v3.length ((ePl).f v3)) []), (0, .call [] [] (.agg [bl v4.1.inn, i64 v4.1.pl.A, i64 v4.1.pl.B, i64 v4.1.pl.C, i64 v4.1.pl.D, .sl true 6 v4.1.kids.length ((eSol true).f v4.1.kids)]) [(1000, ⟨true, 0, [i64 v4.2.1, i64 v4.2.2.1, bl v4.2.2.2]⟩)]), (5, .val (.cptr ((eSol false).c v5 ++ (eSol false).f ((a1.kids).drop (Int.toNat 1 + 1))))), (5, .call [] [] (.agg [i64 v6.A, i64 v6.B, i64 v6.C, i64 v6.D]) []), (0, .call [] [] (.sl false 4 v7.length ((ePl).f v7)) []), (0, .call [] [] (.agg [bl v8.1.inn, i64 v8.1.pl.A, i64 v8.1.pl.B, i64 v8.1.pl.C, i64 v8.1.pl.D, .sl true 6 v8.1.kids.length ((eSol true).f v8.1.kids)]) [(1000, ⟨true, 0, [i64 v8.2.1, i64 v8.2.2.1, bl v8.2.2.2]⟩)]), (7, .call [] [] (.agg [bl v9.1.inn, i64 v9.1.pl.A, i64 v9.1.pl.B, i64 v9.1.pl.C, i64 v9.1.pl.D, .sl true 6 v9.1.kids.length ((eSol true).f v9.1.kids)]) [(1000, ⟨true, 0, [i64 v9.2.1, i64 v9.2.2.1, bl v9.2.2.2]⟩)])] [] (ocons (ix (eSol false) hv2) (ocons (shSl (L := v3) ePl ePl sPl (Timpl_with (Y := Y) a3 a1.pl _ hv3)) (ocons (hself (a0, v2, a2, v3) _ hv4) (ocons (ix (eSol false) hv5) (ocons (Timpl_flip (Y := Y) a1.pl _ hv6) (ocons (shSl (L := v7) ePl ePl sPl (Timpl_with (Y := Y) a3 v6 _ hv7)) (ocons (hself (v4.2, v5, a2, v7) _ hv8) (ocons (Timpl_merger_joino2o3 (Y := Y) v8.2 a1.pl v4.1 v8.1 _ hv9) onil)))))))) onil (by kernel_rfl)
theorem Timpl_merger_put {Y} (n : Nat) (a0 : (Int × Int × Bool)) (a1 : Sol) (a2 : Sol) (a3 : (List Pl)) (r : (Sol × (Int × Int × Bool))) (h : Dimpl_merger_put n a0 a1 a2 a3 = some r) : Big Try.prog H Y (.call 96 [.ptr 1000 0, .agg [bl a1.inn, i64 a1.pl.A, i64 a1.pl.B, i64 a1.pl.C, i64 a1.pl.D, .sl false 6 a1.kids.length ((eSol false).f a1.kids)], .agg [bl a2.inn, i64 a2.pl.A, i64 a2.pl.B, i64 a2.pl.C, i64 a2.pl.D, .sl false 6 a2.kids.length ((eSol false).f a2.kids)], .sl false 4 a3.length ((ePl).f a3)] (lk [(1000, ⟨true, 0, [i64 a0.1, i64 a0.2.1, bl a0.2.2]⟩)]) (.agg [bl r.1.inn, i64 r.1.pl.A, i64 r.1.pl.B, i64 r.1.pl.C, i64 r.1.pl.D, .sl true 6 r.1.kids.length ((eSol true).f r.1.kids)]) (lk [(1000, ⟨true, 0, [i64 r.2.1, i64 r.2.2.1, bl r.2.2.2]⟩)])) := Timpl_merger_put_b n n (a0, a1, a2, a3) r h ()
/-! impl.put -/
def Dimpl_put (n : Nat) (a0 : Sol) (a1 : Sol) (a2 : Int) : Option (Sol × Bool) :=
  (Dimpl_merger_put n (a2, 0, false) a0 a1 []).bind fun v0 => frk v0.2.2.2 ((Dimpl_Leaf false).bind fun v1 => some (v1, false)) (some (v0.1, true))
theorem Timpl_put {Y} (n : Nat) (a0 : Sol) (a1 : Sol) (a2 : Int) (r : (Sol × Bool)) (h : Dimpl_put n a0 a1 a2 = some r) : Big Try.prog H Y (.call 60 [.agg [bl a0.inn, i64 a0.pl.A, i64 a0.pl.B, i64 a0.pl.C, i64 a0.pl.D, .sl false 6 a0.kids.length ((eSol false).f a0.kids)], .agg [bl a1.inn, i64 a1.pl.A, i64 a1.pl.B, i64 a1.pl.C, i64 a1.pl.D, .sl false 6 a1.kids.length ((eSol false).f a1.kids)], i64 a2] (lk []) (.tup [.agg [bl r.1.inn, i64 r.1.pl.A, i64 r.1.pl.B, i64 r.1.pl.C, i64 r.1.pl.D, .sl true 6 r.1.kids.length ((eSol true).f r.1.kids)], bl r.2]) (lk [])) := by
  unfold Dimpl_put at h
  refine x_call (fn := Try.f60) (c := bodyOf Try.f60) (bs0 := []) Try.func60 (by kernel_rfl) (by kernel_rfl) ?_
  obtain ⟨v0, hv0, h⟩ := bind_some h
  refine x_frk 28 [(10, .call [(false, 4)] [] (.agg [bl v0.1.inn, i64 v0.1.pl.A, i64 v0.1.pl.B, i64 v0.1.pl.C, i64 v0.1.pl.D, .sl true 6 v0.1.kids.length ((eSol true).f v0.1.kids)]) [(1000, ⟨true, 0, [i64 v0.2.1, i64 v0.2.2.1, bl v0.2.2.2]⟩)])] (ocons (Timpl_merger_put (Y := Y) n (a2, 0, false) a0 a1 [] _ hv0) onil) h (by kernel_rfl) (fun h => ?_) (fun h => ?_)
  · obtain ⟨v1, hv1, h⟩ := bind_some h
    replace h := Option.some.inj h; subst h
    exact x_end 6 [(0, .call [] [] (.agg [bl v1.inn, i64 v1.pl.A, i64 v1.pl.B, i64 v1.pl.C, i64 v1.pl.D, .sl true 6 v1.kids.length ((eSol true).f v1.kids)]) [])] [] (ocons (Timpl_Leaf (Y := Y) false _ hv1) onil) onil (by kernel_rfl)
  · replace h := Option.some.inj h; subst h
    exact x_end 7 [] [] onil onil (by kernel_rfl)
/-! impl.Put -/
def Dimpl_Put_0 (_n : Nat) (_b6_0 : Bool) (_b6_1 _b6_2 _b6_3 _b6_4 : Int) : Option (Sol × Bool) :=
  (Dimpl_Leaf false).bind fun v1 => some (v1, false)
theorem Timpl_Put_0 {Y} (n : Nat) (b6_0 : Bool) (b6_1 b6_2 b6_3 b6_4 : Int) (r : (Sol × Bool)) (h : Dimpl_Put_0 n b6_0 b6_1 b6_2 b6_3 b6_4 = some r) : Wk Try.prog H Y 23 [.code (cp [1, 0, 1, 0, 0] (bodyOf Try.f23)), .code (cp [1, 0, 1, 0, 1] (bodyOf Try.f23)), .code (cp [1, 1] (bodyOf Try.f23))] (FinX Try.prog Try.f23 [] (.tup [.agg [bl r.1.inn, i64 r.1.pl.A, i64 r.1.pl.B, i64 r.1.pl.C, i64 r.1.pl.D, .sl true 6 r.1.kids.length ((eSol true).f r.1.kids)], bl r.2]) []) ⟨[(6, .ptr 6 0)], [(6, ⟨true, 0, [bl b6_0, i64 b6_1, i64 b6_2, i64 b6_3, i64 b6_4, .nil]⟩)]⟩ := by
  unfold Dimpl_Put_0 at h
  obtain ⟨v1, hv1, h⟩ := bind_some h
  replace h := Option.some.inj h; subst h
  exact x_end 5 [(0, .call [] [] (.agg [bl v1.inn, i64 v1.pl.A, i64 v1.pl.B, i64 v1.pl.C, i64 v1.pl.D, .sl true 6 v1.kids.length ((eSol true).f v1.kids)]) [])] [] (ocons (Timpl_Leaf (Y := Y) false _ hv1) onil) onil (by kernel_rfl)
def Dimpl_Put_1 (n : Nat) (t2 : Int) (t20 b3_0 : Bool) (b3_1 b3_2 b3_3 b3_4 : Int) (b3_5 : List Sol) (b4_0 : Bool) (b4_1 b4_2 b4_3 b4_4 : Int) (b4_5 : List Sol) (_b6_0 : Bool) (_b6_1 _b6_2 _b6_3 _b6_4 : Int) : Option (Sol × Bool) :=
  frk t20 ((Dimpl_Leaf false).bind fun v4 => some (v4, false)) ((Dimpl_put n (Sol.mk b3_0 (Pl.mk b3_1 b3_2 b3_3 b3_4) b3_5) (Sol.mk b4_0 (Pl.mk b4_1 b4_2 b4_3 b4_4) b4_5) t2).bind fun v5 => some v5)
theorem Timpl_Put_1 {Y} (n : Nat) (t2 : Int) (t20 b3_0 : Bool) (b3_1 b3_2 b3_3 b3_4 : Int) (b3_5 : List Sol) (b4_0 : Bool) (b4_1 b4_2 b4_3 b4_4 : Int) (b4_5 : List Sol) (b6_0 : Bool) (b6_1 b6_2 b6_3 b6_4 : Int) (r : (Sol × Bool)) (h : Dimpl_Put_1 n t2 t20 b3_0 b3_1 b3_2 b3_3 b3_4 b3_5 b4_0 b4_1 b4_2 b4_3 b4_4 b4_5 b6_0 b6_1 b6_2 b6_3 b6_4 = some r) : Wk Try.prog H Y 23 [.code (cp [1, 0, 1] (bodyOf Try.f23)), .code (cp [1, 1] (bodyOf Try.f23))] (FinX Try.prog Try.f23 [] (.tup [.agg [bl r.1.inn, i64 r.1.pl.A, i64 r.1.pl.B, i64 r.1.pl.C, i64 r.1.pl.D, .sl true 6 r.1.kids.length ((eSol true).f r.1.kids)], bl r.2]) []) ⟨[(2, i64 t2), (3, .ptr 3 0), (4, .ptr 4 0), (6, .ptr 6 0), (20, bl t20)], [(3, ⟨true, 0, [bl b3_0, i64 b3_1, i64 b3_2, i64 b3_3, i64 b3_4, .sl false 6 b3_5.length ((eSol false).f b3_5)]⟩), (4, ⟨true, 0, [bl b4_0, i64 b4_1, i64 b4_2, i64 b4_3, i64 b4_4, .sl false 6 b4_5.length ((eSol false).f b4_5)]⟩), (6, ⟨true, 0, [bl b6_0, i64 b6_1, i64 b6_2, i64 b6_3, i64 b6_4, .nil]⟩)]⟩ := by
  unfold Dimpl_Put_1 at h
  refine x_frk 0 [] onil h (by kernel_rfl) (fun h => ?_) (fun h => ?_)
  · obtain ⟨v4, hv4, h⟩ := bind_some h
    replace h := Option.some.inj h; subst h
    exact x_end 6 [(0, .call [] [] (.agg [bl v4.inn, i64 v4.pl.A, i64 v4.pl.B, i64 v4.pl.C, i64 v4.pl.D, .sl true 6 v4.kids.length ((eSol true).f v4.kids)]) [])] [] (ocons (Timpl_Leaf (Y := Y) false _ hv4) onil) onil (by kernel_rfl)
  · obtain ⟨v5, hv5, h⟩ := bind_some h
    replace h := Option.some.inj h; subst h
    exact x_end 12 [(3, .call [] [] (.tup [.agg [bl v5.1.inn, i64 v5.1.pl.A, i64 v5.1.pl.B, i64 v5.1.pl.C, i64 v5.1.pl.D, .sl true 6 v5.1.kids.length ((eSol true).f v5.1.kids)], bl v5.2]) [])] [] (ocons (Timpl_put (Y := Y) n (Sol.mk b3_0 (Pl.mk b3_1 b3_2 b3_3 b3_4) b3_5) (Sol.mk b4_0 (Pl.mk b4_1 b4_2 b4_3 b4_4) b4_5) t2 _ hv5) onil) onil (by kernel_rfl)
def Dimpl_Put (n : Nat) (a0 : Sol) (a1 : Sol) (a2 : Int) : Option (Sol × Bool) :=
  (Dimpl_isOp a2).bind fun v0 => frk (!v0) (Dimpl_Put_0 n false 0 0 0 0) ((Dimpl_SolidOk n a0).bind fun v2 => frk (!v2) (Dimpl_Put_0 n false 0 0 0 0) ((Dimpl_SolidOk n a1).bind fun v3 => Dimpl_Put_1 n a2 (!v3) a0.inn a0.pl.A a0.pl.B a0.pl.C a0.pl.D a0.kids a1.inn a1.pl.A a1.pl.B a1.pl.C a1.pl.D a1.kids false 0 0 0 0))
theorem Timpl_Put {Y} (n : Nat) (a0 : Sol) (a1 : Sol) (a2 : Int) (r : (Sol × Bool)) (h : Dimpl_Put n a0 a1 a2 = some r) : Big Try.prog H Y (.call 23 [.agg [bl a0.inn, i64 a0.pl.A, i64 a0.pl.B, i64 a0.pl.C, i64 a0.pl.D, .sl false 6 a0.kids.length ((eSol false).f a0.kids)], .agg [bl a1.inn, i64 a1.pl.A, i64 a1.pl.B, i64 a1.pl.C, i64 a1.pl.D, .sl false 6 a1.kids.length ((eSol false).f a1.kids)], i64 a2] (lk []) (.tup [.agg [bl r.1.inn, i64 r.1.pl.A, i64 r.1.pl.B, i64 r.1.pl.C, i64 r.1.pl.D, .sl true 6 r.1.kids.length ((eSol true).f r.1.kids)], bl r.2]) (lk [])) := by
  unfold Dimpl_Put at h
  refine x_call (fn := Try.f23) (c := bodyOf Try.f23) (bs0 := []) Try.func23 (by kernel_rfl) (by kernel_rfl) ?_
  obtain ⟨v0, hv0, h⟩ := bind_some h
  refine x_frk 14 [(5, .call [] [] (bl v0) [])] (ocons (Timpl_isOp (Y := Y) a2 _ hv0) onil) h (by kernel_rfl) (fun h => ?_) (fun h => ?_)
  · exact x_to 12 [] onil (Timpl_Put_0 n false 0 0 0 0 r h) (by kernel_rfl)
  · obtain ⟨v2, hv2, h⟩ := bind_some h
    refine x_frk 5 [(1, .call [] [] (bl v2) [])] (ocons (Timpl_SolidOk (Y := Y) n a0 _ hv2) onil) h (by kernel_rfl) (fun h => ?_) (fun h => ?_)
    · exact x_to 7 [] onil (Timpl_Put_0 n false 0 0 0 0 r h) (by kernel_rfl)
    · obtain ⟨v3, hv3, h⟩ := bind_some h
      exact x_to 5 [(1, .call [] [] (bl v3) [])] (ocons (Timpl_SolidOk (Y := Y) n a1 _ hv3) onil) (Timpl_Put_1 n a2 (!v3) a0.inn a0.pl.A a0.pl.B a0.pl.C a0.pl.D a0.kids a1.inn a1.pl.A a1.pl.B a1.pl.C a1.pl.D a1.kids false 0 0 0 0 r h) (by kernel_rfl)
/-! impl.SpotOk -/
def Dimpl_SpotOk (n : Nat) (a0 : Spot) : Option Bool :=
  (Dimpl_inRange a0.W 1 1000000000).bind fun v0 => frk (!v0) (some false) ((Dimpl_inRange a0.X (-1000000000) 1000000000).bind fun v1 => frk (!v1) (some false) ((Dimpl_inRange a0.Y (-1000000000) 1000000000).bind fun v2 => frk (!v2) (some false) ((Dimpl_inRange a0.Z (-1000000000) 1000000000).bind fun v3 => frk (!v3) (some false) ((Dimpl_divisor n [a0.X, a0.Y, a0.Z, a0.W]).bind fun v4 => some (v4 == 1)))))
theorem Timpl_SpotOk {Y} (n : Nat) (a0 : Spot) (r : Bool) (h : Dimpl_SpotOk n a0 = some r) : Big Try.prog H Y (.call 77 [.agg [i64 a0.X, i64 a0.Y, i64 a0.Z, i64 a0.W]] (lk []) (bl r) (lk [])) := by
  unfold Dimpl_SpotOk at h
  refine x_call (fn := Try.f77) (c := bodyOf Try.f77) (bs0 := []) Try.func77 (by kernel_rfl) (by kernel_rfl) ?_
  obtain ⟨v0, hv0, h⟩ := bind_some h
  refine x_frk 13 [(4, .call [] [] (bl v0) [])] (ocons (Timpl_inRange (Y := Y) a0.W 1 1000000000 _ hv0) onil) h (by kernel_rfl) (fun h => ?_) (fun h => ?_)
  · replace h := Option.some.inj h; subst h
    exact x_end 4 [] [] onil onil (by kernel_rfl)
  · obtain ⟨v1, hv1, h⟩ := bind_some h
    refine x_frk 35 [(12, .call [] [] (bl v1) [])] (ocons (Timpl_inRange (Y := Y) a0.X (-1000000000) 1000000000 _ hv1) onil) h (by kernel_rfl) (fun h => ?_) (fun h => ?_)
    · replace h := Option.some.inj h; subst h
      exact x_end 4 [] [] onil onil (by kernel_rfl)
    · obtain ⟨v2, hv2, h⟩ := bind_some h
      refine x_frk 28 [(6, .call [] [] (bl v2) [])] (ocons (Timpl_inRange (Y := Y) a0.Y (-1000000000) 1000000000 _ hv2) onil) h (by kernel_rfl) (fun h => ?_) (fun h => ?_)
      · replace h := Option.some.inj h; subst h
        exact x_end 4 [] [] onil onil (by kernel_rfl)
      · obtain ⟨v3, hv3, h⟩ := bind_some h
        refine x_frk 28 [(6, .call [] [] (bl v3) [])] (ocons (Timpl_inRange (Y := Y) a0.Z (-1000000000) 1000000000 _ hv3) onil) h (by kernel_rfl) (fun h => ?_) (fun h => ?_)
        · replace h := Option.some.inj h; subst h
          exact x_end 4 [] [] onil onil (by kernel_rfl)
        · obtain ⟨v4, hv4, h⟩ := bind_some h
          replace h := Option.some.inj h; subst h
          exact x_end 30 [(12, .call [] [(eInt).f [a0.X, a0.Y, a0.Z, a0.W]] (i64 v4) [])] [] (ocons (Timpl_divisor (Y := Y) n [a0.X, a0.Y, a0.Z, a0.W] _ hv4) (ocons (len_row (L := [a0.X, a0.Y, a0.Z, a0.W]) eInt) (ocons (Enc.share eInt eInt sInt [a0.X, a0.Y, a0.Z, a0.W]) onil))) onil (by kernel_rfl)
/-! impl.sideAt -/
def Dimpl_sideAt (a0 : Pl) (a1 : Spot) : Option Int :=
  (Dimpl_sign (w64 ((w64 ((w64 ((w64 (a0.A * a1.X)) + (w64 (a0.B * a1.Y)))) + (w64 (a0.C * a1.Z)))) + (w64 (a0.D * a1.W))))).bind fun v0 => some v0
theorem Timpl_sideAt {Y} (a0 : Pl) (a1 : Spot) (r : Int) (h : Dimpl_sideAt a0 a1 = some r) : Big Try.prog H Y (.call 109 [.agg [i64 a0.A, i64 a0.B, i64 a0.C, i64 a0.D], .agg [i64 a1.X, i64 a1.Y, i64 a1.Z, i64 a1.W]] (lk []) (i64 r) (lk [])) := by
  unfold Dimpl_sideAt at h
  refine x_call (fn := Try.f109) (c := bodyOf Try.f109) (bs0 := []) Try.func109 (by kernel_rfl) (by kernel_rfl) ?_
  obtain ⟨v0, hv0, h⟩ := bind_some h
  replace h := Option.some.inj h; subst h
  exact x_end 34 [(26, .call [] [] (i64 v0) [])] [] (ocons (Timpl_sign (Y := Y) (w64 ((w64 ((w64 ((w64 (a0.A * a1.X)) + (w64 (a0.B * a1.Y)))) + (w64 (a0.C * a1.Z)))) + (w64 (a0.D * a1.W)))) _ hv0) onil) onil (by kernel_rfl)
/-! impl.Solid).around -/
def Dimpl_Solid_around_0 (_n : Nat) (self : (Sol × Spot) → Option (Int × Int)) (_t0_0 : Bool) (_t0_1 _t0_2 _t0_3 _t0_4 : Int) (t0_5 : List Sol) (t7 t8 : Int) (t36 : Bool) (b3_0 b3_1 b3_2 b3_3 : Int) : Option (Int × Int) :=
  frk t36 ((lget t0_5 1).bind fun v4 => (self (v4, (Spot.mk b3_0 b3_1 b3_2 b3_3))).bind fun v5 => some (w64 (t7 + v5.1), w64 (t8 + v5.2))) (some (t7, t8))
theorem Timpl_Solid_around_0 {Y} (n : Nat) (self : (Sol × Spot) → Option (Int × Int)) (hself : ∀ (a : (Sol × Spot)) (q0 : List AV) (r : (Int × Int)), self a = some r → Big Try.prog H Y (.call 97 [.cptr ([bl a.1.inn, i64 a.1.pl.A, i64 a.1.pl.B, i64 a.1.pl.C, i64 a.1.pl.D, .sl false 6 a.1.kids.length ((eSol false).f a.1.kids)] ++ q0), .agg [i64 a.2.X, i64 a.2.Y, i64 a.2.Z, i64 a.2.W]] (lk []) (.tup [i64 r.1, i64 r.2]) (lk []))) (t0_0 : Bool) (t0_1 t0_2 t0_3 t0_4 : Int) (t0_5 : List Sol) (t0_r : List AV) (t7 t8 : Int) (t36 : Bool) (b3_0 b3_1 b3_2 b3_3 : Int) (q0 : List AV) (r : (Int × Int)) (h : Dimpl_Solid_around_0 n self t0_0 t0_1 t0_2 t0_3 t0_4 t0_5 t7 t8 t36 b3_0 b3_1 b3_2 b3_3 = some r) : Wk Try.prog H Y 97 [.code (cp [1, 1, 1, 1, 1, 0, 1] (bodyOf Try.f97)), .code (cp [1, 1, 1, 1, 1, 1] (bodyOf Try.f97))] (FinX Try.prog Try.f97 [] (.tup [i64 r.1, i64 r.2]) []) ⟨[(0, .cptr ([bl t0_0, i64 t0_1, i64 t0_2, i64 t0_3, i64 t0_4, .sl false 6 t0_5.length ((eSol false).f t0_5)] ++ t0_r)), (3, .ptr 3 0), (7, i64 t7), (8, i64 t8), (36, bl t36)], [(3, ⟨true, 0, [i64 b3_0, i64 b3_1, i64 b3_2, i64 b3_3]⟩)]⟩ := by
  unfold Dimpl_Solid_around_0 at h
  refine x_frk 0 [] onil h (by kernel_rfl) (fun h => ?_) (fun h => ?_)
  · obtain ⟨v4, hv4, h⟩ := bind_some h
    obtain ⟨v5, hv5, h⟩ := bind_some h
    replace h := Option.some.inj h; subst h
    exact x_end 35 [(4, .val (.cptr ((eSol false).c v4 ++ (eSol false).f ((t0_5).drop (Int.toNat 1 + 1))))), (1, .call [] [] (.tup [i64 v5.1, i64 v5.2]) [])] [] (ocons (ix (eSol false) hv4) (ocons (hself (v4, (Spot.mk b3_0 b3_1 b3_2 b3_3)) ((eSol false).f ((t0_5).drop (Int.toNat 1 + 1))) _ hv5) onil)) onil (by kernel_rfl)
  · replace h := Option.some.inj h; subst h
    exact x_end 8 [] [] onil onil (by kernel_rfl)
def Dimpl_Solid_around_b (n : Nat) (self : (Sol × Spot) → Option (Int × Int)) (a : (Sol × Spot)) : Option (Int × Int) :=
  match a with
  | (a0, a1) => (Dimpl_Solid_isLeaf a0).bind fun v0 => frk v0 (frk a0.inn (some (1, 0)) (some (0, 1))) ((Dimpl_sideAt a0.pl a1).bind fun v1 => frk (decide (v1 ≥ 0)) ((lget a0.kids 0).bind fun v2 => (self (v2, a1)).bind fun v3 => Dimpl_Solid_around_0 n self a0.inn a0.pl.A a0.pl.B a0.pl.C a0.pl.D a0.kids v3.1 v3.2 (decide (v1 ≤ 0)) a1.X a1.Y a1.Z a1.W) (Dimpl_Solid_around_0 n self a0.inn a0.pl.A a0.pl.B a0.pl.C a0.pl.D a0.kids 0 0 (decide (v1 ≤ 0)) a1.X a1.Y a1.Z a1.W))
def Dimpl_Solid_around (n : Nat) (a0 : Sol) (a1 : Spot) : Option (Int × Int) := loopN (Dimpl_Solid_around_b n) n (a0, a1)
theorem Timpl_Solid_around_b {Y} (n : Nat) : ∀ (m : Nat) (a : (Sol × Spot)) (r : (Int × Int)), loopN (Dimpl_Solid_around_b n) m a = some r → ∀ (q0 : List AV), Big Try.prog H Y (.call 97 [.cptr ([bl a.1.inn, i64 a.1.pl.A, i64 a.1.pl.B, i64 a.1.pl.C, i64 a.1.pl.D, .sl false 6 a.1.kids.length ((eSol false).f a.1.kids)] ++ q0), .agg [i64 a.2.X, i64 a.2.Y, i64 a.2.Z, i64 a.2.W]] (lk []) (.tup [i64 r.1, i64 r.2]) (lk [])) := by
  refine loopN_ind (fun self hs a r h => ?_)
  have hself : ∀ (a : (Sol × Spot)) (q0 : List AV) (r : (Int × Int)), self a = some r → Big Try.prog H Y (.call 97 [.cptr ([bl a.1.inn, i64 a.1.pl.A, i64 a.1.pl.B, i64 a.1.pl.C, i64 a.1.pl.D, .sl false 6 a.1.kids.length ((eSol false).f a.1.kids)] ++ q0), .agg [i64 a.2.X, i64 a.2.Y, i64 a.2.Z, i64 a.2.W]] (lk []) (.tup [i64 r.1, i64 r.2]) (lk [])) := fun a q0 r h => hs a r h q0
  intro q0
  obtain ⟨a0, a1⟩ := a
  unfold Dimpl_Solid_around_b at h
  refine x_call (fn := Try.f97) (c := bodyOf Try.f97) (bs0 := []) Try.func97 (by kernel_rfl) (by kernel_rfl) ?_
  obtain ⟨v0, hv0, h⟩ := bind_some h
  refine x_frk 12 [(4, .call [] [] (bl v0) [])] (ocons (Timpl_Solid_isLeaf (Y := Y) a0 q0 _ hv0) onil) h (by kernel_rfl) (fun h => ?_) (fun h => ?_)
  · refine x_frk 8 [] onil h (by kernel_rfl) (fun h => ?_) (fun h => ?_)
    · replace h := Option.some.inj h; subst h
      exact x_end 5 [] [] onil onil (by kernel_rfl)
    · replace h := Option.some.inj h; subst h
      exact x_end 6 [] [] onil onil (by kernel_rfl)
  · obtain ⟨v1, hv1, h⟩ := bind_some h
    refine x_frk 22 [(5, .call [] [] (i64 v1) [])] (ocons (Timpl_sideAt (Y := Y) a0.pl a1 _ hv1) onil) h (by kernel_rfl) (fun h => ?_) (fun h => ?_)
    · obtain ⟨v2, hv2, h⟩ := bind_some h
      obtain ⟨v3, hv3, h⟩ := bind_some h
      exact x_to 20 [(4, .val (.cptr ((eSol false).c v2 ++ (eSol false).f ((a0.kids).drop (Int.toNat 0 + 1))))), (1, .call [] [] (.tup [i64 v3.1, i64 v3.2]) [])] (ocons (ix (eSol false) hv2) (ocons (hself (v2, a1) ((eSol false).f ((a0.kids).drop (Int.toNat 0 + 1))) _ hv3) onil)) (Timpl_Solid_around_0 n self hself a0.inn a0.pl.A a0.pl.B a0.pl.C a0.pl.D a0.kids q0 v3.1 v3.2 (decide (v1 ≤ 0)) a1.X a1.Y a1.Z a1.W q0 r h) (by kernel_rfl)
    · exact x_to 7 [] onil (Timpl_Solid_around_0 n self hself a0.inn a0.pl.A a0.pl.B a0.pl.C a0.pl.D a0.kids q0 0 0 (decide (v1 ≤ 0)) a1.X a1.Y a1.Z a1.W q0 r h) (by kernel_rfl)
theorem Timpl_Solid_around {Y} (n : Nat) (a0 : Sol) (a1 : Spot) (q0 : List AV) (r : (Int × Int)) (h : Dimpl_Solid_around n a0 a1 = some r) : Big Try.prog H Y (.call 97 [.cptr ([bl a0.inn, i64 a0.pl.A, i64 a0.pl.B, i64 a0.pl.C, i64 a0.pl.D, .sl false 6 a0.kids.length ((eSol false).f a0.kids)] ++ q0), .agg [i64 a1.X, i64 a1.Y, i64 a1.Z, i64 a1.W]] (lk []) (.tup [i64 r.1, i64 r.2]) (lk [])) := Timpl_Solid_around_b n n (a0, a1) r h q0
/-! impl.Around -/
def Dimpl_Around_0 (n : Nat) (t13 b2_0 : Bool) (b2_1 b2_2 b2_3 b2_4 : Int) (b2_5 : List Sol) (b3_0 b3_1 b3_2 b3_3 : Int) : Option (Int × Int) :=
  frk t13 (some (0, 0)) ((Dimpl_Solid_around n (Sol.mk b2_0 (Pl.mk b2_1 b2_2 b2_3 b2_4) b2_5) (Spot.mk b3_0 b3_1 b3_2 b3_3)).bind fun v2 => some v2)
theorem Timpl_Around_0 {Y} (n : Nat) (t13 b2_0 : Bool) (b2_1 b2_2 b2_3 b2_4 : Int) (b2_5 : List Sol) (b3_0 b3_1 b3_2 b3_3 : Int) (r : (Int × Int)) (h : Dimpl_Around_0 n t13 b2_0 b2_1 b2_2 b2_3 b2_4 b2_5 b3_0 b3_1 b3_2 b3_3 = some r) : Wk Try.prog H Y 62 [.code (cp [1, 0, 1] (bodyOf Try.f62)), .code (cp [1, 1] (bodyOf Try.f62))] (FinX Try.prog Try.f62 [] (.tup [i64 r.1, i64 r.2]) []) ⟨[(2, .ptr 2 0), (3, .ptr 3 0), (13, bl t13)], [(2, ⟨true, 0, [bl b2_0, i64 b2_1, i64 b2_2, i64 b2_3, i64 b2_4, .sl false 6 b2_5.length ((eSol false).f b2_5)]⟩), (3, ⟨true, 0, [i64 b3_0, i64 b3_1, i64 b3_2, i64 b3_3]⟩)]⟩ := by
  unfold Dimpl_Around_0 at h
  refine x_frk 0 [] onil h (by kernel_rfl) (fun h => ?_) (fun h => ?_)
  · replace h := Option.some.inj h; subst h
    exact x_end 5 [] [] onil onil (by kernel_rfl)
  · obtain ⟨v2, hv2, h⟩ := bind_some h
    replace h := Option.some.inj h; subst h
    exact x_end 10 [(1, .call [] [] (.tup [i64 v2.1, i64 v2.2]) [])] [] (ocons (Timpl_Solid_around (Y := Y) n (Sol.mk b2_0 (Pl.mk b2_1 b2_2 b2_3 b2_4) b2_5) (Spot.mk b3_0 b3_1 b3_2 b3_3) [] _ hv2) onil) onil (by kernel_rfl)
def Dimpl_Around (n : Nat) (a0 : Sol) (a1 : Spot) : Option (Int × Int) :=
  (Dimpl_SpotOk n a1).bind fun v0 => frk (!v0) (some (0, 0)) ((Dimpl_SolidOk n a0).bind fun v1 => Dimpl_Around_0 n (!v1) a0.inn a0.pl.A a0.pl.B a0.pl.C a0.pl.D a0.kids a1.X a1.Y a1.Z a1.W)
theorem Timpl_Around {Y} (n : Nat) (a0 : Sol) (a1 : Spot) (r : (Int × Int)) (h : Dimpl_Around n a0 a1 = some r) : Big Try.prog H Y (.call 62 [.agg [bl a0.inn, i64 a0.pl.A, i64 a0.pl.B, i64 a0.pl.C, i64 a0.pl.D, .sl false 6 a0.kids.length ((eSol false).f a0.kids)], .agg [i64 a1.X, i64 a1.Y, i64 a1.Z, i64 a1.W]] (lk []) (.tup [i64 r.1, i64 r.2]) (lk [])) := by
  unfold Dimpl_Around at h
  refine x_call (fn := Try.f62) (c := bodyOf Try.f62) (bs0 := []) Try.func62 (by kernel_rfl) (by kernel_rfl) ?_
  obtain ⟨v0, hv0, h⟩ := bind_some h
  refine x_frk 14 [(5, .call [] [] (bl v0) [])] (ocons (Timpl_SpotOk (Y := Y) n a1 _ hv0) onil) h (by kernel_rfl) (fun h => ?_) (fun h => ?_)
  · replace h := Option.some.inj h; subst h
    exact x_end 11 [] [] onil onil (by kernel_rfl)
  · obtain ⟨v1, hv1, h⟩ := bind_some h
    exact x_to 5 [(1, .call [] [] (bl v1) [])] (ocons (Timpl_SolidOk (Y := Y) n a0 _ hv1) onil) (Timpl_Around_0 n (!v1) a0.inn a0.pl.A a0.pl.B a0.pl.C a0.pl.D a0.kids a1.X a1.Y a1.Z a1.W r h) (by kernel_rfl)
/-! impl.where -/
def Dimpl_where (a0 a1 : Int) : Option Int :=
  frk (a0 == 0) (some (-1)) (frk (a1 == 0) (some 1) (some 0))
theorem Timpl_where {Y} (a0 a1 r : Int) (h : Dimpl_where a0 a1 = some r) : Big Try.prog H Y (.call 61 [i64 a0, i64 a1] (lk []) (i64 r) (lk [])) := by
  unfold Dimpl_where at h
  refine x_call (fn := Try.f61) (c := bodyOf Try.f61) (bs0 := []) Try.func61 (by kernel_rfl) (by kernel_rfl) ?_
  refine x_frk 12 [] onil h (by kernel_rfl) (fun h => ?_) (fun h => ?_)
  · replace h := Option.some.inj h; subst h
    exact x_end 4 [] [] onil onil (by kernel_rfl)
  · refine x_frk 6 [] onil h (by kernel_rfl) (fun h => ?_) (fun h => ?_)
    · replace h := Option.some.inj h; subst h
      exact x_end 4 [] [] onil onil (by kernel_rfl)
    · replace h := Option.some.inj h; subst h
      exact x_end 6 [] [] onil onil (by kernel_rfl)
/-! impl.Where -/
def Dimpl_Where (n : Nat) (a0 : Sol) (a1 : Spot) : Option Int :=
  (Dimpl_Around n a0 a1).bind fun v0 => (Dimpl_where v0.1 v0.2).bind fun v1 => some v1
theorem Timpl_Where {Y} (n : Nat) (a0 : Sol) (a1 : Spot) (r : Int) (h : Dimpl_Where n a0 a1 = some r) : Big Try.prog H Y (.call 24 [.agg [bl a0.inn, i64 a0.pl.A, i64 a0.pl.B, i64 a0.pl.C, i64 a0.pl.D, .sl false 6 a0.kids.length ((eSol false).f a0.kids)], .agg [i64 a1.X, i64 a1.Y, i64 a1.Z, i64 a1.W]] (lk []) (i64 r) (lk [])) := by
  unfold Dimpl_Where at h
  refine x_call (fn := Try.f24) (c := bodyOf Try.f24) (bs0 := []) Try.func24 (by kernel_rfl) (by kernel_rfl) ?_
  obtain ⟨v0, hv0, h⟩ := bind_some h
  obtain ⟨v1, hv1, h⟩ := bind_some h
  replace h := Option.some.inj h; subst h
  exact x_end 16 [(5, .call [] [] (.tup [i64 v0.1, i64 v0.2]) []), (2, .call [] [] (i64 v1) [])] [] (ocons (Timpl_Around (Y := Y) n a0 a1 _ hv0) (ocons (Timpl_where (Y := Y) v0.1 v0.2 _ hv1) onil)) onil (by kernel_rfl)
/-! impl.Solid] -/
def Dslices_EqualFuncfimpl_SameTree_in_0 (_n : Nat) (self : (Sol × Sol) → Option Bool) (t1 t15 : List Sol) (t16 : Int) (rec0 : Int → Option Bool) (a : Int) : Option Bool :=
  match a with
  | t17 => frk (decide (t17 < t16)) ((lget t15 t17).bind fun v0 => (lget t1 t17).bind fun v1 => (self (v0, v1)).bind fun v2 => frk (!v2) (some false) (rec0 (w64 (t17 + 1)))) (some true)
theorem Tslices_EqualFuncfimpl_SameTree_in_0 {Y} (n : Nat) (self : (Sol × Sol) → Option Bool) (hself : ∀ (a : (Sol × Sol)) (r : Bool), self a = some r → Big Try.prog H Y (.call 11 [.agg [bl a.1.inn, i64 a.1.pl.A, i64 a.1.pl.B, i64 a.1.pl.C, i64 a.1.pl.D, .sl false 6 a.1.kids.length ((eSol false).f a.1.kids)], .agg [bl a.2.inn, i64 a.2.pl.A, i64 a.2.pl.B, i64 a.2.pl.C, i64 a.2.pl.D, .sl false 6 a.2.kids.length ((eSol false).f a.2.kids)]] (lk []) (bl r) (lk []))) (t1 t15 : List Sol) (t16 : Int) : ∀ (m : Nat) (a : Int) (r : Bool), loopN (Dslices_EqualFuncfimpl_SameTree_in_0 n self t1 t15 t16) m a = some r → Wk Try.prog H Y 44 [.code (cp [1, 1, 0, 1, 0] (bodyOf Try.f44)), .blk 0, .code (cp [1, 1, 1] (bodyOf Try.f44))] (FinX Try.prog Try.f44 [] (bl r) []) ⟨[(1, .sl false 6 t1.length ((eSol false).f t1)), (2, .lit (.func (.func 11) #[] #[])), (15, .sl false 6 t15.length ((eSol false).f t15)), (16, i64 t16), (17, i64 a)], []⟩ := by
  refine loopN_ind (fun _rec0 hrec0 a r h => ?_)
  obtain ⟨t17, rfl⟩ : ∃ x, x = a := ⟨a, rfl⟩
  unfold Dslices_EqualFuncfimpl_SameTree_in_0 at h
  refine x_frk 6 [] onil h (by kernel_rfl) (fun h => ?_) (fun h => ?_)
  · obtain ⟨v0, hv0, h⟩ := bind_some h
    obtain ⟨v1, hv1, h⟩ := bind_some h
    obtain ⟨v2, hv2, h⟩ := bind_some h
    refine x_frk 29 [(1, .val (.cptr ((eSol false).c v0 ++ (eSol false).f ((t15).drop (Int.toNat t17 + 1))))), (6, .val (.cptr ((eSol false).c v1 ++ (eSol false).f ((t1).drop (Int.toNat t17 + 1))))), (6, .call [] [] (bl v2) [])] (ocons (ix (eSol false) hv0) (ocons (ix (eSol false) hv1) (ocons (hself (v0, v1) _ hv2) onil))) h (by kernel_rfl) (fun h => ?_) (fun h => ?_)
    · replace h := Option.some.inj h; subst h
      exact x_end 4 [] [] onil onil (by kernel_rfl)
    · exact x_to 7 [] onil (hrec0 (w64 (t17 + 1)) r h) (by kernel_rfl)
  · replace h := Option.some.inj h; subst h
    exact x_end 5 [] [] onil onil (by kernel_rfl)
def Dslices_EqualFuncfimpl_SameTree_in (n : Nat) (self : (Sol × Sol) → Option Bool) (a0 : (List Sol)) (a1 : (List Sol)) : Option Bool :=
  frk ((a0.length : Int) != (a1.length : Int)) (some false) (loopN (Dslices_EqualFuncfimpl_SameTree_in_0 n self a1 a0 (a0.length : Int)) n 0)
theorem Tslices_EqualFuncfimpl_SameTree_in {Y} (n : Nat) (self : (Sol × Sol) → Option Bool) (hself : ∀ (a : (Sol × Sol)) (r : Bool), self a = some r → Big Try.prog H Y (.call 11 [.agg [bl a.1.inn, i64 a.1.pl.A, i64 a.1.pl.B, i64 a.1.pl.C, i64 a.1.pl.D, .sl false 6 a.1.kids.length ((eSol false).f a.1.kids)], .agg [bl a.2.inn, i64 a.2.pl.A, i64 a.2.pl.B, i64 a.2.pl.C, i64 a.2.pl.D, .sl false 6 a.2.kids.length ((eSol false).f a.2.kids)]] (lk []) (bl r) (lk []))) (a0 : (List Sol)) (a1 : (List Sol)) (r : Bool) (h : Dslices_EqualFuncfimpl_SameTree_in n self a0 a1 = some r) : Big Try.prog H Y (.call 44 [.sl false 6 a0.length ((eSol false).f a0), .sl false 6 a1.length ((eSol false).f a1), .lit (.func (.func 11) #[] #[])] (lk []) (bl r) (lk [])) := by
  unfold Dslices_EqualFuncfimpl_SameTree_in at h
  refine x_call (fn := Try.f44) (c := bodyOf Try.f44) (bs0 := []) Try.func44 (by kernel_rfl) (by kernel_rfl) ?_
  refine x_frk 13 [] onil h (by kernel_rfl) (fun h => ?_) (fun h => ?_)
  · replace h := Option.some.inj h; subst h
    exact x_end 4 [] [] onil onil (by kernel_rfl)
  · exact x_to 9 [] onil (Tslices_EqualFuncfimpl_SameTree_in_0 n self hself a1 a0 (a0.length : Int) n 0 r h) (by kernel_rfl)
/-! impl.SameTree -/
def Dimpl_SameTree_b (n : Nat) (self : (Sol × Sol) → Option Bool) (a : (Sol × Sol)) : Option Bool :=
  match a with
  | (a0, a1) => frk (a0.inn == a1.inn) (frk (a0.pl.A == a1.pl.A && (a0.pl.B == a1.pl.B && (a0.pl.C == a1.pl.C && (a0.pl.D == a1.pl.D && true)))) ((Dslices_EqualFuncfimpl_SameTree_in n self a0.kids a1.kids).bind fun v0 => some v0) (some false)) (some false)
def Dimpl_SameTree (n : Nat) (a0 : Sol) (a1 : Sol) : Option Bool := loopN (Dimpl_SameTree_b n) n (a0, a1)
theorem Timpl_SameTree_b {Y} (n : Nat) : ∀ (m : Nat) (a : (Sol × Sol)) (r : Bool), loopN (Dimpl_SameTree_b n) m a = some r → ∀ (_ : Unit), Big Try.prog H Y (.call 11 [.agg [bl a.1.inn, i64 a.1.pl.A, i64 a.1.pl.B, i64 a.1.pl.C, i64 a.1.pl.D, .sl false 6 a.1.kids.length ((eSol false).f a.1.kids)], .agg [bl a.2.inn, i64 a.2.pl.A, i64 a.2.pl.B, i64 a.2.pl.C, i64 a.2.pl.D, .sl false 6 a.2.kids.length ((eSol false).f a.2.kids)]] (lk []) (bl r) (lk [])) := by
  refine loopN_ind (fun self hs a r h => ?_)
  have hself : ∀ (a : (Sol × Sol)) (r : Bool), self a = some r → Big Try.prog H Y (.call 11 [.agg [bl a.1.inn, i64 a.1.pl.A, i64 a.1.pl.B, i64 a.1.pl.C, i64 a.1.pl.D, .sl false 6 a.1.kids.length ((eSol false).f a.1.kids)], .agg [bl a.2.inn, i64 a.2.pl.A, i64 a.2.pl.B, i64 a.2.pl.C, i64 a.2.pl.D, .sl false 6 a.2.kids.length ((eSol false).f a.2.kids)]] (lk []) (bl r) (lk [])) := fun a r h => hs a r h ()
  intro _
  obtain ⟨a0, a1⟩ := a
  unfold Dimpl_SameTree_b at h
  refine x_call (fn := Try.f11) (c := bodyOf Try.f11) (bs0 := []) Try.func11 (by kernel_rfl) (by kernel_rfl) ?_
  refine x_frk 14 [] onil h (by kernel_rfl) (fun h => ?_) (fun h => ?_)
  · refine x_frk 7 [] onil h (by kernel_rfl) (fun h => ?_) (fun h => ?_)
    · obtain ⟨v0, hv0, h⟩ := bind_some h
      replace h := Option.some.inj h; subst h
      exact x_end 8 [(4, .call [] [] (bl v0) [])] [] (ocons (Tslices_EqualFuncfimpl_SameTree_in (Y := Y) n self hself a0.kids a1.kids _ hv0) onil) onil (by kernel_rfl)
    · replace h := Option.some.inj h; subst h
      exact x_end 8 [] [] onil onil (by kernel_rfl)
  · replace h := Option.some.inj h; subst h
    exact x_end 15 [] [] onil onil (by kernel_rfl)
theorem Timpl_SameTree {Y} (n : Nat) (a0 : Sol) (a1 : Sol) (r : Bool) (h : Dimpl_SameTree n a0 a1 = some r) : Big Try.prog H Y (.call 11 [.agg [bl a0.inn, i64 a0.pl.A, i64 a0.pl.B, i64 a0.pl.C, i64 a0.pl.D, .sl false 6 a0.kids.length ((eSol false).f a0.kids)], .agg [bl a1.inn, i64 a1.pl.A, i64 a1.pl.B, i64 a1.pl.C, i64 a1.pl.D, .sl false 6 a1.kids.length ((eSol false).f a1.kids)]] (lk []) (bl r) (lk [])) := Timpl_SameTree_b n n (a0, a1) r h ()
/-! laws.FnNot -/
def Dlaws_FnNot (n : Nat) (a0 : (List Int)) : Option Bool :=
  (Dlaws_big a0).bind fun v0 => frk v0 (some true) ((Dspec_DrawSolid n a0).bind fun v1 => (Dimpl_Not n v1.1).bind fun v2 => (Dimpl_Put n v1.1 v2 2).bind fun v3 => (Dimpl_Put n v1.1 v2 1).bind fun v4 => (Dimpl_Where n v2 v1.2).bind fun v5 => (Dimpl_Where n v1.1 v1.2).bind fun v6 => frk (v5 == (w64 (0 - v6))) ((Dimpl_Not n v2).bind fun v7 => (Dimpl_SameTree n v7 v1.1).bind fun v8 => frk v8 (frk v3.2 (frk v4.2 (frk v3.1.inn (frk ((v3.1.kids.length : Int) == 0) (frk (!v4.1.inn) (some ((v4.1.kids.length : Int) == 0)) (some false)) (some false)) (some false)) (some false)) (some false)) (some false)) (some false))
theorem Tlaws_FnNot {Y} (n : Nat) (a0 : (List Int)) (r : Bool) (h : Dlaws_FnNot n a0 = some r) : Big Try.prog H Y (.call 5 [.sl false 1 a0.length ((eU8).f a0)] (lk []) (bl r) (lk [])) := by
  unfold Dlaws_FnNot at h
  refine x_call (fn := Try.f5) (c := bodyOf Try.f5) (bs0 := []) Try.func5 (by kernel_rfl) (by kernel_rfl) ?_
  obtain ⟨v0, hv0, h⟩ := bind_some h
  refine x_frk 10 [(2, .call [] [] (bl v0) [])] (ocons (Tlaws_big (Y := Y) a0 _ hv0) onil) h (by kernel_rfl) (fun h => ?_) (fun h => ?_)
  · replace h := Option.some.inj h; subst h
    exact x_end 4 [] [] onil onil (by kernel_rfl)
  · obtain ⟨v1, hv1, h⟩ := bind_some h
    obtain ⟨v2, hv2, h⟩ := bind_some h
    obtain ⟨v3, hv3, h⟩ := bind_some h
    obtain ⟨v4, hv4, h⟩ := bind_some h
    obtain ⟨v5, hv5, h⟩ := bind_some h
    obtain ⟨v6, hv6, h⟩ := bind_some h
    refine x_frk 55 [(1, .call [] [] (.tup [.agg [bl v1.1.inn, i64 v1.1.pl.A, i64 v1.1.pl.B, i64 v1.1.pl.C, i64 v1.1.pl.D, .sl true 6 v1.1.kids.length ((eSol true).f v1.1.kids)], .agg [i64 v1.2.X, i64 v1.2.Y, i64 v1.2.Z, i64 v1.2.W]]) []), (7, .rows [(eSol false).f v1.1.kids]), (0, .call [] [] (.agg [bl v2.inn, i64 v2.pl.A, i64 v2.pl.B, i64 v2.pl.C, i64 v2.pl.D, .sl true 6 v2.kids.length ((eSol true).f v2.kids)]) []), (2, .rows [(eSol false).f v1.1.kids]), (0, .rows [(eSol false).f v2.kids]), (0, .call [] [] (.tup [.agg [bl v3.1.inn, i64 v3.1.pl.A, i64 v3.1.pl.B, i64 v3.1.pl.C, i64 v3.1.pl.D, .sl true 6 v3.1.kids.length ((eSol true).f v3.1.kids)], bl v3.2]) []), (6, .rows [(eSol false).f v1.1.kids]), (0, .rows [(eSol false).f v2.kids]), (0, .call [] [] (.tup [.agg [bl v4.1.inn, i64 v4.1.pl.A, i64 v4.1.pl.B, i64 v4.1.pl.C, i64 v4.1.pl.D, .sl true 6 v4.1.kids.length ((eSol true).f v4.1.kids)], bl v4.2]) []), (6, .rows [(eSol false).f v2.kids]), (1, .call [] [] (i64 v5) []), (0, .rows [(eSol false).f v1.1.kids]), (1, .call [] [] (i64 v6) [])] (ocons (Tspec_DrawSolid (Y := Y) n a0 _ hv1) (ocons (Enc.share (eSol true) (eSol false) (sSol true) v1.1.kids) (ocons (Timpl_Not (Y := Y) n v1.1 _ hv2) (ocons (Enc.share (eSol true) (eSol false) (sSol true) v1.1.kids) (ocons (Enc.share (eSol true) (eSol false) (sSol true) v2.kids) (ocons (Timpl_Put (Y := Y) n v1.1 v2 2 _ hv3) (ocons (Enc.share (eSol true) (eSol false) (sSol true) v1.1.kids) (ocons (Enc.share (eSol true) (eSol false) (sSol true) v2.kids) (ocons (Timpl_Put (Y := Y) n v1.1 v2 1 _ hv4) (ocons (Enc.share (eSol true) (eSol false) (sSol true) v2.kids) (ocons (Timpl_Where (Y := Y) n v2 v1.2 _ hv5) (ocons (Enc.share (eSol true) (eSol false) (sSol true) v1.1.kids) (ocons (Timpl_Where (Y := Y) n v1.1 v1.2 _ hv6) onil))))))))))))) h (by kernel_rfl) (fun h => ?_) (fun h => ?_)
    · obtain ⟨v7, hv7, h⟩ := bind_some h
      obtain ⟨v8, hv8, h⟩ := bind_some h
      refine x_frk 6 [(0, .rows [(eSol false).f v2.kids]), (0, .call [] [] (.agg [bl v7.inn, i64 v7.pl.A, i64 v7.pl.B, i64 v7.pl.C, i64 v7.pl.D, .sl true 6 v7.kids.length ((eSol true).f v7.kids)]) []), (0, .rows [(eSol false).f v1.1.kids]), (0, .call [] [(eSol false).f v7.kids] (bl v8) [])] (ocons (Enc.share (eSol true) (eSol false) (sSol true) v2.kids) (ocons (Timpl_Not (Y := Y) n v2 _ hv7) (ocons (Enc.share (eSol true) (eSol false) (sSol true) v1.1.kids) (ocons (Timpl_SameTree (Y := Y) n v7 v1.1 _ hv8) (ocons (Enc.share (eSol true) (eSol false) (sSol true) v7.kids) onil))))) h (by kernel_rfl) (fun h => ?_) (fun h => ?_)
      · refine x_frk 3 [] onil h (by kernel_rfl) (fun h => ?_) (fun h => ?_)
        · refine x_frk 3 [] onil h (by kernel_rfl) (fun h => ?_) (fun h => ?_)
          · refine x_frk 4 [] onil h (by kernel_rfl) (fun h => ?_) (fun h => ?_)
            · refine x_frk 6 [(1, .rows [(eSol false).f v3.1.kids])] (ocons (Enc.share (eSol true) (eSol false) (sSol true) v3.1.kids) onil) h (by kernel_rfl) (fun h => ?_) (fun h => ?_)
              · refine x_frk 5 [] onil h (by kernel_rfl) (fun h => ?_) (fun h => ?_)
                · replace h := Option.some.inj h; subst h
                  exact x_end 7 [(1, .rows [(eSol false).f v4.1.kids])] [] (ocons (Enc.share (eSol true) (eSol false) (sSol true) v4.1.kids) onil) onil (by kernel_rfl)
                · replace h := Option.some.inj h; subst h
                  exact x_end 7 [] [] onil onil (by kernel_rfl)
              · replace h := Option.some.inj h; subst h
                exact x_end 12 [] [] onil onil (by kernel_rfl)
            · replace h := Option.some.inj h; subst h
              exact x_end 18 [] [] onil onil (by kernel_rfl)
          · replace h := Option.some.inj h; subst h
            exact x_end 22 [] [] onil onil (by kernel_rfl)
        · replace h := Option.some.inj h; subst h
          exact x_end 25 [] [] onil onil (by kernel_rfl)
      · replace h := Option.some.inj h; subst h
        exact x_end 28 [] [] onil onil (by kernel_rfl)
    · replace h := Option.some.inj h; subst h
      exact x_end 34 [] [] onil onil (by kernel_rfl)
end Evl.T
