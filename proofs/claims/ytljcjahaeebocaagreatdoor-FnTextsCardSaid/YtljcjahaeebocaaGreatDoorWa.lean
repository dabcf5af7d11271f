/- Walks. No condition. -/
import Derived.Test.YtljcjahaeebocaaGreatDoorWy
namespace Evl.T
open Go Evl Go.Proofs
set_option maxRecDepth 100000
/-! impl.clash2 -/
def Dimpl_clash2 (_n : Nat) (a0 : Pl) (a1 : Pl) : Option Bool :=
  (Dimpl_parallel a0 a1).bind fun v0 => frk (decide (v0 ≥ 0)) (some false) ((Dimpl_normal a0).bind fun v1 => (Dimpl_normal a1).bind fun v2 => frk (v1.1 != 0) (some (decide ((w64 ((w64 (a0.D * (maxN v2.1 [w64 (0 - v2.1)]))) + (w64 (a1.D * (maxN v1.1 [w64 (0 - v1.1)]))))) ≤ 0))) (frk (v1.2.1 != 0) (some (decide ((w64 ((w64 (a0.D * (maxN v2.2.1 [w64 (0 - v2.2.1)]))) + (w64 (a1.D * (maxN v1.2.1 [w64 (0 - v1.2.1)]))))) ≤ 0))) (frk (v1.2.2 != 0) (some (decide ((w64 ((w64 (a0.D * (maxN v2.2.2 [w64 (0 - v2.2.2)]))) + (w64 (a1.D * (maxN v1.2.2 [w64 (0 - v1.2.2)]))))) ≤ 0))) (some false))))
theorem Timpl_clash2 (n : Nat) (a0 : Pl) (a1 : Pl) (r : Bool) (h : Dimpl_clash2 n a0 a1 = some r) : Big Tryz.prog H YS (.call 80 [.agg [i64 a0.A, i64 a0.B, i64 a0.C, i64 a0.D], .agg [i64 a1.A, i64 a1.B, i64 a1.C, i64 a1.D]] (lk []) (bl r) (lk [])) := by
  unfold Dimpl_clash2 at h
  refine x_call (fn := Tryz.f80) (c := bodyOf Tryz.f80) (bs0 := []) Tryz.func80 (by kernel_rfl) (by kernel_rfl) ?_
  obtain ⟨v0, hv0, h⟩ := bind_some h
  refine x_frk 14 [(5, .call [] [] (i64 v0) [])] (ocons (Timpl_parallel a0 a1 _ hv0) onil) h (by kernel_rfl) (fun h => ?_) (fun h => ?_)
  · replace h := Option.some.inj h; subst h
    exact x_end 4 [] [] onil onil (by kernel_rfl)
  · obtain ⟨v1, hv1, h⟩ := bind_some h
    obtain ⟨v2, hv2, h⟩ := bind_some h
    refine x_frk 40 [(1, .call [] [] (.agg [i64 v1.1, i64 v1.2.1, i64 v1.2.2]) []), (1, .call [] [] (.agg [i64 v2.1, i64 v2.2.1, i64 v2.2.2]) [])] (ocons (Timpl_normal a0 _ hv1) (ocons (Timpl_normal a1 _ hv2) onil)) h (by kernel_rfl) (fun h => ?_) (fun h => ?_)
    · replace h := Option.some.inj h; subst h
      exact x_end 28 [(9, .val (.lit (.int .i64 (maxN v2.1 [w64 (0 - v2.1)])))), (10, .val (.lit (.int .i64 (maxN v1.1 [w64 (0 - v1.1)]))))] [] (ocons (maxNok .i64 [w64 (0 - v2.1)] v2.1) (ocons (maxNok .i64 [w64 (0 - v1.1)] v1.1) onil)) onil (by kernel_rfl)
    · refine x_frk 29 [] onil h (by kernel_rfl) (fun h => ?_) (fun h => ?_)
      · replace h := Option.some.inj h; subst h
        exact x_end 28 [(9, .val (.lit (.int .i64 (maxN v2.2.1 [w64 (0 - v2.2.1)])))), (10, .val (.lit (.int .i64 (maxN v1.2.1 [w64 (0 - v1.2.1)]))))] [] (ocons (maxNok .i64 [w64 (0 - v2.2.1)] v2.2.1) (ocons (maxNok .i64 [w64 (0 - v1.2.1)] v1.2.1) onil)) onil (by kernel_rfl)
      · refine x_frk 29 [] onil h (by kernel_rfl) (fun h => ?_) (fun h => ?_)
        · replace h := Option.some.inj h; subst h
          exact x_end 28 [(9, .val (.lit (.int .i64 (maxN v2.2.2 [w64 (0 - v2.2.2)])))), (10, .val (.lit (.int .i64 (maxN v1.2.2 [w64 (0 - v1.2.2)]))))] [] (ocons (maxNok .i64 [w64 (0 - v2.2.2)] v2.2.2) (ocons (maxNok .i64 [w64 (0 - v1.2.2)] v1.2.2) onil)) onil (by kernel_rfl)
        · replace h := Option.some.inj h; subst h
          exact x_end 19 [] [] onil onil (by kernel_rfl)
/-! impl.det -/
def Dimpl_det (a0 : (Int × Int × Int)) (a1 : (Int × Int × Int)) (a2 : (Int × Int × Int)) : Option Int :=
  (Dimpl_crossOf a1 a2).bind fun v0 => (Dimpl_dot a0 v0).bind fun v1 => some v1
theorem Timpl_det (a0 : (Int × Int × Int)) (a1 : (Int × Int × Int)) (a2 : (Int × Int × Int)) (r : Int) (h : Dimpl_det a0 a1 a2 = some r) : Big Tryz.prog H YS (.call 97 [.agg [i64 a0.1, i64 a0.2.1, i64 a0.2.2], .agg [i64 a1.1, i64 a1.2.1, i64 a1.2.2], .agg [i64 a2.1, i64 a2.2.1, i64 a2.2.2]] (lk []) (i64 r) (lk [])) := by
  unfold Dimpl_det at h
  refine x_call (fn := Tryz.f97) (c := bodyOf Tryz.f97) (bs0 := []) Tryz.func97 (by kernel_rfl) (by kernel_rfl) ?_
  obtain ⟨v0, hv0, h⟩ := bind_some h
  obtain ⟨v1, hv1, h⟩ := bind_some h
  replace h := Option.some.inj h; subst h
  exact x_end 16 [(7, .call [] [] (.agg [i64 v0.1, i64 v0.2.1, i64 v0.2.2]) []), (0, .call [] [] (i64 v1) [])] [] (ocons (Timpl_crossOf a1 a2 _ hv0) (ocons (Timpl_dot a0 v0 _ hv1) onil)) onil (by kernel_rfl)
/-! impl.weighs -/
def Dimpl_weighs_0 (_n : Nat) (rec0 : (Int × Int) → Option Bool) (t1 : List Int) (_t5 : Int) (_t13 : List Int) (_t14 t6 t7 t8 t15 : Int) (t27 : Bool) : Option Bool :=
  frk t27 (some false) ((lget t1 t7).bind fun v4 => rec0 (w64 (t6 + (w64 (t8 * v4))), w64 (t15 + 1)))
theorem Timpl_weighs_0 (n : Nat) (rec0 : (Int × Int) → Option Bool) (t1 : List Int) (t5 : Int) (t13 : List Int) (t14 : Int) (hrec0 : ∀ (a : (Int × Int)) (r : Bool), rec0 a = some r → Wk Tryz.prog H YS 99 [.code (cp [1, 1, 1, 0, 1, 0] (bodyOf Tryz.f99)), .blk 0, .code (cp [1, 1, 1, 1] (bodyOf Tryz.f99))] (FinX Tryz.prog Tryz.f99 [] (bl r) []) ⟨[(1, .sl false 1 t1.length ((eInt).f t1)), (5, i64 t5), (6, i64 a.1), (13, .sl false 1 t13.length ((eInt).f t13)), (14, i64 t14), (15, i64 a.2)], []⟩) (t6 t7 t8 t15 : Int) (t27 r : Bool) (h : Dimpl_weighs_0 n rec0 t1 t5 t13 t14 t6 t7 t8 t15 t27 = some r) : Wk Tryz.prog H YS 99 [.code (cp [1, 1, 1, 0, 1, 0, 0, 1, 1, 0, 0, 1, 0, 1] (bodyOf Tryz.f99)), .code (cp [1, 1, 1, 0, 1, 0, 0, 1, 1, 0, 0, 1, 1] (bodyOf Tryz.f99)), .blk 1, .code (cp [1, 1, 1, 0, 1, 0, 0, 1, 1, 1] (bodyOf Tryz.f99)), .lp (cp [1, 1, 1, 0, 1, 0] (bodyOf Tryz.f99)), .blk 0, .code (cp [1, 1, 1, 1] (bodyOf Tryz.f99))] (FinX Tryz.prog Tryz.f99 [] (bl r) []) ⟨[(1, .sl false 1 t1.length ((eInt).f t1)), (5, i64 t5), (6, i64 t6), (7, i64 t7), (8, i64 t8), (13, .sl false 1 t13.length ((eInt).f t13)), (14, i64 t14), (15, i64 t15), (27, bl t27)], []⟩ := by
  unfold Dimpl_weighs_0 at h
  refine x_frk 0 [] onil h (by kernel_rfl) (fun h => ?_) (fun h => ?_)
  · replace h := Option.some.inj h; subst h
    exact x_end 4 [] [] onil onil (by kernel_rfl)
  · obtain ⟨v4, hv4, h⟩ := bind_some h
    exact x_to 18 [(4, .val (.cptr (eInt.c v4 ++ (eInt).f ((t1).drop (Int.toNat t7 + 1)))))] (ocons (ix eInt hv4) onil) (hrec0 (w64 (t6 + (w64 (t8 * v4))), w64 (t15 + 1)) r h) (by kernel_rfl)
def Dimpl_weighs_1 (n : Nat) (t1 : List Int) (t5 : Int) (t13 : List Int) (t14 : Int) (rec0 : (Int × Int) → Option Bool) (a : (Int × Int)) : Option Bool :=
  match a with
  | (t6, t15) => frk (decide (t15 < t14)) ((lget t13 t15).bind fun v2 => frk (t5 == 0) (some false) ((Dimpl_sign v2).bind fun v3 => Dimpl_weighs_0 n rec0 t1 t5 t13 t14 t6 t15 v2 t15 (v3 != t5))) (some (decide ((w64 (t6 * t5)) ≤ 0)))
theorem Timpl_weighs_1 (n : Nat) (t1 : List Int) (t5 : Int) (t13 : List Int) (t14 : Int) : ∀ (m : Nat) (a : (Int × Int)) (r : Bool), loopN (Dimpl_weighs_1 n t1 t5 t13 t14) m a = some r → Wk Tryz.prog H YS 99 [.code (cp [1, 1, 1, 0, 1, 0] (bodyOf Tryz.f99)), .blk 0, .code (cp [1, 1, 1, 1] (bodyOf Tryz.f99))] (FinX Tryz.prog Tryz.f99 [] (bl r) []) ⟨[(1, .sl false 1 t1.length ((eInt).f t1)), (5, i64 t5), (6, i64 a.1), (13, .sl false 1 t13.length ((eInt).f t13)), (14, i64 t14), (15, i64 a.2)], []⟩ := by
  refine loopN_ind (fun rec0 hrec0 a r h => ?_)
  obtain ⟨t6, t15⟩ := a
  unfold Dimpl_weighs_1 at h
  refine x_frk 6 [] onil h (by kernel_rfl) (fun h => ?_) (fun h => ?_)
  · obtain ⟨v2, hv2, h⟩ := bind_some h
    refine x_frk 17 [(1, .val (.cptr (eInt.c v2 ++ (eInt).f ((t13).drop (Int.toNat t15 + 1)))))] (ocons (ix eInt hv2) onil) h (by kernel_rfl) (fun h => ?_) (fun h => ?_)
    · replace h := Option.some.inj h; subst h
      exact x_end 11 [] [] onil onil (by kernel_rfl)
    · obtain ⟨v3, hv3, h⟩ := bind_some h
      exact x_to 6 [(1, .call [] [] (i64 v3) [])] (ocons (Timpl_sign v2 _ hv3) onil) (Timpl_weighs_0 n rec0 t1 t5 t13 t14 hrec0 t6 t15 v2 t15 (v3 != t5) r h) (by kernel_rfl)
  · replace h := Option.some.inj h; subst h
    exact x_end 9 [] [] onil onil (by kernel_rfl)
def Dimpl_weighs (n : Nat) (a0 : (List Int)) (a1 : (List Int)) : Option Bool :=
  (lget a0 0).bind fun v0 => (Dimpl_sign v0).bind fun v1 => loopN (Dimpl_weighs_1 n a1 v1 a0 (a0.length : Int)) n (0, 0)
theorem Timpl_weighs (n : Nat) (a0 : (List Int)) (a1 : (List Int)) (r : Bool) (h : Dimpl_weighs n a0 a1 = some r) : Big Tryz.prog H YS (.call 99 [.sl false 1 a0.length ((eInt).f a0), .sl false 1 a1.length ((eInt).f a1)] (lk []) (bl r) (lk [])) := by
  unfold Dimpl_weighs at h
  refine x_call (fn := Tryz.f99) (c := bodyOf Tryz.f99) (bs0 := []) Tryz.func99 (by kernel_rfl) (by kernel_rfl) ?_
  obtain ⟨v0, hv0, h⟩ := bind_some h
  obtain ⟨v1, hv1, h⟩ := bind_some h
  exact x_to 24 [(2, .val (.cptr (eInt.c v0 ++ (eInt).f ((a0).drop (Int.toNat 0 + 1))))), (1, .call [] [] (i64 v1) [])] (ocons (ix eInt hv0) (ocons (Timpl_sign v0 _ hv1) onil)) (Timpl_weighs_1 n a1 v1 a0 (a0.length : Int) n (0, 0) r h) (by kernel_rfl)
/-! impl.clash3 -/
def Dimpl_clash3 (n : Nat) (a0 : Pl) (a1 : Pl) (a2 : Pl) : Option Bool :=
  (Dimpl_normal a0).bind fun v0 => (Dimpl_normal a1).bind fun v1 => (Dimpl_normal a2).bind fun v2 => (Dimpl_det v0 v1 v2).bind fun v3 => frk (v3 != 0) (some false) ((Dimpl_crossOf v0 v1).bind fun v4 => (Dimpl_crossOf v1 v2).bind fun v5 => (Dimpl_dot v5 v4).bind fun v6 => (Dimpl_crossOf v2 v0).bind fun v7 => (Dimpl_dot v7 v4).bind fun v8 => (Dimpl_dot v4 v4).bind fun v9 => (Dimpl_weighs n [v6, v8, v9] [a0.D, a1.D, a2.D]).bind fun v10 => some v10)
theorem Timpl_clash3 (n : Nat) (a0 : Pl) (a1 : Pl) (a2 : Pl) (r : Bool) (h : Dimpl_clash3 n a0 a1 a2 = some r) : Big Tryz.prog H YS (.call 81 [.agg [i64 a0.A, i64 a0.B, i64 a0.C, i64 a0.D], .agg [i64 a1.A, i64 a1.B, i64 a1.C, i64 a1.D], .agg [i64 a2.A, i64 a2.B, i64 a2.C, i64 a2.D]] (lk []) (bl r) (lk [])) := by
  unfold Dimpl_clash3 at h
  refine x_call (fn := Tryz.f81) (c := bodyOf Tryz.f81) (bs0 := []) Tryz.func81 (by kernel_rfl) (by kernel_rfl) ?_
  obtain ⟨v0, hv0, h⟩ := bind_some h
  obtain ⟨v1, hv1, h⟩ := bind_some h
  obtain ⟨v2, hv2, h⟩ := bind_some h
  obtain ⟨v3, hv3, h⟩ := bind_some h
  refine x_frk 31 [(5, .call [] [] (.agg [i64 v0.1, i64 v0.2.1, i64 v0.2.2]) []), (1, .call [] [] (.agg [i64 v1.1, i64 v1.2.1, i64 v1.2.2]) []), (1, .call [] [] (.agg [i64 v2.1, i64 v2.2.1, i64 v2.2.2]) []), (9, .call [] [] (i64 v3) [])] (ocons (Timpl_normal a0 _ hv0) (ocons (Timpl_normal a1 _ hv1) (ocons (Timpl_normal a2 _ hv2) (ocons (Timpl_det v0 v1 v2 _ hv3) onil)))) h (by kernel_rfl) (fun h => ?_) (fun h => ?_)
  · replace h := Option.some.inj h; subst h
    exact x_end 4 [] [] onil onil (by kernel_rfl)
  · obtain ⟨v4, hv4, h⟩ := bind_some h
    obtain ⟨v5, hv5, h⟩ := bind_some h
    obtain ⟨v6, hv6, h⟩ := bind_some h
    obtain ⟨v7, hv7, h⟩ := bind_some h
    obtain ⟨v8, hv8, h⟩ := bind_some h
    obtain ⟨v9, hv9, h⟩ := bind_some h
    obtain ⟨v10, hv10, h⟩ := bind_some h
    replace h := Option.some.inj h; subst h
    exact x_end 35 [(2, .call [] [] (.agg [i64 v4.1, i64 v4.2.1, i64 v4.2.2]) []), (4, .call [] [] (.agg [i64 v5.1, i64 v5.2.1, i64 v5.2.2]) []), (1, .call [] [] (i64 v6) []), (2, .call [] [] (.agg [i64 v7.1, i64 v7.2.1, i64 v7.2.2]) []), (1, .call [] [] (i64 v8) []), (2, .call [] [] (i64 v9) []), (8, .call [] [(eInt).f [a0.D, a1.D, a2.D], (eInt).f [v6, v8, v9]] (bl v10) [])] [] (ocons (Timpl_crossOf v0 v1 _ hv4) (ocons (Timpl_crossOf v1 v2 _ hv5) (ocons (Timpl_dot v5 v4 _ hv6) (ocons (Timpl_crossOf v2 v0 _ hv7) (ocons (Timpl_dot v7 v4 _ hv8) (ocons (Timpl_dot v4 v4 _ hv9) (ocons (Timpl_weighs n [v6, v8, v9] [a0.D, a1.D, a2.D] _ hv10) (ocons (len_row (L := [v6, v8, v9]) eInt) (ocons (Enc.share eInt eInt sInt [v6, v8, v9]) (ocons (len_row (L := [a0.D, a1.D, a2.D]) eInt) (ocons (Enc.share eInt eInt sInt [a0.D, a1.D, a2.D]) onil))))))))))) onil (by kernel_rfl)
/-! impl.det3 -/
def Dimpl_det3 (a0 : Pl) (a1 : Pl) (a2 : Pl) : Option Int :=
  (Dimpl_normal a0).bind fun v0 => (Dimpl_normal a1).bind fun v1 => (Dimpl_normal a2).bind fun v2 => (Dimpl_det v0 v1 v2).bind fun v3 => some v3
theorem Timpl_det3 (a0 : Pl) (a1 : Pl) (a2 : Pl) (r : Int) (h : Dimpl_det3 a0 a1 a2 = some r) : Big Tryz.prog H YS (.call 101 [.agg [i64 a0.A, i64 a0.B, i64 a0.C, i64 a0.D], .agg [i64 a1.A, i64 a1.B, i64 a1.C, i64 a1.D], .agg [i64 a2.A, i64 a2.B, i64 a2.C, i64 a2.D]] (lk []) (i64 r) (lk [])) := by
  unfold Dimpl_det3 at h
  refine x_call (fn := Tryz.f101) (c := bodyOf Tryz.f101) (bs0 := []) Tryz.func101 (by kernel_rfl) (by kernel_rfl) ?_
  obtain ⟨v0, hv0, h⟩ := bind_some h
  obtain ⟨v1, hv1, h⟩ := bind_some h
  obtain ⟨v2, hv2, h⟩ := bind_some h
  obtain ⟨v3, hv3, h⟩ := bind_some h
  replace h := Option.some.inj h; subst h
  exact x_end 18 [(5, .call [] [] (.agg [i64 v0.1, i64 v0.2.1, i64 v0.2.2]) []), (1, .call [] [] (.agg [i64 v1.1, i64 v1.2.1, i64 v1.2.2]) []), (1, .call [] [] (.agg [i64 v2.1, i64 v2.2.1, i64 v2.2.2]) []), (0, .call [] [] (i64 v3) [])] [] (ocons (Timpl_normal a0 _ hv0) (ocons (Timpl_normal a1 _ hv1) (ocons (Timpl_normal a2 _ hv2) (ocons (Timpl_det v0 v1 v2 _ hv3) onil)))) onil (by kernel_rfl)
/-! impl.clash4 -/
def Dimpl_clash4 (n : Nat) (a0 : Pl) (a1 : Pl) (a2 : Pl) (a3 : Pl) : Option Bool :=
  (Dimpl_det3 a1 a2 a3).bind fun v0 => (Dimpl_det3 a0 a2 a3).bind fun v1 => (Dimpl_det3 a0 a1 a3).bind fun v2 => (Dimpl_det3 a0 a1 a2).bind fun v3 => (Dimpl_weighs n [v0, w64 (0 - v1), v2, w64 (0 - v3)] [a0.D, a1.D, a2.D, a3.D]).bind fun v4 => some v4
theorem Timpl_clash4 (n : Nat) (a0 : Pl) (a1 : Pl) (a2 : Pl) (a3 : Pl) (r : Bool) (h : Dimpl_clash4 n a0 a1 a2 a3 = some r) : Big Tryz.prog H YS (.call 82 [.agg [i64 a0.A, i64 a0.B, i64 a0.C, i64 a0.D], .agg [i64 a1.A, i64 a1.B, i64 a1.C, i64 a1.D], .agg [i64 a2.A, i64 a2.B, i64 a2.C, i64 a2.D], .agg [i64 a3.A, i64 a3.B, i64 a3.C, i64 a3.D]] (lk []) (bl r) (lk [])) := by
  unfold Dimpl_clash4 at h
  refine x_call (fn := Tryz.f82) (c := bodyOf Tryz.f82) (bs0 := []) Tryz.func82 (by kernel_rfl) (by kernel_rfl) ?_
  obtain ⟨v0, hv0, h⟩ := bind_some h
  obtain ⟨v1, hv1, h⟩ := bind_some h
  obtain ⟨v2, hv2, h⟩ := bind_some h
  obtain ⟨v3, hv3, h⟩ := bind_some h
  obtain ⟨v4, hv4, h⟩ := bind_some h
  replace h := Option.some.inj h; subst h
  exact x_end 46 [(8, .call [] [] (i64 v0) []), (3, .call [] [] (i64 v1) []), (4, .call [] [] (i64 v2) []), (3, .call [] [] (i64 v3) []), (13, .call [] [(eInt).f [a0.D, a1.D, a2.D, a3.D], (eInt).f [v0, w64 (0 - v1), v2, w64 (0 - v3)]] (bl v4) [])] [] (ocons (Timpl_det3 a1 a2 a3 _ hv0) (ocons (Timpl_det3 a0 a2 a3 _ hv1) (ocons (Timpl_det3 a0 a1 a3 _ hv2) (ocons (Timpl_det3 a0 a1 a2 _ hv3) (ocons (Timpl_weighs n [v0, w64 (0 - v1), v2, w64 (0 - v3)] [a0.D, a1.D, a2.D, a3.D] _ hv4) (ocons (len_row (L := [v0, w64 (0 - v1), v2, w64 (0 - v3)]) eInt) (ocons (Enc.share eInt eInt sInt [v0, w64 (0 - v1), v2, w64 (0 - v3)]) (ocons (len_row (L := [a0.D, a1.D, a2.D, a3.D]) eInt) (ocons (Enc.share eInt eInt sInt [a0.D, a1.D, a2.D, a3.D]) onil))))))))) onil (by kernel_rfl)
/-! impl.room -/
def Dimpl_room_0 (n : Nat) (rec1 : Int → Option Bool) (_rec0 : Int → Option Bool) (_t13 : Int) (_t23 : List Pl) (_t24 b6_0 b6_1 b6_2 b6_3 : Int) (_t0 : List Pl) (_t11 : List Pl) (_t12 b3_0 b3_1 b3_2 b3_3 t25 : Int) (t36 : List Pl) (t37 b8_0 b8_1 b8_2 b8_3 : Int) (rec2 : Int → Option Bool) (a : Int) : Option Bool :=
  match a with
  | t38 => frk (decide (t38 < t37)) ((lget t36 t38).bind fun v6 => (Dimpl_clash4 n v6 (Pl.mk b8_0 b8_1 b8_2 b8_3) (Pl.mk b6_0 b6_1 b6_2 b6_3) (Pl.mk b3_0 b3_1 b3_2 b3_3)).bind fun v7 => frk v7 (some false) (rec2 (w64 (t38 + 1)))) (rec1 (w64 (t25 + 1)))
theorem Timpl_room_0 (n : Nat) (rec1 : Int → Option Bool) (rec0 : Int → Option Bool) (t13 : Int) (t23 : List Pl) (t24 b6_0 b6_1 b6_2 b6_3 : Int) (t0 : List Pl) (t11 : List Pl) (t12 b3_0 b3_1 b3_2 b3_3 : Int) (hrec1 : ∀ (a : Int) (r : Bool), rec1 a = some r → Wk Tryz.prog H YS 62 [.code (cp [1, 0, 1, 0, 0, 1, 1, 0, 0, 1, 1, 1, 0] (bodyOf Tryz.f62)), .blk 2, .blk 1, .code (cp [1, 0, 1, 0, 0, 1, 1, 1] (bodyOf Tryz.f62)), .lp (cp [1, 0, 1, 0] (bodyOf Tryz.f62)), .blk 0, .code (cp [1, 1] (bodyOf Tryz.f62))] (FinX Tryz.prog Tryz.f62 [] (bl r) []) ⟨[(0, .sl false 4 t0.length ((ePl).f t0)), (3, .ptr 3 0), (6, .ptr 6 0), (11, .sl false 4 t11.length ((ePl).f t11)), (12, i64 t12), (13, i64 t13), (23, .sl false 4 t23.length ((ePl).f t23)), (24, i64 t24), (25, i64 a)], [(3, ⟨true, 0, [i64 b3_0, i64 b3_1, i64 b3_2, i64 b3_3]⟩), (6, ⟨true, 0, [i64 b6_0, i64 b6_1, i64 b6_2, i64 b6_3]⟩)]⟩) (_hrec0 : ∀ (a : Int) (r : Bool), rec0 a = some r → Wk Tryz.prog H YS 62 [.code (cp [1, 0, 1, 0] (bodyOf Tryz.f62)), .blk 0, .code (cp [1, 1] (bodyOf Tryz.f62))] (FinX Tryz.prog Tryz.f62 [] (bl r) []) ⟨[(0, .sl false 4 t0.length ((ePl).f t0)), (3, .ptr 3 0), (11, .sl false 4 t11.length ((ePl).f t11)), (12, i64 t12), (13, i64 a)], [(3, ⟨true, 0, [i64 b3_0, i64 b3_1, i64 b3_2, i64 b3_3]⟩)]⟩) (t25 : Int) (t36 : List Pl) (t37 b8_0 b8_1 b8_2 b8_3 : Int) : ∀ (m : Nat) (a : Int) (r : Bool), loopN (Dimpl_room_0 n rec1 rec0 t13 t23 t24 b6_0 b6_1 b6_2 b6_3 t0 t11 t12 b3_0 b3_1 b3_2 b3_3 t25 t36 t37 b8_0 b8_1 b8_2 b8_3) m a = some r → Wk Tryz.prog H YS 62 [.code (cp [1, 0, 1, 0, 0, 1, 1, 0, 0, 1, 1, 1, 0, 0, 1, 1, 0, 0, 1, 1, 1, 0] (bodyOf Tryz.f62)), .blk 4, .blk 3, .code (cp [1, 0, 1, 0, 0, 1, 1, 0, 0, 1, 1, 1, 0, 0, 1, 1, 1] (bodyOf Tryz.f62)), .lp (cp [1, 0, 1, 0, 0, 1, 1, 0, 0, 1, 1, 1, 0] (bodyOf Tryz.f62)), .blk 2, .blk 1, .code (cp [1, 0, 1, 0, 0, 1, 1, 1] (bodyOf Tryz.f62)), .lp (cp [1, 0, 1, 0] (bodyOf Tryz.f62)), .blk 0, .code (cp [1, 1] (bodyOf Tryz.f62))] (FinX Tryz.prog Tryz.f62 [] (bl r) []) ⟨[(0, .sl false 4 t0.length ((ePl).f t0)), (3, .ptr 3 0), (6, .ptr 6 0), (8, .ptr 8 0), (11, .sl false 4 t11.length ((ePl).f t11)), (12, i64 t12), (13, i64 t13), (23, .sl false 4 t23.length ((ePl).f t23)), (24, i64 t24), (25, i64 t25), (36, .sl false 4 t36.length ((ePl).f t36)), (37, i64 t37), (38, i64 a)], [(3, ⟨true, 0, [i64 b3_0, i64 b3_1, i64 b3_2, i64 b3_3]⟩), (6, ⟨true, 0, [i64 b6_0, i64 b6_1, i64 b6_2, i64 b6_3]⟩), (8, ⟨true, 0, [i64 b8_0, i64 b8_1, i64 b8_2, i64 b8_3]⟩)]⟩ := by
  refine loopN_ind (fun _rec2 hrec2 a r h => ?_)
  obtain ⟨t38, rfl⟩ : ∃ x, x = a := ⟨a, rfl⟩
  unfold Dimpl_room_0 at h
  refine x_frk 6 [] onil h (by kernel_rfl) (fun h => ?_) (fun h => ?_)
  · obtain ⟨v6, hv6, h⟩ := bind_some h
    obtain ⟨v7, hv7, h⟩ := bind_some h
    refine x_frk 18 [(0, .val (.cptr (ePl.c v6 ++ (ePl).f ((t36).drop (Int.toNat t38 + 1))))), (7, .call [] [] (bl v7) [])] (ocons (ix ePl hv6) (ocons (Timpl_clash4 n v6 (Pl.mk b8_0 b8_1 b8_2 b8_3) (Pl.mk b6_0 b6_1 b6_2 b6_3) (Pl.mk b3_0 b3_1 b3_2 b3_3) _ hv7) onil)) h (by kernel_rfl) (fun h => ?_) (fun h => ?_)
    · replace h := Option.some.inj h; subst h
      exact x_end 4 [] [] onil onil (by kernel_rfl)
    · exact x_to 7 [] onil (hrec2 (w64 (t38 + 1)) r h) (by kernel_rfl)
  · exact x_to 7 [] onil (hrec1 (w64 (t25 + 1)) r h) (by kernel_rfl)
def Dimpl_room_1 (n : Nat) (rec0 : Int → Option Bool) (t0 : List Pl) (t11 : List Pl) (t12 b3_0 b3_1 b3_2 b3_3 t13 : Int) (t23 : List Pl) (t24 b6_0 b6_1 b6_2 b6_3 : Int) (rec1 : Int → Option Bool) (a : Int) : Option Bool :=
  match a with
  | t25 => frk (decide (t25 < t24)) ((lget t23 t25).bind fun v3 => (Dimpl_clash3 n v3 (Pl.mk b6_0 b6_1 b6_2 b6_3) (Pl.mk b3_0 b3_1 b3_2 b3_3)).bind fun v4 => frk v4 (some false) ((lsl t0 0 t25).bind fun v5 => loopN (Dimpl_room_0 n rec1 rec0 t13 t23 t24 b6_0 b6_1 b6_2 b6_3 t0 t11 t12 b3_0 b3_1 b3_2 b3_3 t25 v5 (v5.length : Int) v3.A v3.B v3.C v3.D) n 0)) (rec0 (w64 (t13 + 1)))
theorem Timpl_room_1 (n : Nat) (rec0 : Int → Option Bool) (t0 : List Pl) (t11 : List Pl) (t12 b3_0 b3_1 b3_2 b3_3 : Int) (hrec0 : ∀ (a : Int) (r : Bool), rec0 a = some r → Wk Tryz.prog H YS 62 [.code (cp [1, 0, 1, 0] (bodyOf Tryz.f62)), .blk 0, .code (cp [1, 1] (bodyOf Tryz.f62))] (FinX Tryz.prog Tryz.f62 [] (bl r) []) ⟨[(0, .sl false 4 t0.length ((ePl).f t0)), (3, .ptr 3 0), (11, .sl false 4 t11.length ((ePl).f t11)), (12, i64 t12), (13, i64 a)], [(3, ⟨true, 0, [i64 b3_0, i64 b3_1, i64 b3_2, i64 b3_3]⟩)]⟩) (t13 : Int) (t23 : List Pl) (t24 b6_0 b6_1 b6_2 b6_3 : Int) : ∀ (m : Nat) (a : Int) (r : Bool), loopN (Dimpl_room_1 n rec0 t0 t11 t12 b3_0 b3_1 b3_2 b3_3 t13 t23 t24 b6_0 b6_1 b6_2 b6_3) m a = some r → Wk Tryz.prog H YS 62 [.code (cp [1, 0, 1, 0, 0, 1, 1, 0, 0, 1, 1, 1, 0] (bodyOf Tryz.f62)), .blk 2, .blk 1, .code (cp [1, 0, 1, 0, 0, 1, 1, 1] (bodyOf Tryz.f62)), .lp (cp [1, 0, 1, 0] (bodyOf Tryz.f62)), .blk 0, .code (cp [1, 1] (bodyOf Tryz.f62))] (FinX Tryz.prog Tryz.f62 [] (bl r) []) ⟨[(0, .sl false 4 t0.length ((ePl).f t0)), (3, .ptr 3 0), (6, .ptr 6 0), (11, .sl false 4 t11.length ((ePl).f t11)), (12, i64 t12), (13, i64 t13), (23, .sl false 4 t23.length ((ePl).f t23)), (24, i64 t24), (25, i64 a)], [(3, ⟨true, 0, [i64 b3_0, i64 b3_1, i64 b3_2, i64 b3_3]⟩), (6, ⟨true, 0, [i64 b6_0, i64 b6_1, i64 b6_2, i64 b6_3]⟩)]⟩ := by
  refine loopN_ind (fun rec1 hrec1 a r h => ?_)
  obtain ⟨t25, rfl⟩ : ∃ x, x = a := ⟨a, rfl⟩
  unfold Dimpl_room_1 at h
  refine x_frk 6 [] onil h (by kernel_rfl) (fun h => ?_) (fun h => ?_)
  · obtain ⟨v3, hv3, h⟩ := bind_some h
    obtain ⟨v4, hv4, h⟩ := bind_some h
    refine x_frk 20 [(1, .val (.cptr (ePl.c v3 ++ (ePl).f ((t23).drop (Int.toNat t25 + 1))))), (7, .call [] [] (bl v4) [])] (ocons (ix ePl hv3) (ocons (Timpl_clash3 n v3 (Pl.mk b6_0 b6_1 b6_2 b6_3) (Pl.mk b3_0 b3_1 b3_2 b3_3) _ hv4) onil)) h (by kernel_rfl) (fun h => ?_) (fun h => ?_)
    · replace h := Option.some.inj h; subst h
      exact x_end 4 [] [] onil onil (by kernel_rfl)
    · obtain ⟨v5, hv5, h⟩ := bind_some h
      exact x_to 10 [(2, .val (.sl false 4 v5.length ((ePl).f v5)))] (ocons (slF ePl hv5) onil) (Timpl_room_0 n rec1 rec0 t13 t23 t24 b6_0 b6_1 b6_2 b6_3 t0 t11 t12 b3_0 b3_1 b3_2 b3_3 hrec1 hrec0 t25 v5 (v5.length : Int) v3.A v3.B v3.C v3.D n 0 r h) (by kernel_rfl)
  · exact x_to 7 [] onil (hrec0 (w64 (t13 + 1)) r h) (by kernel_rfl)
def Dimpl_room_2 (n : Nat) (t0 : List Pl) (t11 : List Pl) (t12 b3_0 b3_1 b3_2 b3_3 : Int) (rec0 : Int → Option Bool) (a : Int) : Option Bool :=
  match a with
  | t13 => frk (decide (t13 < t12)) ((lget t11 t13).bind fun v0 => (Dimpl_clash2 n v0 (Pl.mk b3_0 b3_1 b3_2 b3_3)).bind fun v1 => frk v1 (some false) ((lsl t0 0 t13).bind fun v2 => loopN (Dimpl_room_1 n rec0 t0 t11 t12 b3_0 b3_1 b3_2 b3_3 t13 v2 (v2.length : Int) v0.A v0.B v0.C v0.D) n 0)) (some true)
theorem Timpl_room_2 (n : Nat) (t0 : List Pl) (t11 : List Pl) (t12 b3_0 b3_1 b3_2 b3_3 : Int) : ∀ (m : Nat) (a : Int) (r : Bool), loopN (Dimpl_room_2 n t0 t11 t12 b3_0 b3_1 b3_2 b3_3) m a = some r → Wk Tryz.prog H YS 62 [.code (cp [1, 0, 1, 0] (bodyOf Tryz.f62)), .blk 0, .code (cp [1, 1] (bodyOf Tryz.f62))] (FinX Tryz.prog Tryz.f62 [] (bl r) []) ⟨[(0, .sl false 4 t0.length ((ePl).f t0)), (3, .ptr 3 0), (11, .sl false 4 t11.length ((ePl).f t11)), (12, i64 t12), (13, i64 a)], [(3, ⟨true, 0, [i64 b3_0, i64 b3_1, i64 b3_2, i64 b3_3]⟩)]⟩ := by
  refine loopN_ind (fun rec0 hrec0 a r h => ?_)
  obtain ⟨t13, rfl⟩ : ∃ x, x = a := ⟨a, rfl⟩
  unfold Dimpl_room_2 at h
  refine x_frk 6 [] onil h (by kernel_rfl) (fun h => ?_) (fun h => ?_)
  · obtain ⟨v0, hv0, h⟩ := bind_some h
    obtain ⟨v1, hv1, h⟩ := bind_some h
    refine x_frk 19 [(1, .val (.cptr (ePl.c v0 ++ (ePl).f ((t11).drop (Int.toNat t13 + 1))))), (6, .call [] [] (bl v1) [])] (ocons (ix ePl hv0) (ocons (Timpl_clash2 n v0 (Pl.mk b3_0 b3_1 b3_2 b3_3) _ hv1) onil)) h (by kernel_rfl) (fun h => ?_) (fun h => ?_)
    · replace h := Option.some.inj h; subst h
      exact x_end 4 [] [] onil onil (by kernel_rfl)
    · obtain ⟨v2, hv2, h⟩ := bind_some h
      exact x_to 10 [(2, .val (.sl false 4 v2.length ((ePl).f v2)))] (ocons (slF ePl hv2) onil) (Timpl_room_1 n rec0 t0 t11 t12 b3_0 b3_1 b3_2 b3_3 hrec0 t13 v2 (v2.length : Int) v0.A v0.B v0.C v0.D n 0 r h) (by kernel_rfl)
  · replace h := Option.some.inj h; subst h
    exact x_end 5 [] [] onil onil (by kernel_rfl)
def Dimpl_room (n : Nat) (a0 : (List Pl)) (a1 : Pl) : Option Bool :=
  loopN (Dimpl_room_2 n a0 a0 (a0.length : Int) a1.A a1.B a1.C a1.D) n 0
theorem Timpl_room (n : Nat) (a0 : (List Pl)) (a1 : Pl) (r : Bool) (h : Dimpl_room n a0 a1 = some r) : Big Tryz.prog H YS (.call 62 [.sl false 4 a0.length ((ePl).f a0), .agg [i64 a1.A, i64 a1.B, i64 a1.C, i64 a1.D]] (lk []) (bl r) (lk [])) := by
  unfold Dimpl_room at h
  refine x_call (fn := Tryz.f62) (c := bodyOf Tryz.f62) (bs0 := []) Tryz.func62 (by kernel_rfl) (by kernel_rfl) ?_
  exact x_to 13 [] onil (Timpl_room_2 n a0 a0 (a0.length : Int) a1.A a1.B a1.C a1.D n 0 r h) (by kernel_rfl)
/-! impl.with -/
def Dimpl_with (a0 : (List Pl)) (a1 : Pl) : Option (List Pl) :=
  chk (apB 32 (0 + a0.length)) (chk (apB 32 (([] ++ a0).length + 1)) (some (([] ++ a0) ++ [a1])))
theorem Timpl_with (a0 : (List Pl)) (a1 : Pl) (r : (List Pl)) (h : Dimpl_with a0 a1 = some r) : Big Tryz.prog H YS (.call 47 [.sl false 4 a0.length ((ePl).f a0), .agg [i64 a1.A, i64 a1.B, i64 a1.C, i64 a1.D]] (lk []) (.sl true 4 r.length ((ePl).f r)) (lk [])) := by
  unfold Dimpl_with at h
  refine x_call (fn := Tryz.f47) (c := bodyOf Tryz.f47) (bs0 := []) Tryz.func47 (by kernel_rfl) (by kernel_rfl) ?_
  obtain ⟨c0, h⟩ := chk_some h
  obtain ⟨c1, h⟩ := chk_some h
  replace h := Option.some.inj h; subst h
  exact x_end 15 [(4, .app false (List.length ([] ++ a0)) ((ePl).f ([] ++ a0))), (2, .app false (List.length (([] ++ a0) ++ [a1])) ((ePl).f (([] ++ a0) ++ [a1])))] [] (ocons (len_row' (L := []) ePl) (ocons (app_one (L := []) (M := a0) ePl c0) (ocons (app_new (L := []) (M := a0) ePl) (ocons (app_m (L := []) (M := a0) ePl rfl) (ocons (len_row' (L := a0) ePl) (ocons (len_row' (L := ([] ++ a0)) ePl) (ocons (app_one (L := ([] ++ a0)) (M := [a1]) ePl c1) (ocons (app_new (L := ([] ++ a0)) (M := [a1]) ePl) (ocons (app_m (L := ([] ++ a0)) (M := [a1]) ePl rfl) (ocons (len_row' (L := [a1]) ePl) (ocons (Enc.noOwn ePl (fun _ => rfl) [a1]) onil))))))))))) (ocons (len_row (L := (([] ++ a0) ++ [a1])) ePl) onil) (by kernel_rfl)
/-! impl.checker).right -/
def Dimpl_checker_right_1 (_n : Nat) (self : (Int × Sol × (List Pl)) → Option (Bool × Int)) (t2 : List Pl) (t59 _b4_0 : Bool) (b4_1 b4_2 b4_3 b4_4 : Int) (b4_5 : List Sol) (b7_0 b7_1 b7_2 b7_3 b1000_0 : Int) : Option (Bool × Int) :=
  frk t59 (some (false, b1000_0)) ((lget b4_5 0).bind fun v5 => (Dimpl_with t2 (Pl.mk b4_1 b4_2 b4_3 b4_4)).bind fun v6 => (self (b1000_0, v5, v6)).bind fun v7 => frk v7.1 ((lget b4_5 1).bind fun v8 => (Dimpl_with t2 (Pl.mk b7_0 b7_1 b7_2 b7_3)).bind fun v9 => (self (v7.2, v8, v9)).bind fun v10 => some v10) (some (false, v7.2)))
theorem Timpl_checker_right_1 (n : Nat) (self : (Int × Sol × (List Pl)) → Option (Bool × Int)) (hself : ∀ (a : (Int × Sol × (List Pl))) (r : (Bool × Int)), self a = some r → Big Tryz.prog H YS (.call 39 [.ptr 1000 0, .agg [bl a.2.1.inn, i64 a.2.1.pl.A, i64 a.2.1.pl.B, i64 a.2.1.pl.C, i64 a.2.1.pl.D, .sl false 6 a.2.1.kids.length ((eSol false).f a.2.1.kids)], .sl false 4 a.2.2.length ((ePl).f a.2.2)] (lk [(1000, ⟨true, 0, [i64 a.1]⟩)]) (bl r.1) (lk [(1000, ⟨true, 0, [i64 r.2]⟩)]))) (t2 : List Pl) (t59 b4_0 : Bool) (b4_1 b4_2 b4_3 b4_4 : Int) (b4_5 : List Sol) (b7_0 b7_1 b7_2 b7_3 b1000_0 : Int) (r : (Bool × Int)) (h : Dimpl_checker_right_1 n self t2 t59 b4_0 b4_1 b4_2 b4_3 b4_4 b4_5 b7_0 b7_1 b7_2 b7_3 b1000_0 = some r) : Wk Tryz.prog H YS 39 [.code (cp [1, 1, 1, 1, 1, 0, 1] (bodyOf Tryz.f39)), .code (cp [1, 1, 1, 1, 1, 1] (bodyOf Tryz.f39))] (FinX Tryz.prog Tryz.f39 [(1000, ⟨true, 0, [.bad]⟩)] (bl r.1) [(1000, ⟨true, 0, [i64 r.2]⟩)]) ⟨[(0, .ptr 1000 0), (2, .sl false 4 t2.length ((ePl).f t2)), (4, .ptr 4 0), (7, .ptr 7 0), (59, bl t59)], [(4, ⟨true, 0, [bl b4_0, i64 b4_1, i64 b4_2, i64 b4_3, i64 b4_4, .sl false 6 b4_5.length ((eSol false).f b4_5)]⟩), (7, ⟨true, 0, [i64 b7_0, i64 b7_1, i64 b7_2, i64 b7_3]⟩), (1000, ⟨true, 0, [i64 b1000_0]⟩)]⟩ := by
  unfold Dimpl_checker_right_1 at h
  refine x_frk 0 [] onil h (by kernel_rfl) (fun h => ?_) (fun h => ?_)
  · replace h := Option.some.inj h; subst h
    exact x_end 4 [] [] onil onil (by kernel_rfl)
  · obtain ⟨v5, hv5, h⟩ := bind_some h
    obtain ⟨v6, hv6, h⟩ := bind_some h
    obtain ⟨v7, hv7, h⟩ := bind_some h
    refine x_frk 14 [(3, .val (.cptr ((eSol false).c v5 ++ (eSol false).f ((b4_5).drop (Int.toNat 0 + 1))))), (4, .call [] [] (.sl false 4 v6.length ((ePl).f v6)) []), (0, .call [] [] (bl v7.1) [(1000, ⟨true, 0, [i64 v7.2]⟩)])] (ocons (ix (eSol false) hv5) (ocons (shSl (L := v6) ePl ePl sPl (Timpl_with t2 (Pl.mk b4_1 b4_2 b4_3 b4_4) _ hv6)) (ocons (hself (b1000_0, v5, v6) _ hv7) onil))) h (by kernel_rfl) (fun h => ?_) (fun h => ?_)
    · obtain ⟨v8, hv8, h⟩ := bind_some h
      obtain ⟨v9, hv9, h⟩ := bind_some h
      obtain ⟨v10, hv10, h⟩ := bind_some h
      replace h := Option.some.inj h; subst h
      exact x_end 12 [(3, .val (.cptr ((eSol false).c v8 ++ (eSol false).f ((b4_5).drop (Int.toNat 1 + 1))))), (3, .call [] [] (.sl false 4 v9.length ((ePl).f v9)) []), (0, .call [] [] (bl v10.1) [(1000, ⟨true, 0, [i64 v10.2]⟩)])] [] (ocons (ix (eSol false) hv8) (ocons (shSl (L := v9) ePl ePl sPl (Timpl_with t2 (Pl.mk b7_0 b7_1 b7_2 b7_3) _ hv9)) (ocons (hself (v7.2, v8, v9) _ hv10) onil))) onil (by kernel_rfl)
    · replace h := Option.some.inj h; subst h
      exact x_end 12 [] [] onil onil (by kernel_rfl)
def Dimpl_checker_right_0 (n : Nat) (self : (Int × Sol × (List Pl)) → Option (Bool × Int)) (t2 : List Pl) (t45 b4_0 : Bool) (b4_1 b4_2 b4_3 b4_4 : Int) (b4_5 : List Sol) (b1000_0 : Int) : Option (Bool × Int) :=
  frk t45 (some (false, b1000_0)) ((Dimpl_flip (Pl.mk b4_1 b4_2 b4_3 b4_4)).bind fun v2 => (Dimpl_room n t2 (Pl.mk b4_1 b4_2 b4_3 b4_4)).bind fun v3 => frk (!v3) (some (false, b1000_0)) ((Dimpl_room n t2 v2).bind fun v4 => Dimpl_checker_right_1 n self t2 (!v4) b4_0 b4_1 b4_2 b4_3 b4_4 b4_5 v2.A v2.B v2.C v2.D b1000_0))
theorem Timpl_checker_right_0 (n : Nat) (self : (Int × Sol × (List Pl)) → Option (Bool × Int)) (hself : ∀ (a : (Int × Sol × (List Pl))) (r : (Bool × Int)), self a = some r → Big Tryz.prog H YS (.call 39 [.ptr 1000 0, .agg [bl a.2.1.inn, i64 a.2.1.pl.A, i64 a.2.1.pl.B, i64 a.2.1.pl.C, i64 a.2.1.pl.D, .sl false 6 a.2.1.kids.length ((eSol false).f a.2.1.kids)], .sl false 4 a.2.2.length ((ePl).f a.2.2)] (lk [(1000, ⟨true, 0, [i64 a.1]⟩)]) (bl r.1) (lk [(1000, ⟨true, 0, [i64 r.2]⟩)]))) (t2 : List Pl) (t45 b4_0 : Bool) (b4_1 b4_2 b4_3 b4_4 : Int) (b4_5 : List Sol) (b1000_0 : Int) (r : (Bool × Int)) (h : Dimpl_checker_right_0 n self t2 t45 b4_0 b4_1 b4_2 b4_3 b4_4 b4_5 b1000_0 = some r) : Wk Tryz.prog H YS 39 [.code (cp [1, 1, 1, 0, 1] (bodyOf Tryz.f39)), .code (cp [1, 1, 1, 1] (bodyOf Tryz.f39))] (FinX Tryz.prog Tryz.f39 [(1000, ⟨true, 0, [.bad]⟩)] (bl r.1) [(1000, ⟨true, 0, [i64 r.2]⟩)]) ⟨[(0, .ptr 1000 0), (2, .sl false 4 t2.length ((ePl).f t2)), (4, .ptr 4 0), (45, bl t45)], [(4, ⟨true, 0, [bl b4_0, i64 b4_1, i64 b4_2, i64 b4_3, i64 b4_4, .sl false 6 b4_5.length ((eSol false).f b4_5)]⟩), (1000, ⟨true, 0, [i64 b1000_0]⟩)]⟩ := by
  unfold Dimpl_checker_right_0 at h
  refine x_frk 0 [] onil h (by kernel_rfl) (fun h => ?_) (fun h => ?_)
  · replace h := Option.some.inj h; subst h
    exact x_end 4 [] [] onil onil (by kernel_rfl)
  · obtain ⟨v2, hv2, h⟩ := bind_some h
    obtain ⟨v3, hv3, h⟩ := bind_some h
    refine x_frk 18 [(2, .call [] [] (.agg [i64 v2.A, i64 v2.B, i64 v2.C, i64 v2.D]) []), (5, .call [] [] (bl v3) [])] (ocons (Timpl_flip (Pl.mk b4_1 b4_2 b4_3 b4_4) _ hv2) (ocons (Timpl_room n t2 (Pl.mk b4_1 b4_2 b4_3 b4_4) _ hv3) onil)) h (by kernel_rfl) (fun h => ?_) (fun h => ?_)
    · replace h := Option.some.inj h; subst h
      exact x_end 11 [] [] onil onil (by kernel_rfl)
    · obtain ⟨v4, hv4, h⟩ := bind_some h
      exact x_to 6 [(2, .call [] [] (bl v4) [])] (ocons (Timpl_room n t2 v2 _ hv4) onil) (Timpl_checker_right_1 n self hself t2 (!v4) b4_0 b4_1 b4_2 b4_3 b4_4 b4_5 v2.A v2.B v2.C v2.D b1000_0 r h) (by kernel_rfl)
def Dimpl_checker_right_b (n : Nat) (self : (Int × Sol × (List Pl)) → Option (Bool × Int)) (a : (Int × Sol × (List Pl))) : Option (Bool × Int) :=
  match a with
  | (a0, a1, a2) => (Dimpl_Solid_isLeaf a1).bind fun v0 => frk v0 (some ((a1.pl.A == 0 && (a1.pl.B == 0 && (a1.pl.C == 0 && (a1.pl.D == 0 && true)))), a0)) (frk a1.inn (some (false, w64 (a0 + 1))) (frk ((a1.kids.length : Int) != 2) (some (false, w64 (a0 + 1))) (frk (decide ((w64 (a0 + 1)) > 300)) (some (false, w64 (a0 + 1))) (frk (decide ((a2.length : Int) ≥ 24)) (some (false, w64 (a0 + 1))) ((Dimpl_PlaneOk n a1.pl).bind fun v1 => Dimpl_checker_right_0 n self a2 (!v1) a1.inn a1.pl.A a1.pl.B a1.pl.C a1.pl.D a1.kids (w64 (a0 + 1)))))))
def Dimpl_checker_right (n : Nat) (a0 : Int) (a1 : Sol) (a2 : (List Pl)) : Option (Bool × Int) := loopN (Dimpl_checker_right_b n) n (a0, a1, a2)
theorem Timpl_checker_right_b (n : Nat) : ∀ (m : Nat) (a : (Int × Sol × (List Pl))) (r : (Bool × Int)), loopN (Dimpl_checker_right_b n) m a = some r → ∀ (_ : Unit), Big Tryz.prog H YS (.call 39 [.ptr 1000 0, .agg [bl a.2.1.inn, i64 a.2.1.pl.A, i64 a.2.1.pl.B, i64 a.2.1.pl.C, i64 a.2.1.pl.D, .sl false 6 a.2.1.kids.length ((eSol false).f a.2.1.kids)], .sl false 4 a.2.2.length ((ePl).f a.2.2)] (lk [(1000, ⟨true, 0, [i64 a.1]⟩)]) (bl r.1) (lk [(1000, ⟨true, 0, [i64 r.2]⟩)])) := by
  refine loopN_ind (fun self hs a r h => ?_)
  have hself : ∀ (a : (Int × Sol × (List Pl))) (r : (Bool × Int)), self a = some r → Big Tryz.prog H YS (.call 39 [.ptr 1000 0, .agg [bl a.2.1.inn, i64 a.2.1.pl.A, i64 a.2.1.pl.B, i64 a.2.1.pl.C, i64 a.2.1.pl.D, .sl false 6 a.2.1.kids.length ((eSol false).f a.2.1.kids)], .sl false 4 a.2.2.length ((ePl).f a.2.2)] (lk [(1000, ⟨true, 0, [i64 a.1]⟩)]) (bl r.1) (lk [(1000, ⟨true, 0, [i64 r.2]⟩)])) := fun a r h => hs a r h ()
  intro _
  obtain ⟨a0, a1, a2⟩ := a
  unfold Dimpl_checker_right_b at h
  refine x_call (fn := Tryz.f39) (c := bodyOf Tryz.f39) (bs0 := [(1000, ⟨true, 0, [.bad]⟩)]) Tryz.func39 (by kernel_rfl) (by kernel_rfl) ?_
  obtain ⟨v0, hv0, h⟩ := bind_some h
  refine x_frk 10 [(2, .call [] [] (bl v0) [])] (ocons (Timpl_Solid_isLeaf a1 [] _ hv0) onil) h (by kernel_rfl) (fun h => ?_) (fun h => ?_)
  · replace h := Option.some.inj h; subst h
    exact x_end 8 [] [] onil onil (by kernel_rfl)
  · refine x_frk 18 [] onil h (by kernel_rfl) (fun h => ?_) (fun h => ?_)
    · replace h := Option.some.inj h; subst h
      exact x_end 29 [] [] onil onil (by kernel_rfl)
    · refine x_frk 6 [] onil h (by kernel_rfl) (fun h => ?_) (fun h => ?_)
      · replace h := Option.some.inj h; subst h
        exact x_end 23 [] [] onil onil (by kernel_rfl)
      · refine x_frk 7 [] onil h (by kernel_rfl) (fun h => ?_) (fun h => ?_)
        · replace h := Option.some.inj h; subst h
          exact x_end 16 [] [] onil onil (by kernel_rfl)
        · refine x_frk 5 [] onil h (by kernel_rfl) (fun h => ?_) (fun h => ?_)
          · replace h := Option.some.inj h; subst h
            exact x_end 11 [] [] onil onil (by kernel_rfl)
          · obtain ⟨v1, hv1, h⟩ := bind_some h
            exact x_to 6 [(2, .call [] [] (bl v1) [])] (ocons (Timpl_PlaneOk n a1.pl _ hv1) onil) (Timpl_checker_right_0 n self hself a2 (!v1) a1.inn a1.pl.A a1.pl.B a1.pl.C a1.pl.D a1.kids (w64 (a0 + 1)) r h) (by kernel_rfl)
theorem Timpl_checker_right (n : Nat) (a0 : Int) (a1 : Sol) (a2 : (List Pl)) (r : (Bool × Int)) (h : Dimpl_checker_right n a0 a1 a2 = some r) : Big Tryz.prog H YS (.call 39 [.ptr 1000 0, .agg [bl a1.inn, i64 a1.pl.A, i64 a1.pl.B, i64 a1.pl.C, i64 a1.pl.D, .sl false 6 a1.kids.length ((eSol false).f a1.kids)], .sl false 4 a2.length ((ePl).f a2)] (lk [(1000, ⟨true, 0, [i64 a0]⟩)]) (bl r.1) (lk [(1000, ⟨true, 0, [i64 r.2]⟩)])) := Timpl_checker_right_b n n (a0, a1, a2) r h ()
/-! impl.SolidOk -/
def Dimpl_SolidOk (n : Nat) (a0 : Sol) : Option Bool :=
  (Dimpl_checker_right n 0 a0 []).bind fun v0 => some v0.1
theorem Timpl_SolidOk (n : Nat) (a0 : Sol) (r : Bool) (h : Dimpl_SolidOk n a0 = some r) : Big Tryz.prog H YS (.call 18 [.agg [bl a0.inn, i64 a0.pl.A, i64 a0.pl.B, i64 a0.pl.C, i64 a0.pl.D, .sl false 6 a0.kids.length ((eSol false).f a0.kids)]] (lk []) (bl r) (lk [])) := by
  unfold Dimpl_SolidOk at h
  refine x_call (fn := Tryz.f18) (c := bodyOf Tryz.f18) (bs0 := []) Tryz.func18 (by kernel_rfl) (by kernel_rfl) ?_
  obtain ⟨v0, hv0, h⟩ := bind_some h
  replace h := Option.some.inj h; subst h
  exact x_end 15 [(4, .call [(false, 4)] [] (bl v0.1) [(1000, ⟨true, 0, [i64 v0.2]⟩)])] [] (ocons (Timpl_checker_right n 0 a0 [] _ hv0) onil) onil (by kernel_rfl)
/-! impl.PlaneText -/
def Dimpl_PlaneText (n : Nat) (a0 : Pl) : Option ByteArray :=
  (Dimpl_PlaneOk n a0).bind fun v0 => frk (!v0) (some (ByteArray.mk #[])) ((DItoa a0.A).bind fun v1 => chk (apB 16 (0 + 1)) ((DItoa a0.B).bind fun v3 => chk (apB 16 (1 + 1)) ((DItoa a0.C).bind fun v5 => chk (apB 16 (2 + 1)) ((DItoa a0.D).bind fun v7 => chk (apB 16 (3 + 1)) ((DJoin [v1, v3, v5, v7] (ByteArray.mk #[32])).bind fun v9 => some v9)))))
theorem Timpl_PlaneText (n : Nat) (a0 : Pl) (r : ByteArray) (h : Dimpl_PlaneText n a0 = some r) : Big Tryz.prog H YS (.call 24 [.agg [i64 a0.A, i64 a0.B, i64 a0.C, i64 a0.D]] (lk []) (.lit (.string r)) (lk [])) := by
  unfold Dimpl_PlaneText at h
  refine x_call (fn := Tryz.f24) (c := bodyOf Tryz.f24) (bs0 := []) Tryz.func24 (by kernel_rfl) (by kernel_rfl) ?_
  obtain ⟨v0, hv0, h⟩ := bind_some h
  refine x_frk 12 [(3, .call [] [] (bl v0) [])] (ocons (Timpl_PlaneOk n a0 _ hv0) onil) h (by kernel_rfl) (fun h => ?_) (fun h => ?_)
  · replace h := Option.some.inj h; subst h
    exact x_end 4 [] [] onil onil (by kernel_rfl)
  · obtain ⟨v1, hv1, h⟩ := bind_some h
    obtain ⟨c2, h⟩ := chk_some h
    obtain ⟨v3, hv3, h⟩ := bind_some h
    obtain ⟨c4, h⟩ := chk_some h
    obtain ⟨v5, hv5, h⟩ := bind_some h
    obtain ⟨c6, h⟩ := chk_some h
    obtain ⟨v7, hv7, h⟩ := bind_some h
    obtain ⟨c8, h⟩ := chk_some h
    obtain ⟨v9, hv9, h⟩ := bind_some h
    replace h := Option.some.inj h; subst h
    exact x_end 151 [(1, .virt 3 503 1), (15, .call [] [] (.lit (.string v1)) []), (1, .app false (List.length ([] ++ [v1])) ((eStr).f ([] ++ [v1]))), (8, .call [] [] (.lit (.string v3)) []), (1, .app false (List.length ([v1] ++ [v3])) ((eStr).f ([v1] ++ [v3]))), (8, .call [] [] (.lit (.string v5)) []), (1, .app false (List.length ([v1, v3] ++ [v5])) ((eStr).f ([v1, v3] ++ [v5]))), (8, .call [] [] (.lit (.string v7)) []), (1, .app false (List.length ([v1, v3, v5] ++ [v7])) ((eStr).f ([v1, v3, v5] ++ [v7]))), (5, .call [] [(eStr).f [v1, v3, v5, v7]] (.lit (.string v9)) [])] [] (ocons (rflV .nil) (ocons (show 503 < 1000 ∧ 1 ≠ 0 by decide) (ocons (Titoa a0.A _ hv1) (ocons (len_row' (L := []) eStr) (ocons (app_one (L := []) (M := [v1]) eStr c2) (ocons (app_new (L := []) (M := [v1]) eStr) (ocons (app_m (L := []) (M := [v1]) eStr rfl) (ocons (len_row' (L := [v1]) eStr) (ocons (Enc.noOwn eStr (fun _ => rfl) [v1]) (ocons (Titoa a0.B _ hv3) (ocons (len_row' (L := [v1]) eStr) (ocons (app_one (L := [v1]) (M := [v3]) eStr c4) (ocons (app_new (L := [v1]) (M := [v3]) eStr) (ocons (app_m (L := [v1]) (M := [v3]) eStr rfl) (ocons (len_row' (L := [v3]) eStr) (ocons (Enc.noOwn eStr (fun _ => rfl) [v3]) (ocons (Titoa a0.C _ hv5) (ocons (len_row' (L := [v1, v3]) eStr) (ocons (app_one (L := [v1, v3]) (M := [v5]) eStr c6) (ocons (app_new (L := [v1, v3]) (M := [v5]) eStr) (ocons (app_m (L := [v1, v3]) (M := [v5]) eStr rfl) (ocons (len_row' (L := [v5]) eStr) (ocons (Enc.noOwn eStr (fun _ => rfl) [v5]) (ocons (Titoa a0.D _ hv7) (ocons (len_row' (L := [v1, v3, v5]) eStr) (ocons (app_one (L := [v1, v3, v5]) (M := [v7]) eStr c8) (ocons (app_new (L := [v1, v3, v5]) (M := [v7]) eStr) (ocons (app_m (L := [v1, v3, v5]) (M := [v7]) eStr rfl) (ocons (len_row' (L := [v7]) eStr) (ocons (Enc.noOwn eStr (fun _ => rfl) [v7]) (ocons (Tjoin [v1, v3, v5, v7] (ByteArray.mk #[32]) _ hv9) (ocons (len_row (L := [v1, v3, v5, v7]) eStr) (ocons (Enc.share eStr eStr sStr [v1, v3, v5, v7]) onil))))))))))))))))))))))))))))))))) onil (by kernel_rfl)
/-! impl.Solid).text -/
def Dimpl_Solid_text_b (n : Nat) (self : Sol → Option ByteArray) (a : Sol) : Option ByteArray :=
  match a with
  | a0 => (Dimpl_Solid_isLeaf a0).bind fun v0 => frk v0 (frk a0.inn (some (ByteArray.mk #[35])) (some (ByteArray.mk #[46]))) ((Dimpl_PlaneText n a0.pl).bind fun v1 => (scat (ByteArray.mk #[40]) v1).bind fun v2 => (scat v2 (ByteArray.mk #[32])).bind fun v3 => (lget a0.kids 0).bind fun v4 => (self v4).bind fun v5 => (scat v3 v5).bind fun v6 => (scat v6 (ByteArray.mk #[32])).bind fun v7 => (lget a0.kids 1).bind fun v8 => (self v8).bind fun v9 => (scat v7 v9).bind fun v10 => (scat v10 (ByteArray.mk #[41])).bind fun v11 => some v11)
def Dimpl_Solid_text (n : Nat) (a0 : Sol) : Option ByteArray := loopN (Dimpl_Solid_text_b n) n a0
theorem Timpl_Solid_text_b (n : Nat) : ∀ (m : Nat) (a : Sol) (r : ByteArray), loopN (Dimpl_Solid_text_b n) m a = some r → ∀ (q0 : List AV), Big Tryz.prog H YS (.call 19 [.cptr ([bl a.inn, i64 a.pl.A, i64 a.pl.B, i64 a.pl.C, i64 a.pl.D, .sl false 6 a.kids.length ((eSol false).f a.kids)] ++ q0)] (lk []) (.lit (.string r)) (lk [])) := by
  refine loopN_ind (fun self hs a r h => ?_)
  have hself : ∀ (a : Sol) (q0 : List AV) (r : ByteArray), self a = some r → Big Tryz.prog H YS (.call 19 [.cptr ([bl a.inn, i64 a.pl.A, i64 a.pl.B, i64 a.pl.C, i64 a.pl.D, .sl false 6 a.kids.length ((eSol false).f a.kids)] ++ q0)] (lk []) (.lit (.string r)) (lk [])) := fun a q0 r h => hs a r h q0
  intro q0
  obtain ⟨a0, rfl⟩ : ∃ x, x = a := ⟨a, rfl⟩
  unfold Dimpl_Solid_text_b at h
  refine x_call (fn := Tryz.f19) (c := bodyOf Tryz.f19) (bs0 := []) Tryz.func19 (by kernel_rfl) (by kernel_rfl) ?_
  obtain ⟨v0, hv0, h⟩ := bind_some h
  refine x_frk 10 [(2, .call [] [] (bl v0) [])] (ocons (Timpl_Solid_isLeaf a0 q0 _ hv0) onil) h (by kernel_rfl) (fun h => ?_) (fun h => ?_)
  · refine x_frk 8 [] onil h (by kernel_rfl) (fun h => ?_) (fun h => ?_)
    · replace h := Option.some.inj h; subst h
      exact x_end 4 [] [] onil onil (by kernel_rfl)
    · replace h := Option.some.inj h; subst h
      exact x_end 5 [] [] onil onil (by kernel_rfl)
  · obtain ⟨v1, hv1, h⟩ := bind_some h
    obtain ⟨v2, hv2, h⟩ := bind_some h
    obtain ⟨v3, hv3, h⟩ := bind_some h
    obtain ⟨v4, hv4, h⟩ := bind_some h
    obtain ⟨v5, hv5, h⟩ := bind_some h
    obtain ⟨v6, hv6, h⟩ := bind_some h
    obtain ⟨v7, hv7, h⟩ := bind_some h
    obtain ⟨v8, hv8, h⟩ := bind_some h
    obtain ⟨v9, hv9, h⟩ := bind_some h
    obtain ⟨v10, hv10, h⟩ := bind_some h
    obtain ⟨v11, hv11, h⟩ := bind_some h
    replace h := Option.some.inj h; subst h
    exact x_end 28 [(4, .call [] [] (.lit (.string v1)) []), (0, .val (.lit (.string v2))), (0, .val (.lit (.string v3))), (4, .val (.cptr ((eSol false).c v4 ++ (eSol false).f ((a0.kids).drop (Int.toNat 0 + 1))))), (0, .call [] [] (.lit (.string v5)) []), (0, .val (.lit (.string v6))), (0, .val (.lit (.string v7))), (4, .val (.cptr ((eSol false).c v8 ++ (eSol false).f ((a0.kids).drop (Int.toNat 1 + 1))))), (0, .call [] [] (.lit (.string v9)) []), (0, .val (.lit (.string v10))), (0, .val (.lit (.string v11)))] [] (ocons (Timpl_PlaneText n a0.pl _ hv1) (ocons (catOk hv2) (ocons (catOk hv3) (ocons (ix (eSol false) hv4) (ocons (hself v4 ((eSol false).f ((a0.kids).drop (Int.toNat 0 + 1))) _ hv5) (ocons (catOk hv6) (ocons (catOk hv7) (ocons (ix (eSol false) hv8) (ocons (hself v8 ((eSol false).f ((a0.kids).drop (Int.toNat 1 + 1))) _ hv9) (ocons (catOk hv10) (ocons (catOk hv11) onil))))))))))) onil (by kernel_rfl)
theorem Timpl_Solid_text (n : Nat) (a0 : Sol) (q0 : List AV) (r : ByteArray) (h : Dimpl_Solid_text n a0 = some r) : Big Tryz.prog H YS (.call 19 [.cptr ([bl a0.inn, i64 a0.pl.A, i64 a0.pl.B, i64 a0.pl.C, i64 a0.pl.D, .sl false 6 a0.kids.length ((eSol false).f a0.kids)] ++ q0)] (lk []) (.lit (.string r)) (lk [])) := Timpl_Solid_text_b n n a0 r h q0
/-! impl.SolidText -/
def Dimpl_SolidText (n : Nat) (a0 : Sol) : Option ByteArray :=
  (Dimpl_SolidOk n a0).bind fun v0 => frk (!v0) (some (ByteArray.mk #[])) ((Dimpl_Solid_text n a0).bind fun v1 => some v1)
theorem Timpl_SolidText (n : Nat) (a0 : Sol) (r : ByteArray) (h : Dimpl_SolidText n a0 = some r) : Big Tryz.prog H YS (.call 6 [.agg [bl a0.inn, i64 a0.pl.A, i64 a0.pl.B, i64 a0.pl.C, i64 a0.pl.D, .sl false 6 a0.kids.length ((eSol false).f a0.kids)]] (lk []) (.lit (.string r)) (lk [])) := by
  unfold Dimpl_SolidText at h
  refine x_call (fn := Tryz.f6) (c := bodyOf Tryz.f6) (bs0 := []) Tryz.func6 (by kernel_rfl) (by kernel_rfl) ?_
  obtain ⟨v0, hv0, h⟩ := bind_some h
  refine x_frk 12 [(3, .call [] [] (bl v0) [])] (ocons (Timpl_SolidOk n a0 _ hv0) onil) h (by kernel_rfl) (fun h => ?_) (fun h => ?_)
  · replace h := Option.some.inj h; subst h
    exact x_end 4 [] [] onil onil (by kernel_rfl)
  · obtain ⟨v1, hv1, h⟩ := bind_some h
    replace h := Option.some.inj h; subst h
    exact x_end 6 [(0, .call [] [] (.lit (.string v1)) [])] [] (ocons (Timpl_Solid_text n a0 [] _ hv1) onil) onil (by kernel_rfl)
/-! impl.reader).peek -/
def Dimpl_reader_peek_0 (t18 : Bool) (b1000_0 : ByteArray) (b1000_1 : Int) (b1000_2 : Bool) : Option (Int × (ByteArray × Int × Bool)) :=
  frk t18 (some (0, (b1000_0, b1000_1, b1000_2))) ((sget b1000_0 b1000_1).bind fun v0 => some (v0, (b1000_0, b1000_1, b1000_2)))
theorem Timpl_reader_peek_0 (t18 : Bool) (b1000_0 : ByteArray) (b1000_1 : Int) (b1000_2 : Bool) (r : (Int × (ByteArray × Int × Bool))) (h : Dimpl_reader_peek_0 t18 b1000_0 b1000_1 b1000_2 = some r) : Wk Tryz.prog H YS 41 [.code (cp [1, 0, 1] (bodyOf Tryz.f41)), .code (cp [1, 1] (bodyOf Tryz.f41))] (FinX Tryz.prog Tryz.f41 [(1000, ⟨true, 0, [.bad, .bad, .bad]⟩)] (.lit (.int .u8 r.1)) [(1000, ⟨true, 0, [.lit (.string r.2.1), i64 r.2.2.1, bl r.2.2.2]⟩)]) ⟨[(0, .ptr 1000 0), (18, bl t18)], [(1000, ⟨true, 0, [.lit (.string b1000_0), i64 b1000_1, bl b1000_2]⟩)]⟩ := by
  unfold Dimpl_reader_peek_0 at h
  refine x_frk 0 [] onil h (by kernel_rfl) (fun h => ?_) (fun h => ?_)
  · replace h := Option.some.inj h; subst h
    exact x_end 4 [] [] onil onil (by kernel_rfl)
  · obtain ⟨v0, hv0, h⟩ := bind_some h
    replace h := Option.some.inj h; subst h
    exact x_end 14 [(8, .val (.lit (.int .u8 v0)))] [] (ocons (strIx hv0) onil) onil (by kernel_rfl)
def Dimpl_reader_peek (a0 : (ByteArray × Int × Bool)) : Option (Int × (ByteArray × Int × Bool)) :=
  frk a0.2.2 (some (0, a0)) (Dimpl_reader_peek_0 (decide (a0.2.1 ≥ (a0.1.size : Int))) a0.1 a0.2.1 a0.2.2)
theorem Timpl_reader_peek (a0 : (ByteArray × Int × Bool)) (r : (Int × (ByteArray × Int × Bool))) (h : Dimpl_reader_peek a0 = some r) : Big Tryz.prog H YS (.call 41 [.ptr 1000 0] (lk [(1000, ⟨true, 0, [.lit (.string a0.1), i64 a0.2.1, bl a0.2.2]⟩)]) (.lit (.int .u8 r.1)) (lk [(1000, ⟨true, 0, [.lit (.string r.2.1), i64 r.2.2.1, bl r.2.2.2]⟩)])) := by
  unfold Dimpl_reader_peek at h
  refine x_call (fn := Tryz.f41) (c := bodyOf Tryz.f41) (bs0 := [(1000, ⟨true, 0, [.bad, .bad, .bad]⟩)]) Tryz.func41 (by kernel_rfl) (by kernel_rfl) ?_
  refine x_frk 12 [] onil h (by kernel_rfl) (fun h => ?_) (fun h => ?_)
  · replace h := Option.some.inj h; subst h
    exact x_end 17 [] [] onil onil (by kernel_rfl)
  · exact x_to 12 [] onil (Timpl_reader_peek_0 (decide (a0.2.1 ≥ (a0.1.size : Int))) a0.1 a0.2.1 a0.2.2 r h) (by kernel_rfl)
/-! impl.Leaf -/
def Dimpl_Leaf (a0 : Bool) : Option Sol :=
  some (Sol.mk a0 (Pl.mk 0 0 0 0) [])
theorem Timpl_Leaf (a0 : Bool) (r : Sol) (h : Dimpl_Leaf a0 = some r) : Big Tryz.prog H YS (.call 42 [bl a0] (lk []) (.agg [bl r.inn, i64 r.pl.A, i64 r.pl.B, i64 r.pl.C, i64 r.pl.D, .sl true 6 r.kids.length ((eSol true).f r.kids)]) (lk [])) := by
  unfold Dimpl_Leaf at h
  refine x_call (fn := Tryz.f42) (c := bodyOf Tryz.f42) (bs0 := []) Tryz.func42 (by kernel_rfl) (by kernel_rfl) ?_
  replace h := Option.some.inj h; subst h
  exact x_end 10 [] [(true, 6)] onil onil (by kernel_rfl)
/-! impl.isFigure -/
def Dimpl_isFigure (a0 : Int) : Option Bool :=
  frk (decide (a0 ≥ 48)) (some (decide (a0 ≤ 57))) (some false)
theorem Timpl_isFigure (a0 : Int) (r : Bool) (h : Dimpl_isFigure a0 = some r) : Big Tryz.prog H YS (.call 63 [.lit (.int .u8 a0)] (lk []) (bl r) (lk [])) := by
  unfold Dimpl_isFigure at h
  refine x_call (fn := Tryz.f63) (c := bodyOf Tryz.f63) (bs0 := []) Tryz.func63 (by kernel_rfl) (by kernel_rfl) ?_
  refine x_frk 9 [] onil h (by kernel_rfl) (fun h => ?_) (fun h => ?_)
  · replace h := Option.some.inj h; subst h
    exact x_end 5 [] [] onil onil (by kernel_rfl)
  · replace h := Option.some.inj h; subst h
    exact x_end 5 [] [] onil onil (by kernel_rfl)
/-! impl.reader).number -/
def Dimpl_reader_number_3 (_n : Nat) (t4 : Int) (t63 : Bool) (b1000_0 : ByteArray) (b1000_1 : Int) (b1000_2 : Bool) : Option (Int × (ByteArray × Int × Bool)) :=
  frk t63 (some (w64 (0 - t4), (b1000_0, b1000_1, b1000_2))) (some (t4, (b1000_0, b1000_1, b1000_2)))
theorem Timpl_reader_number_3 (n : Nat) (t4 : Int) (t63 : Bool) (b1000_0 : ByteArray) (b1000_1 : Int) (b1000_2 : Bool) (r : (Int × (ByteArray × Int × Bool))) (h : Dimpl_reader_number_3 n t4 t63 b1000_0 b1000_1 b1000_2 = some r) : Wk Tryz.prog H YS 43 [.code (cp [1, 1, 1, 1, 1, 1, 0, 1] (bodyOf Tryz.f43)), .code (cp [1, 1, 1, 1, 1, 1, 1] (bodyOf Tryz.f43))] (FinX Tryz.prog Tryz.f43 [(1000, ⟨true, 0, [.bad, .bad, .bad]⟩)] (i64 r.1) [(1000, ⟨true, 0, [.lit (.string r.2.1), i64 r.2.2.1, bl r.2.2.2]⟩)]) ⟨[(4, i64 t4), (63, bl t63)], [(1000, ⟨true, 0, [.lit (.string b1000_0), i64 b1000_1, bl b1000_2]⟩)]⟩ := by
  unfold Dimpl_reader_number_3 at h
  refine x_frk 0 [] onil h (by kernel_rfl) (fun h => ?_) (fun h => ?_)
  · replace h := Option.some.inj h; subst h
    exact x_end 6 [] [] onil onil (by kernel_rfl)
  · replace h := Option.some.inj h; subst h
    exact x_end 6 [] [] onil onil (by kernel_rfl)
def Dimpl_reader_number_2 (n : Nat) (t3 : Bool) (t4 : Int) (t59 : Bool) (b1000_0 : ByteArray) (b1000_1 : Int) (b1000_2 : Bool) : Option (Int × (ByteArray × Int × Bool)) :=
  frk t59 (Dimpl_reader_number_3 n t4 t3 b1000_0 b1000_1 true) (Dimpl_reader_number_3 n t4 t3 b1000_0 b1000_1 b1000_2)
theorem Timpl_reader_number_2 (n : Nat) (t3 : Bool) (t4 : Int) (t59 : Bool) (b1000_0 : ByteArray) (b1000_1 : Int) (b1000_2 : Bool) (r : (Int × (ByteArray × Int × Bool))) (h : Dimpl_reader_number_2 n t3 t4 t59 b1000_0 b1000_1 b1000_2 = some r) : Wk Tryz.prog H YS 43 [.code (cp [1, 1, 1, 1, 1, 0, 1] (bodyOf Tryz.f43)), .code (cp [1, 1, 1, 1, 1, 1] (bodyOf Tryz.f43))] (FinX Tryz.prog Tryz.f43 [(1000, ⟨true, 0, [.bad, .bad, .bad]⟩)] (i64 r.1) [(1000, ⟨true, 0, [.lit (.string r.2.1), i64 r.2.2.1, bl r.2.2.2]⟩)]) ⟨[(0, .ptr 1000 0), (3, bl t3), (4, i64 t4), (59, bl t59)], [(1000, ⟨true, 0, [.lit (.string b1000_0), i64 b1000_1, bl b1000_2]⟩)]⟩ := by
  unfold Dimpl_reader_number_2 at h
  refine x_frk 0 [] onil h (by kernel_rfl) (fun h => ?_) (fun h => ?_)
  · exact x_to 11 [] onil (Timpl_reader_number_3 n t4 t3 b1000_0 b1000_1 true r h) (by kernel_rfl)
  · exact x_to 6 [] onil (Timpl_reader_number_3 n t4 t3 b1000_0 b1000_1 b1000_2 r h) (by kernel_rfl)
def Dimpl_reader_number_4 (n : Nat) (rec0 : (Int × Int × ByteArray × Int × Bool) → Option (Int × (ByteArray × Int × Bool))) (t3 : Bool) (t4 t5 : Int) (t41 : Bool) (b1000_0 : ByteArray) (b1000_1 : Int) (b1000_2 : Bool) : Option (Int × (ByteArray × Int × Bool)) :=
  frk t41 (Dimpl_reader_number_2 n t3 t4 (t5 == 0) b1000_0 b1000_1 b1000_2) ((Dimpl_reader_peek (b1000_0, b1000_1, b1000_2)).bind fun v4 => rec0 (w64 ((w64 (t4 * 10)) + (w64 (IntKind.u8.wrap (v4.1 - 48)))), w64 (t5 + 1), v4.2.1, w64 (v4.2.2.1 + 1), v4.2.2.2))
theorem Timpl_reader_number_4 (n : Nat) (rec0 : (Int × Int × ByteArray × Int × Bool) → Option (Int × (ByteArray × Int × Bool))) (t3 : Bool) (hrec0 : ∀ (a : (Int × Int × ByteArray × Int × Bool)) (r : (Int × (ByteArray × Int × Bool))), rec0 a = some r → Wk Tryz.prog H YS 43 [.code (cp [1, 1, 1, 1, 0, 0] (bodyOf Tryz.f43)), .blk 0, .code (cp [1, 1, 1, 1, 1] (bodyOf Tryz.f43))] (FinX Tryz.prog Tryz.f43 [(1000, ⟨true, 0, [.bad, .bad, .bad]⟩)] (i64 r.1) [(1000, ⟨true, 0, [.lit (.string r.2.1), i64 r.2.2.1, bl r.2.2.2]⟩)]) ⟨[(0, .ptr 1000 0), (3, bl t3), (4, i64 a.1), (5, i64 a.2.1)], [(1000, ⟨true, 0, [.lit (.string a.2.2.1), i64 a.2.2.2.1, bl a.2.2.2.2]⟩)]⟩) (t4 t5 : Int) (t41 : Bool) (b1000_0 : ByteArray) (b1000_1 : Int) (b1000_2 : Bool) (r : (Int × (ByteArray × Int × Bool))) (h : Dimpl_reader_number_4 n rec0 t3 t4 t5 t41 b1000_0 b1000_1 b1000_2 = some r) : Wk Tryz.prog H YS 43 [.code (cp [1, 1, 1, 1, 0, 0, 0, 1, 0, 0, 1] (bodyOf Tryz.f43)), .code (cp [1, 1, 1, 1, 0, 0, 0, 1, 0, 1] (bodyOf Tryz.f43)), .blk 1, .lp (cp [1, 1, 1, 1, 0, 0] (bodyOf Tryz.f43)), .blk 0, .code (cp [1, 1, 1, 1, 1] (bodyOf Tryz.f43))] (FinX Tryz.prog Tryz.f43 [(1000, ⟨true, 0, [.bad, .bad, .bad]⟩)] (i64 r.1) [(1000, ⟨true, 0, [.lit (.string r.2.1), i64 r.2.2.1, bl r.2.2.2]⟩)]) ⟨[(0, .ptr 1000 0), (3, bl t3), (4, i64 t4), (5, i64 t5), (41, bl t41)], [(1000, ⟨true, 0, [.lit (.string b1000_0), i64 b1000_1, bl b1000_2]⟩)]⟩ := by
  unfold Dimpl_reader_number_4 at h
  refine x_frk 0 [] onil h (by kernel_rfl) (fun h => ?_) (fun h => ?_)
  · exact x_to 7 [] onil (Timpl_reader_number_2 n t3 t4 (t5 == 0) b1000_0 b1000_1 b1000_2 r h) (by kernel_rfl)
  · obtain ⟨v4, hv4, h⟩ := bind_some h
    exact x_to 30 [(3, .call [] [] (.lit (.int .u8 v4.1)) [(1000, ⟨true, 0, [.lit (.string v4.2.1), i64 v4.2.2.1, bl v4.2.2.2]⟩)])] (ocons (Timpl_reader_peek (b1000_0, b1000_1, b1000_2) _ hv4) onil) (hrec0 (w64 ((w64 (t4 * 10)) + (w64 (IntKind.u8.wrap (v4.1 - 48)))), w64 (t5 + 1), v4.2.1, w64 (v4.2.2.1 + 1), v4.2.2.2) r h) (by kernel_rfl)
def Dimpl_reader_number_5 (_n : Nat) (rec0 : (Int × Int × ByteArray × Int × Bool) → Option (Int × (ByteArray × Int × Bool))) (_t3 : Bool) (t4 t5 : Int) (b1000_0 : ByteArray) (b1000_1 : Int) (b1000_2 : Bool) : Option (Int × (ByteArray × Int × Bool)) :=
  (Dimpl_reader_peek (b1000_0, b1000_1, b1000_2)).bind fun v5 => rec0 (w64 ((w64 (t4 * 10)) + (w64 (IntKind.u8.wrap (v5.1 - 48)))), w64 (t5 + 1), v5.2.1, w64 (v5.2.2.1 + 1), v5.2.2.2)
theorem Timpl_reader_number_5 (n : Nat) (rec0 : (Int × Int × ByteArray × Int × Bool) → Option (Int × (ByteArray × Int × Bool))) (t3 : Bool) (hrec0 : ∀ (a : (Int × Int × ByteArray × Int × Bool)) (r : (Int × (ByteArray × Int × Bool))), rec0 a = some r → Wk Tryz.prog H YS 43 [.code (cp [1, 1, 1, 1, 0, 0] (bodyOf Tryz.f43)), .blk 0, .code (cp [1, 1, 1, 1, 1] (bodyOf Tryz.f43))] (FinX Tryz.prog Tryz.f43 [(1000, ⟨true, 0, [.bad, .bad, .bad]⟩)] (i64 r.1) [(1000, ⟨true, 0, [.lit (.string r.2.1), i64 r.2.2.1, bl r.2.2.2]⟩)]) ⟨[(0, .ptr 1000 0), (3, bl t3), (4, i64 a.1), (5, i64 a.2.1)], [(1000, ⟨true, 0, [.lit (.string a.2.2.1), i64 a.2.2.2.1, bl a.2.2.2.2]⟩)]⟩) (t4 t5 : Int) (b1000_0 : ByteArray) (b1000_1 : Int) (b1000_2 : Bool) (r : (Int × (ByteArray × Int × Bool))) (h : Dimpl_reader_number_5 n rec0 t3 t4 t5 b1000_0 b1000_1 b1000_2 = some r) : Wk Tryz.prog H YS 43 [.code (cp [1, 1, 1, 1, 0, 0, 0, 1, 0, 1, 0] (bodyOf Tryz.f43)), .code (cp [1, 1, 1, 1, 0, 0, 0, 1, 0, 1, 1] (bodyOf Tryz.f43)), .blk 1, .lp (cp [1, 1, 1, 1, 0, 0] (bodyOf Tryz.f43)), .blk 0, .code (cp [1, 1, 1, 1, 1] (bodyOf Tryz.f43))] (FinX Tryz.prog Tryz.f43 [(1000, ⟨true, 0, [.bad, .bad, .bad]⟩)] (i64 r.1) [(1000, ⟨true, 0, [.lit (.string r.2.1), i64 r.2.2.1, bl r.2.2.2]⟩)]) ⟨[(0, .ptr 1000 0), (3, bl t3), (4, i64 t4), (5, i64 t5)], [(1000, ⟨true, 0, [.lit (.string b1000_0), i64 b1000_1, bl b1000_2]⟩)]⟩ := by
  unfold Dimpl_reader_number_5 at h
  obtain ⟨v5, hv5, h⟩ := bind_some h
  exact x_to 28 [(3, .call [] [] (.lit (.int .u8 v5.1)) [(1000, ⟨true, 0, [.lit (.string v5.2.1), i64 v5.2.2.1, bl v5.2.2.2]⟩)])] (ocons (Timpl_reader_peek (b1000_0, b1000_1, b1000_2) _ hv5) onil) (hrec0 (w64 ((w64 (t4 * 10)) + (w64 (IntKind.u8.wrap (v5.1 - 48)))), w64 (t5 + 1), v5.2.1, w64 (v5.2.2.1 + 1), v5.2.2.2) r h) (by kernel_rfl)
def Dimpl_reader_number_1 (n : Nat) (rec0 : (Int × Int × ByteArray × Int × Bool) → Option (Int × (ByteArray × Int × Bool))) (t3 : Bool) (t4 t5 : Int) (t23 : Bool) (b1000_0 : ByteArray) (b1000_1 : Int) (b1000_2 : Bool) : Option (Int × (ByteArray × Int × Bool)) :=
  frk t23 (frk (t5 == 1) (frk (t4 == 0) (Dimpl_reader_number_2 n t3 t4 (t5 == 0) b1000_0 b1000_1 b1000_2) (frk t3 (frk (t5 == 0) ((Dimpl_reader_peek (b1000_0, b1000_1, b1000_2)).bind fun v3 => Dimpl_reader_number_4 n rec0 t3 t4 t5 (v3.1 == 48) v3.2.1 v3.2.2.1 v3.2.2.2) (Dimpl_reader_number_5 n rec0 t3 t4 t5 b1000_0 b1000_1 b1000_2)) (Dimpl_reader_number_5 n rec0 t3 t4 t5 b1000_0 b1000_1 b1000_2))) (frk t3 (frk (t5 == 0) ((Dimpl_reader_peek (b1000_0, b1000_1, b1000_2)).bind fun v6 => Dimpl_reader_number_4 n rec0 t3 t4 t5 (v6.1 == 48) v6.2.1 v6.2.2.1 v6.2.2.2) (Dimpl_reader_number_5 n rec0 t3 t4 t5 b1000_0 b1000_1 b1000_2)) (Dimpl_reader_number_5 n rec0 t3 t4 t5 b1000_0 b1000_1 b1000_2))) (Dimpl_reader_number_2 n t3 t4 (t5 == 0) b1000_0 b1000_1 b1000_2)
theorem Timpl_reader_number_1 (n : Nat) (rec0 : (Int × Int × ByteArray × Int × Bool) → Option (Int × (ByteArray × Int × Bool))) (t3 : Bool) (hrec0 : ∀ (a : (Int × Int × ByteArray × Int × Bool)) (r : (Int × (ByteArray × Int × Bool))), rec0 a = some r → Wk Tryz.prog H YS 43 [.code (cp [1, 1, 1, 1, 0, 0] (bodyOf Tryz.f43)), .blk 0, .code (cp [1, 1, 1, 1, 1] (bodyOf Tryz.f43))] (FinX Tryz.prog Tryz.f43 [(1000, ⟨true, 0, [.bad, .bad, .bad]⟩)] (i64 r.1) [(1000, ⟨true, 0, [.lit (.string r.2.1), i64 r.2.2.1, bl r.2.2.2]⟩)]) ⟨[(0, .ptr 1000 0), (3, bl t3), (4, i64 a.1), (5, i64 a.2.1)], [(1000, ⟨true, 0, [.lit (.string a.2.2.1), i64 a.2.2.2.1, bl a.2.2.2.2]⟩)]⟩) (t4 t5 : Int) (t23 : Bool) (b1000_0 : ByteArray) (b1000_1 : Int) (b1000_2 : Bool) (r : (Int × (ByteArray × Int × Bool))) (h : Dimpl_reader_number_1 n rec0 t3 t4 t5 t23 b1000_0 b1000_1 b1000_2 = some r) : Wk Tryz.prog H YS 43 [.code (cp [1, 1, 1, 1, 0, 0, 0, 0, 1] (bodyOf Tryz.f43)), .code (cp [1, 1, 1, 1, 0, 0, 0, 1] (bodyOf Tryz.f43)), .lp (cp [1, 1, 1, 1, 0, 0] (bodyOf Tryz.f43)), .blk 0, .code (cp [1, 1, 1, 1, 1] (bodyOf Tryz.f43))] (FinX Tryz.prog Tryz.f43 [(1000, ⟨true, 0, [.bad, .bad, .bad]⟩)] (i64 r.1) [(1000, ⟨true, 0, [.lit (.string r.2.1), i64 r.2.2.1, bl r.2.2.2]⟩)]) ⟨[(0, .ptr 1000 0), (3, bl t3), (4, i64 t4), (5, i64 t5), (23, bl t23)], [(1000, ⟨true, 0, [.lit (.string b1000_0), i64 b1000_1, bl b1000_2]⟩)]⟩ := by
  unfold Dimpl_reader_number_1 at h
  refine x_frk 0 [] onil h (by kernel_rfl) (fun h => ?_) (fun h => ?_)
  · refine x_frk 8 [] onil h (by kernel_rfl) (fun h => ?_) (fun h => ?_)
    · refine x_frk 4 [] onil h (by kernel_rfl) (fun h => ?_) (fun h => ?_)
      · exact x_to 20 [] onil (Timpl_reader_number_2 n t3 t4 (t5 == 0) b1000_0 b1000_1 b1000_2 r h) (by kernel_rfl)
      · refine x_frk 2 [] onil h (by kernel_rfl) (fun h => ?_) (fun h => ?_)
        · refine x_frk 4 [] onil h (by kernel_rfl) (fun h => ?_) (fun h => ?_)
          · obtain ⟨v3, hv3, h⟩ := bind_some h
            exact x_to 6 [(1, .call [] [] (.lit (.int .u8 v3.1)) [(1000, ⟨true, 0, [.lit (.string v3.2.1), i64 v3.2.2.1, bl v3.2.2.2]⟩)])] (ocons (Timpl_reader_peek (b1000_0, b1000_1, b1000_2) _ hv3) onil) (Timpl_reader_number_4 n rec0 t3 hrec0 t4 t5 (v3.1 == 48) v3.2.1 v3.2.2.1 v3.2.2.2 r h) (by kernel_rfl)
          · exact x_to 9 [] onil (Timpl_reader_number_5 n rec0 t3 hrec0 t4 t5 b1000_0 b1000_1 b1000_2 r h) (by kernel_rfl)
        · exact x_to 13 [] onil (Timpl_reader_number_5 n rec0 t3 hrec0 t4 t5 b1000_0 b1000_1 b1000_2 r h) (by kernel_rfl)
    · refine x_frk 6 [] onil h (by kernel_rfl) (fun h => ?_) (fun h => ?_)
      · refine x_frk 4 [] onil h (by kernel_rfl) (fun h => ?_) (fun h => ?_)
        · obtain ⟨v6, hv6, h⟩ := bind_some h
          exact x_to 6 [(1, .call [] [] (.lit (.int .u8 v6.1)) [(1000, ⟨true, 0, [.lit (.string v6.2.1), i64 v6.2.2.1, bl v6.2.2.2]⟩)])] (ocons (Timpl_reader_peek (b1000_0, b1000_1, b1000_2) _ hv6) onil) (Timpl_reader_number_4 n rec0 t3 hrec0 t4 t5 (v6.1 == 48) v6.2.1 v6.2.2.1 v6.2.2.2 r h) (by kernel_rfl)
        · exact x_to 9 [] onil (Timpl_reader_number_5 n rec0 t3 hrec0 t4 t5 b1000_0 b1000_1 b1000_2 r h) (by kernel_rfl)
      · exact x_to 13 [] onil (Timpl_reader_number_5 n rec0 t3 hrec0 t4 t5 b1000_0 b1000_1 b1000_2 r h) (by kernel_rfl)
  · exact x_to 7 [] onil (Timpl_reader_number_2 n t3 t4 (t5 == 0) b1000_0 b1000_1 b1000_2 r h) (by kernel_rfl)
def Dimpl_reader_number_6 (n : Nat) (t3 : Bool) (rec0 : (Int × Int × ByteArray × Int × Bool) → Option (Int × (ByteArray × Int × Bool))) (a : (Int × Int × ByteArray × Int × Bool)) : Option (Int × (ByteArray × Int × Bool)) :=
  match a with
  | (t4, t5, b1000_0, b1000_1, b1000_2) => (Dimpl_reader_peek (b1000_0, b1000_1, b1000_2)).bind fun v1 => (Dimpl_isFigure v1.1).bind fun v2 => frk v2 (Dimpl_reader_number_1 n rec0 t3 t4 t5 (decide (t5 < 3)) v1.2.1 v1.2.2.1 v1.2.2.2) (Dimpl_reader_number_2 n t3 t4 (t5 == 0) v1.2.1 v1.2.2.1 v1.2.2.2)
theorem Timpl_reader_number_6 (n : Nat) (t3 : Bool) : ∀ (m : Nat) (a : (Int × Int × ByteArray × Int × Bool)) (r : (Int × (ByteArray × Int × Bool))), loopN (Dimpl_reader_number_6 n t3) m a = some r → Wk Tryz.prog H YS 43 [.code (cp [1, 1, 1, 1, 0, 0] (bodyOf Tryz.f43)), .blk 0, .code (cp [1, 1, 1, 1, 1] (bodyOf Tryz.f43))] (FinX Tryz.prog Tryz.f43 [(1000, ⟨true, 0, [.bad, .bad, .bad]⟩)] (i64 r.1) [(1000, ⟨true, 0, [.lit (.string r.2.1), i64 r.2.2.1, bl r.2.2.2]⟩)]) ⟨[(0, .ptr 1000 0), (3, bl t3), (4, i64 a.1), (5, i64 a.2.1)], [(1000, ⟨true, 0, [.lit (.string a.2.2.1), i64 a.2.2.2.1, bl a.2.2.2.2]⟩)]⟩ := by
  refine loopN_ind (fun rec0 hrec0 a r h => ?_)
  obtain ⟨t4, t5, b1000_0, b1000_1, b1000_2⟩ := a
  unfold Dimpl_reader_number_6 at h
  obtain ⟨v1, hv1, h⟩ := bind_some h
  obtain ⟨v2, hv2, h⟩ := bind_some h
  refine x_frk 8 [(1, .call [] [] (.lit (.int .u8 v1.1)) [(1000, ⟨true, 0, [.lit (.string v1.2.1), i64 v1.2.2.1, bl v1.2.2.2]⟩)]), (0, .call [] [] (bl v2) [])] (ocons (Timpl_reader_peek (b1000_0, b1000_1, b1000_2) _ hv1) (ocons (Timpl_isFigure v1.1 _ hv2) onil)) h (by kernel_rfl) (fun h => ?_) (fun h => ?_)
  · exact x_to 4 [] onil (Timpl_reader_number_1 n rec0 t3 hrec0 t4 t5 (decide (t5 < 3)) v1.2.1 v1.2.2.1 v1.2.2.2 r h) (by kernel_rfl)
  · exact x_to 12 [] onil (Timpl_reader_number_2 n t3 t4 (t5 == 0) v1.2.1 v1.2.2.1 v1.2.2.2 r h) (by kernel_rfl)
def Dimpl_reader_number_0 (n : Nat) (t3 : Bool) (t4 t5 : Int) (b1000_0 : ByteArray) (b1000_1 : Int) (b1000_2 : Bool) : Option (Int × (ByteArray × Int × Bool)) :=
  loopN (Dimpl_reader_number_6 n t3) n (t4, t5, b1000_0, b1000_1, b1000_2)
theorem Timpl_reader_number_0 (n : Nat) (t3 : Bool) (t4 t5 : Int) (b1000_0 : ByteArray) (b1000_1 : Int) (b1000_2 : Bool) (r : (Int × (ByteArray × Int × Bool))) (h : Dimpl_reader_number_0 n t3 t4 t5 b1000_0 b1000_1 b1000_2 = some r) : Wk Tryz.prog H YS 43 [.code (cp [1, 1, 1, 1, 0, 0] (bodyOf Tryz.f43)), .blk 0, .code (cp [1, 1, 1, 1, 1] (bodyOf Tryz.f43))] (FinX Tryz.prog Tryz.f43 [(1000, ⟨true, 0, [.bad, .bad, .bad]⟩)] (i64 r.1) [(1000, ⟨true, 0, [.lit (.string r.2.1), i64 r.2.2.1, bl r.2.2.2]⟩)]) ⟨[(0, .ptr 1000 0), (3, bl t3), (4, i64 t4), (5, i64 t5)], [(1000, ⟨true, 0, [.lit (.string b1000_0), i64 b1000_1, bl b1000_2]⟩)]⟩ := by
  unfold Dimpl_reader_number_0 at h
  exact x_to 0 [] onil (Timpl_reader_number_6 n t3 n (t4, t5, b1000_0, b1000_1, b1000_2) r h) (by kernel_rfl)
def Dimpl_reader_number (n : Nat) (a0 : (ByteArray × Int × Bool)) : Option (Int × (ByteArray × Int × Bool)) :=
  (Dimpl_reader_peek a0).bind fun v0 => frk (v0.1 == 45) (Dimpl_reader_number_0 n (v0.1 == 45) 0 0 v0.2.1 (w64 (v0.2.2.1 + 1)) v0.2.2.2) (Dimpl_reader_number_0 n (v0.1 == 45) 0 0 v0.2.1 v0.2.2.1 v0.2.2.2)
theorem Timpl_reader_number (n : Nat) (a0 : (ByteArray × Int × Bool)) (r : (Int × (ByteArray × Int × Bool))) (h : Dimpl_reader_number n a0 = some r) : Big Tryz.prog H YS (.call 43 [.ptr 1000 0] (lk [(1000, ⟨true, 0, [.lit (.string a0.1), i64 a0.2.1, bl a0.2.2]⟩)]) (i64 r.1) (lk [(1000, ⟨true, 0, [.lit (.string r.2.1), i64 r.2.2.1, bl r.2.2.2]⟩)])) := by
  unfold Dimpl_reader_number at h
  refine x_call (fn := Tryz.f43) (c := bodyOf Tryz.f43) (bs0 := [(1000, ⟨true, 0, [.bad, .bad, .bad]⟩)]) Tryz.func43 (by kernel_rfl) (by kernel_rfl) ?_
  obtain ⟨v0, hv0, h⟩ := bind_some h
  refine x_frk 16 [(2, .call [] [] (.lit (.int .u8 v0.1)) [(1000, ⟨true, 0, [.lit (.string v0.2.1), i64 v0.2.2.1, bl v0.2.2.2]⟩)])] (ocons (Timpl_reader_peek a0 _ hv0) onil) h (by kernel_rfl) (fun h => ?_) (fun h => ?_)
  · exact x_to 17 [] onil (Timpl_reader_number_0 n (v0.1 == 45) 0 0 v0.2.1 (w64 (v0.2.2.1 + 1)) v0.2.2.2 r h) (by kernel_rfl)
  · exact x_to 8 [] onil (Timpl_reader_number_0 n (v0.1 == 45) 0 0 v0.2.1 v0.2.2.1 v0.2.2.2 r h) (by kernel_rfl)
/-! impl.reader).take -/
def Dimpl_reader_take_0 (t15 : Bool) (b1000_0 : ByteArray) (b1000_1 : Int) (b1000_2 : Bool) : Option (ByteArray × Int × Bool) :=
  frk t15 (some (b1000_0, w64 (b1000_1 + 1), b1000_2)) (some (b1000_0, b1000_1, b1000_2))
theorem Timpl_reader_take_0 (t15 : Bool) (b1000_0 : ByteArray) (b1000_1 : Int) (b1000_2 : Bool) (r : (ByteArray × Int × Bool)) (h : Dimpl_reader_take_0 t15 b1000_0 b1000_1 b1000_2 = some r) : Wk Tryz.prog H YS 44 [.code (cp [1, 1] (bodyOf Tryz.f44))] (FinX Tryz.prog Tryz.f44 [(1000, ⟨true, 0, [.bad, .bad, .bad]⟩)] (.tup []) [(1000, ⟨true, 0, [.lit (.string r.1), i64 r.2.1, bl r.2.2]⟩)]) ⟨[(0, .ptr 1000 0), (15, bl t15)], [(1000, ⟨true, 0, [.lit (.string b1000_0), i64 b1000_1, bl b1000_2]⟩)]⟩ := by
  unfold Dimpl_reader_take_0 at h
  refine x_frk 0 [] onil h (by kernel_rfl) (fun h => ?_) (fun h => ?_)
  · replace h := Option.some.inj h; subst h
    exact x_end 10 [] [] onil onil (by kernel_rfl)
  · replace h := Option.some.inj h; subst h
    exact x_end 1 [] [] onil onil (by kernel_rfl)
def Dimpl_reader_take (a0 : (ByteArray × Int × Bool)) (a1 : Int) : Option (ByteArray × Int × Bool) :=
  (Dimpl_reader_peek a0).bind fun v0 => frk (v0.1 != a1) (some (v0.2.1, v0.2.2.1, true)) (Dimpl_reader_take_0 (!v0.2.2.2) v0.2.1 v0.2.2.1 v0.2.2.2)
theorem Timpl_reader_take (a0 : (ByteArray × Int × Bool)) (a1 : Int) (r : (ByteArray × Int × Bool)) (h : Dimpl_reader_take a0 a1 = some r) : Big Tryz.prog H YS (.call 44 [.ptr 1000 0, .lit (.int .u8 a1)] (lk [(1000, ⟨true, 0, [.lit (.string a0.1), i64 a0.2.1, bl a0.2.2]⟩)]) (.tup []) (lk [(1000, ⟨true, 0, [.lit (.string r.1), i64 r.2.1, bl r.2.2]⟩)])) := by
  unfold Dimpl_reader_take at h
  refine x_call (fn := Tryz.f44) (c := bodyOf Tryz.f44) (bs0 := [(1000, ⟨true, 0, [.bad, .bad, .bad]⟩)]) Tryz.func44 (by kernel_rfl) (by kernel_rfl) ?_
  obtain ⟨v0, hv0, h⟩ := bind_some h
  refine x_frk 8 [(1, .call [] [] (.lit (.int .u8 v0.1)) [(1000, ⟨true, 0, [.lit (.string v0.2.1), i64 v0.2.2.1, bl v0.2.2.2]⟩)])] (ocons (Timpl_reader_peek a0 _ hv0) onil) h (by kernel_rfl) (fun h => ?_) (fun h => ?_)
  · replace h := Option.some.inj h; subst h
    exact x_end 16 [] [] onil onil (by kernel_rfl)
  · exact x_to 9 [] onil (Timpl_reader_take_0 (!v0.2.2.2) v0.2.1 v0.2.2.1 v0.2.2.2 r h) (by kernel_rfl)
/-! impl.node -/
def Dimpl_nodeo1o2 (a0 : Pl) (a1 : Sol) (a2 : Sol) : Option Sol :=
  some (Sol.mk false a0 [a1, a2])
theorem Timpl_nodeo1o2 (a0 : Pl) (a1 : Sol) (a2 : Sol) (r : Sol) (h : Dimpl_nodeo1o2 a0 a1 a2 = some r) : Big Tryz.prog H YS (.call 45 [.agg [i64 a0.A, i64 a0.B, i64 a0.C, i64 a0.D], .agg [bl a1.inn, i64 a1.pl.A, i64 a1.pl.B, i64 a1.pl.C, i64 a1.pl.D, .sl true 6 a1.kids.length ((eSol true).f a1.kids)], .agg [bl a2.inn, i64 a2.pl.A, i64 a2.pl.B, i64 a2.pl.C, i64 a2.pl.D, .sl true 6 a2.kids.length ((eSol true).f a2.kids)]] (lk []) (.agg [bl r.inn, i64 r.pl.A, i64 r.pl.B, i64 r.pl.C, i64 r.pl.D, .sl true 6 r.kids.length ((eSol true).f r.kids)]) (lk [])) := by
  unfold Dimpl_nodeo1o2 at h
  refine x_call (fn := Tryz.f45) (c := bodyOf Tryz.f45) (bs0 := []) Tryz.func45 (by kernel_rfl) (by kernel_rfl) ?_
  replace h := Option.some.inj h; subst h
  exact x_end 17 [(8, .fixb 10 ⟨true, 6, (eSol true).f [a1, a2]⟩)] [] (ocons (boxSol true true [a1, a2]) onil) (ocons (len_row (L := [a1, a2]) (eSol true)) onil) (by kernel_rfl)
/-! impl.reader).tree -/
def Dimpl_reader_tree_0 (_n : Nat) (_self : ((ByteArray × Int × Bool) × Int) → Option (Sol × (ByteArray × Int × Bool))) (t5 : Int) (_b4_0 : Bool) (_b4_1 _b4_2 _b4_3 _b4_4 : Int) (b1000_0 : ByteArray) (b1000_1 : Int) (b1000_2 : Bool) : Option (Sol × (ByteArray × Int × Bool)) :=
  (Dimpl_Leaf (t5 == 35)).bind fun v1 => some (v1, (b1000_0, b1000_1, b1000_2))
theorem Timpl_reader_tree_0 (n : Nat) (self : ((ByteArray × Int × Bool) × Int) → Option (Sol × (ByteArray × Int × Bool))) (_hself : ∀ (a : ((ByteArray × Int × Bool) × Int)) (r : (Sol × (ByteArray × Int × Bool))), self a = some r → Big Tryz.prog H YS (.call 20 [.ptr 1000 0, i64 a.2] (lk [(1000, ⟨true, 0, [.lit (.string a.1.1), i64 a.1.2.1, bl a.1.2.2]⟩)]) (.agg [bl r.1.inn, i64 r.1.pl.A, i64 r.1.pl.B, i64 r.1.pl.C, i64 r.1.pl.D, .sl true 6 r.1.kids.length ((eSol true).f r.1.kids)]) (lk [(1000, ⟨true, 0, [.lit (.string r.2.1), i64 r.2.2.1, bl r.2.2.2]⟩)]))) (t5 : Int) (b4_0 : Bool) (b4_1 b4_2 b4_3 b4_4 : Int) (b1000_0 : ByteArray) (b1000_1 : Int) (b1000_2 : Bool) (r : (Sol × (ByteArray × Int × Bool))) (h : Dimpl_reader_tree_0 n self t5 b4_0 b4_1 b4_2 b4_3 b4_4 b1000_0 b1000_1 b1000_2 = some r) : Wk Tryz.prog H YS 20 [.code (cp [1, 0, 1, 0, 1, 0, 1, 0] (bodyOf Tryz.f20)), .code (cp [1, 0, 1, 0, 1, 0, 1, 1] (bodyOf Tryz.f20)), .blk 0, .code (cp [1, 1] (bodyOf Tryz.f20))] (FinX Tryz.prog Tryz.f20 [(1000, ⟨true, 0, [.bad, .bad, .bad]⟩)] (.agg [bl r.1.inn, i64 r.1.pl.A, i64 r.1.pl.B, i64 r.1.pl.C, i64 r.1.pl.D, .sl true 6 r.1.kids.length ((eSol true).f r.1.kids)]) [(1000, ⟨true, 0, [.lit (.string r.2.1), i64 r.2.2.1, bl r.2.2.2]⟩)]) ⟨[(4, .ptr 4 0), (5, .lit (.int .u8 t5))], [(4, ⟨true, 0, [bl b4_0, i64 b4_1, i64 b4_2, i64 b4_3, i64 b4_4, .nil]⟩), (1000, ⟨true, 0, [.lit (.string b1000_0), i64 b1000_1, bl b1000_2]⟩)]⟩ := by
  unfold Dimpl_reader_tree_0 at h
  obtain ⟨v1, hv1, h⟩ := bind_some h
  replace h := Option.some.inj h; subst h
  exact x_end 6 [(2, .call [] [] (.agg [bl v1.inn, i64 v1.pl.A, i64 v1.pl.B, i64 v1.pl.C, i64 v1.pl.D, .sl true 6 v1.kids.length ((eSol true).f v1.kids)]) [])] [] (ocons (Timpl_Leaf (t5 == 35) _ hv1) onil) onil (by kernel_rfl)
def Dimpl_reader_tree_2 (n : Nat) (self : ((ByteArray × Int × Bool) × Int) → Option (Sol × (ByteArray × Int × Bool))) (t1 : Int) (t29 _b4_0 : Bool) (_b4_1 _b4_2 _b4_3 _b4_4 : Int) (b1000_0 : ByteArray) (b1000_1 : Int) (b1000_2 : Bool) : Option (Sol × (ByteArray × Int × Bool)) :=
  frk t29 (some ((Sol.mk false (Pl.mk 0 0 0 0) []), (b1000_0, b1000_1, true))) ((Dimpl_reader_number n (b1000_0, w64 (b1000_1 + 1), b1000_2)).bind fun v3 => (Dimpl_reader_take v3.2 32).bind fun v4 => (Dimpl_reader_number n v4).bind fun v5 => (Dimpl_reader_take v5.2 32).bind fun v6 => (Dimpl_reader_number n v6).bind fun v7 => (Dimpl_reader_take v7.2 32).bind fun v8 => (Dimpl_reader_number n v8).bind fun v9 => (Dimpl_reader_take v9.2 32).bind fun v10 => frk v10.2.2 (some ((Sol.mk false (Pl.mk 0 0 0 0) []), v10)) ((self (v10, w64 (t1 + 1))).bind fun v11 => (Dimpl_reader_take v11.2 32).bind fun v12 => frk v12.2.2 (some ((Sol.mk false (Pl.mk 0 0 0 0) []), v12)) ((self (v12, w64 (t1 + 1))).bind fun v13 => (Dimpl_reader_take v13.2 41).bind fun v14 => (Dimpl_nodeo1o2 (Pl.mk v3.1 v5.1 v7.1 v9.1) v11.1 v13.1).bind fun v15 => some (v15, v14))))
theorem Timpl_reader_tree_2 (n : Nat) (self : ((ByteArray × Int × Bool) × Int) → Option (Sol × (ByteArray × Int × Bool))) (hself : ∀ (a : ((ByteArray × Int × Bool) × Int)) (r : (Sol × (ByteArray × Int × Bool))), self a = some r → Big Tryz.prog H YS (.call 20 [.ptr 1000 0, i64 a.2] (lk [(1000, ⟨true, 0, [.lit (.string a.1.1), i64 a.1.2.1, bl a.1.2.2]⟩)]) (.agg [bl r.1.inn, i64 r.1.pl.A, i64 r.1.pl.B, i64 r.1.pl.C, i64 r.1.pl.D, .sl true 6 r.1.kids.length ((eSol true).f r.1.kids)]) (lk [(1000, ⟨true, 0, [.lit (.string r.2.1), i64 r.2.2.1, bl r.2.2.2]⟩)]))) (t1 : Int) (t29 b4_0 : Bool) (b4_1 b4_2 b4_3 b4_4 : Int) (b1000_0 : ByteArray) (b1000_1 : Int) (b1000_2 : Bool) (r : (Sol × (ByteArray × Int × Bool))) (h : Dimpl_reader_tree_2 n self t1 t29 b4_0 b4_1 b4_2 b4_3 b4_4 b1000_0 b1000_1 b1000_2 = some r) : Wk Tryz.prog H YS 20 [.code (cp [1, 0, 1, 0, 1, 1, 1] (bodyOf Tryz.f20)), .blk 0, .code (cp [1, 1] (bodyOf Tryz.f20))] (FinX Tryz.prog Tryz.f20 [(1000, ⟨true, 0, [.bad, .bad, .bad]⟩)] (.agg [bl r.1.inn, i64 r.1.pl.A, i64 r.1.pl.B, i64 r.1.pl.C, i64 r.1.pl.D, .sl true 6 r.1.kids.length ((eSol true).f r.1.kids)]) [(1000, ⟨true, 0, [.lit (.string r.2.1), i64 r.2.2.1, bl r.2.2.2]⟩)]) ⟨[(0, .ptr 1000 0), (1, i64 t1), (4, .ptr 4 0), (29, bl t29)], [(4, ⟨true, 0, [bl b4_0, i64 b4_1, i64 b4_2, i64 b4_3, i64 b4_4, .nil]⟩), (1000, ⟨true, 0, [.lit (.string b1000_0), i64 b1000_1, bl b1000_2]⟩)]⟩ := by
  unfold Dimpl_reader_tree_2 at h
  refine x_frk 0 [] onil h (by kernel_rfl) (fun h => ?_) (fun h => ?_)
  · replace h := Option.some.inj h; subst h
    exact x_end 12 [] [(true, 6)] onil onil (by kernel_rfl)
  · obtain ⟨v3, hv3, h⟩ := bind_some h
    obtain ⟨v4, hv4, h⟩ := bind_some h
    obtain ⟨v5, hv5, h⟩ := bind_some h
    obtain ⟨v6, hv6, h⟩ := bind_some h
    obtain ⟨v7, hv7, h⟩ := bind_some h
    obtain ⟨v8, hv8, h⟩ := bind_some h
    obtain ⟨v9, hv9, h⟩ := bind_some h
    obtain ⟨v10, hv10, h⟩ := bind_some h
    refine x_frk 171 [(15, .call [] [] (i64 v3.1) [(1000, ⟨true, 0, [.lit (.string v3.2.1), i64 v3.2.2.1, bl v3.2.2.2]⟩)]), (3, .call [] [] (.tup []) [(1000, ⟨true, 0, [.lit (.string v4.1), i64 v4.2.1, bl v4.2.2]⟩)]), (7, .call [] [] (i64 v5.1) [(1000, ⟨true, 0, [.lit (.string v5.2.1), i64 v5.2.2.1, bl v5.2.2.2]⟩)]), (3, .call [] [] (.tup []) [(1000, ⟨true, 0, [.lit (.string v6.1), i64 v6.2.1, bl v6.2.2]⟩)]), (7, .call [] [] (i64 v7.1) [(1000, ⟨true, 0, [.lit (.string v7.2.1), i64 v7.2.2.1, bl v7.2.2.2]⟩)]), (3, .call [] [] (.tup []) [(1000, ⟨true, 0, [.lit (.string v8.1), i64 v8.2.1, bl v8.2.2]⟩)]), (7, .call [] [] (i64 v9.1) [(1000, ⟨true, 0, [.lit (.string v9.2.1), i64 v9.2.2.1, bl v9.2.2.2]⟩)]), (3, .call [] [] (.tup []) [(1000, ⟨true, 0, [.lit (.string v10.1), i64 v10.2.1, bl v10.2.2]⟩)])] (ocons (Timpl_reader_number n (b1000_0, w64 (b1000_1 + 1), b1000_2) _ hv3) (ocons (Timpl_reader_take v3.2 32 _ hv4) (ocons (Timpl_reader_number n v4 _ hv5) (ocons (Timpl_reader_take v5.2 32 _ hv6) (ocons (Timpl_reader_number n v6 _ hv7) (ocons (Timpl_reader_take v7.2 32 _ hv8) (ocons (Timpl_reader_number n v8 _ hv9) (ocons (Timpl_reader_take v9.2 32 _ hv10) onil)))))))) h (by kernel_rfl) (fun h => ?_) (fun h => ?_)
    · replace h := Option.some.inj h; subst h
      exact x_end 5 [] [(true, 6)] onil onil (by kernel_rfl)
    · obtain ⟨v11, hv11, h⟩ := bind_some h
      obtain ⟨v12, hv12, h⟩ := bind_some h
      refine x_frk 23 [(3, .call [] [] (.agg [bl v11.1.inn, i64 v11.1.pl.A, i64 v11.1.pl.B, i64 v11.1.pl.C, i64 v11.1.pl.D, .sl true 6 v11.1.kids.length ((eSol true).f v11.1.kids)]) [(1000, ⟨true, 0, [.lit (.string v11.2.1), i64 v11.2.2.1, bl v11.2.2.2]⟩)]), (3, .call [] [] (.tup []) [(1000, ⟨true, 0, [.lit (.string v12.1), i64 v12.2.1, bl v12.2.2]⟩)])] (ocons (hself (v10, w64 (t1 + 1)) _ hv11) (ocons (Timpl_reader_take v11.2 32 _ hv12) onil)) h (by kernel_rfl) (fun h => ?_) (fun h => ?_)
      · replace h := Option.some.inj h; subst h
        exact x_end 5 [] [(true, 6)] onil onil (by kernel_rfl)
      · obtain ⟨v13, hv13, h⟩ := bind_some h
        obtain ⟨v14, hv14, h⟩ := bind_some h
        obtain ⟨v15, hv15, h⟩ := bind_some h
        replace h := Option.some.inj h; subst h
        exact x_end 31 [(3, .call [] [] (.agg [bl v13.1.inn, i64 v13.1.pl.A, i64 v13.1.pl.B, i64 v13.1.pl.C, i64 v13.1.pl.D, .sl true 6 v13.1.kids.length ((eSol true).f v13.1.kids)]) [(1000, ⟨true, 0, [.lit (.string v13.2.1), i64 v13.2.2.1, bl v13.2.2.2]⟩)]), (3, .call [] [] (.tup []) [(1000, ⟨true, 0, [.lit (.string v14.1), i64 v14.2.1, bl v14.2.2]⟩)]), (11, .call [] [] (.agg [bl v15.inn, i64 v15.pl.A, i64 v15.pl.B, i64 v15.pl.C, i64 v15.pl.D, .sl true 6 v15.kids.length ((eSol true).f v15.kids)]) [])] [] (ocons (hself (v12, w64 (t1 + 1)) _ hv13) (ocons (Timpl_reader_take v13.2 41 _ hv14) (ocons (Timpl_nodeo1o2 (Pl.mk v3.1 v5.1 v7.1 v9.1) v11.1 v13.1 _ hv15) onil))) onil (by kernel_rfl)
def Dimpl_reader_tree_1 (n : Nat) (self : ((ByteArray × Int × Bool) × Int) → Option (Sol × (ByteArray × Int × Bool))) (t1 t5 : Int) (t12 b4_0 : Bool) (b4_1 b4_2 b4_3 b4_4 : Int) (b1000_0 : ByteArray) (b1000_1 : Int) (b1000_2 : Bool) : Option (Sol × (ByteArray × Int × Bool)) :=
  frk t12 ((Dimpl_Leaf (t5 == 35)).bind fun v2 => some (v2, (b1000_0, w64 (b1000_1 + 1), b1000_2))) (frk (t5 != 40) (some ((Sol.mk false (Pl.mk 0 0 0 0) []), (b1000_0, b1000_1, true))) (Dimpl_reader_tree_2 n self t1 (decide (t1 ≥ 24)) b4_0 b4_1 b4_2 b4_3 b4_4 b1000_0 b1000_1 b1000_2))
theorem Timpl_reader_tree_1 (n : Nat) (self : ((ByteArray × Int × Bool) × Int) → Option (Sol × (ByteArray × Int × Bool))) (hself : ∀ (a : ((ByteArray × Int × Bool) × Int)) (r : (Sol × (ByteArray × Int × Bool))), self a = some r → Big Tryz.prog H YS (.call 20 [.ptr 1000 0, i64 a.2] (lk [(1000, ⟨true, 0, [.lit (.string a.1.1), i64 a.1.2.1, bl a.1.2.2]⟩)]) (.agg [bl r.1.inn, i64 r.1.pl.A, i64 r.1.pl.B, i64 r.1.pl.C, i64 r.1.pl.D, .sl true 6 r.1.kids.length ((eSol true).f r.1.kids)]) (lk [(1000, ⟨true, 0, [.lit (.string r.2.1), i64 r.2.2.1, bl r.2.2.2]⟩)]))) (t1 t5 : Int) (t12 b4_0 : Bool) (b4_1 b4_2 b4_3 b4_4 : Int) (b1000_0 : ByteArray) (b1000_1 : Int) (b1000_2 : Bool) (r : (Sol × (ByteArray × Int × Bool))) (h : Dimpl_reader_tree_1 n self t1 t5 t12 b4_0 b4_1 b4_2 b4_3 b4_4 b1000_0 b1000_1 b1000_2 = some r) : Wk Tryz.prog H YS 20 [.code (cp [1, 0, 1, 0, 1] (bodyOf Tryz.f20)), .blk 0, .code (cp [1, 1] (bodyOf Tryz.f20))] (FinX Tryz.prog Tryz.f20 [(1000, ⟨true, 0, [.bad, .bad, .bad]⟩)] (.agg [bl r.1.inn, i64 r.1.pl.A, i64 r.1.pl.B, i64 r.1.pl.C, i64 r.1.pl.D, .sl true 6 r.1.kids.length ((eSol true).f r.1.kids)]) [(1000, ⟨true, 0, [.lit (.string r.2.1), i64 r.2.2.1, bl r.2.2.2]⟩)]) ⟨[(0, .ptr 1000 0), (1, i64 t1), (4, .ptr 4 0), (5, .lit (.int .u8 t5)), (12, bl t12)], [(4, ⟨true, 0, [bl b4_0, i64 b4_1, i64 b4_2, i64 b4_3, i64 b4_4, .nil]⟩), (1000, ⟨true, 0, [.lit (.string b1000_0), i64 b1000_1, bl b1000_2]⟩)]⟩ := by
  unfold Dimpl_reader_tree_1 at h
  refine x_frk 0 [] onil h (by kernel_rfl) (fun h => ?_) (fun h => ?_)
  · obtain ⟨v2, hv2, h⟩ := bind_some h
    replace h := Option.some.inj h; subst h
    exact x_end 18 [(10, .call [] [] (.agg [bl v2.inn, i64 v2.pl.A, i64 v2.pl.B, i64 v2.pl.C, i64 v2.pl.D, .sl true 6 v2.kids.length ((eSol true).f v2.kids)]) [])] [] (ocons (Timpl_Leaf (t5 == 35) _ hv2) onil) onil (by kernel_rfl)
  · refine x_frk 5 [] onil h (by kernel_rfl) (fun h => ?_) (fun h => ?_)
    · replace h := Option.some.inj h; subst h
      exact x_end 18 [] [(true, 6)] onil onil (by kernel_rfl)
    · exact x_to 5 [] onil (Timpl_reader_tree_2 n self hself t1 (decide (t1 ≥ 24)) b4_0 b4_1 b4_2 b4_3 b4_4 b1000_0 b1000_1 b1000_2 r h) (by kernel_rfl)
def Dimpl_reader_tree_b (n : Nat) (self : ((ByteArray × Int × Bool) × Int) → Option (Sol × (ByteArray × Int × Bool))) (a : ((ByteArray × Int × Bool) × Int)) : Option (Sol × (ByteArray × Int × Bool)) :=
  match a with
  | (a0, a1) => (Dimpl_reader_peek a0).bind fun v0 => frk (v0.1 == 35) (Dimpl_reader_tree_0 n self v0.1 false 0 0 0 0 v0.2.1 (w64 (v0.2.2.1 + 1)) v0.2.2.2) (Dimpl_reader_tree_1 n self a1 v0.1 (v0.1 == 46) false 0 0 0 0 v0.2.1 v0.2.2.1 v0.2.2.2)
def Dimpl_reader_tree (n : Nat) (a0 : (ByteArray × Int × Bool)) (a1 : Int) : Option (Sol × (ByteArray × Int × Bool)) := loopN (Dimpl_reader_tree_b n) n (a0, a1)
theorem Timpl_reader_tree_b (n : Nat) : ∀ (m : Nat) (a : ((ByteArray × Int × Bool) × Int)) (r : (Sol × (ByteArray × Int × Bool))), loopN (Dimpl_reader_tree_b n) m a = some r → ∀ (_ : Unit), Big Tryz.prog H YS (.call 20 [.ptr 1000 0, i64 a.2] (lk [(1000, ⟨true, 0, [.lit (.string a.1.1), i64 a.1.2.1, bl a.1.2.2]⟩)]) (.agg [bl r.1.inn, i64 r.1.pl.A, i64 r.1.pl.B, i64 r.1.pl.C, i64 r.1.pl.D, .sl true 6 r.1.kids.length ((eSol true).f r.1.kids)]) (lk [(1000, ⟨true, 0, [.lit (.string r.2.1), i64 r.2.2.1, bl r.2.2.2]⟩)])) := by
  refine loopN_ind (fun self hs a r h => ?_)
  have hself : ∀ (a : ((ByteArray × Int × Bool) × Int)) (r : (Sol × (ByteArray × Int × Bool))), self a = some r → Big Tryz.prog H YS (.call 20 [.ptr 1000 0, i64 a.2] (lk [(1000, ⟨true, 0, [.lit (.string a.1.1), i64 a.1.2.1, bl a.1.2.2]⟩)]) (.agg [bl r.1.inn, i64 r.1.pl.A, i64 r.1.pl.B, i64 r.1.pl.C, i64 r.1.pl.D, .sl true 6 r.1.kids.length ((eSol true).f r.1.kids)]) (lk [(1000, ⟨true, 0, [.lit (.string r.2.1), i64 r.2.2.1, bl r.2.2.2]⟩)])) := fun a r h => hs a r h ()
  intro _
  obtain ⟨a0, a1⟩ := a
  unfold Dimpl_reader_tree_b at h
  refine x_call (fn := Tryz.f20) (c := bodyOf Tryz.f20) (bs0 := [(1000, ⟨true, 0, [.bad, .bad, .bad]⟩)]) Tryz.func20 (by kernel_rfl) (by kernel_rfl) ?_
  obtain ⟨v0, hv0, h⟩ := bind_some h
  refine x_frk 17 [(2, .call [] [] (.lit (.int .u8 v0.1)) [(1000, ⟨true, 0, [.lit (.string v0.2.1), i64 v0.2.2.1, bl v0.2.2.2]⟩)])] (ocons (Timpl_reader_peek a0 _ hv0) onil) h (by kernel_rfl) (fun h => ?_) (fun h => ?_)
  · exact x_to 18 [] onil (Timpl_reader_tree_0 n self hself v0.1 false 0 0 0 0 v0.2.1 (w64 (v0.2.2.1 + 1)) v0.2.2.2 r h) (by kernel_rfl)
  · exact x_to 5 [] onil (Timpl_reader_tree_1 n self hself a1 v0.1 (v0.1 == 46) false 0 0 0 0 v0.2.1 v0.2.2.1 v0.2.2.2 r h) (by kernel_rfl)
theorem Timpl_reader_tree (n : Nat) (a0 : (ByteArray × Int × Bool)) (a1 : Int) (r : (Sol × (ByteArray × Int × Bool))) (h : Dimpl_reader_tree n a0 a1 = some r) : Big Tryz.prog H YS (.call 20 [.ptr 1000 0, i64 a1] (lk [(1000, ⟨true, 0, [.lit (.string a0.1), i64 a0.2.1, bl a0.2.2]⟩)]) (.agg [bl r.1.inn, i64 r.1.pl.A, i64 r.1.pl.B, i64 r.1.pl.C, i64 r.1.pl.D, .sl true 6 r.1.kids.length ((eSol true).f r.1.kids)]) (lk [(1000, ⟨true, 0, [.lit (.string r.2.1), i64 r.2.2.1, bl r.2.2.2]⟩)])) := Timpl_reader_tree_b n n (a0, a1) r h ()
/-! impl.ParseSolid -/
def Dimpl_ParseSolid_0 (n : Nat) (t9 _b2_0 : Bool) (_b2_1 _b2_2 _b2_3 _b2_4 : Int) (_b4_0 : ByteArray) (b4_1 : Int) (_b4_2 b5_0 : Bool) (b5_1 b5_2 b5_3 b5_4 : Int) (b5_5 : List Sol) : Option (Sol × Int) :=
  frk t9 (some ((Sol.mk false (Pl.mk 0 0 0 0) []), b4_1)) ((Dimpl_SolidOk n (Sol.mk b5_0 (Pl.mk b5_1 b5_2 b5_3 b5_4) b5_5)).bind fun v1 => frk (!v1) (some ((Sol.mk false (Pl.mk 0 0 0 0) []), 0)) (some ((Sol.mk b5_0 (Pl.mk b5_1 b5_2 b5_3 b5_4) b5_5), (-1))))
theorem Timpl_ParseSolid_0 (n : Nat) (t9 b2_0 : Bool) (b2_1 b2_2 b2_3 b2_4 : Int) (b4_0 : ByteArray) (b4_1 : Int) (b4_2 b5_0 : Bool) (b5_1 b5_2 b5_3 b5_4 : Int) (b5_5 : List Sol) (r : (Sol × Int)) (h : Dimpl_ParseSolid_0 n t9 b2_0 b2_1 b2_2 b2_3 b2_4 b4_0 b4_1 b4_2 b5_0 b5_1 b5_2 b5_3 b5_4 b5_5 = some r) : Wk Tryz.prog H YS 7 [.code (cp [1, 1, 1, 0, 0, 1] (bodyOf Tryz.f7)), .blk 0, .code (cp [1, 1, 1, 1] (bodyOf Tryz.f7))] (FinX Tryz.prog Tryz.f7 [] (.tup [.agg [bl r.1.inn, i64 r.1.pl.A, i64 r.1.pl.B, i64 r.1.pl.C, i64 r.1.pl.D, .sl true 6 r.1.kids.length ((eSol true).f r.1.kids)], i64 r.2]) []) ⟨[(2, .ptr 2 0), (4, .ptr 4 0), (5, .ptr 5 0), (9, bl t9)], [(2, ⟨true, 0, [bl b2_0, i64 b2_1, i64 b2_2, i64 b2_3, i64 b2_4, .nil]⟩), (4, ⟨true, 0, [.lit (.string b4_0), i64 b4_1, bl b4_2]⟩), (5, ⟨true, 0, [bl b5_0, i64 b5_1, i64 b5_2, i64 b5_3, i64 b5_4, .sl true 6 b5_5.length ((eSol true).f b5_5)]⟩)]⟩ := by
  unfold Dimpl_ParseSolid_0 at h
  refine x_frk 0 [] onil h (by kernel_rfl) (fun h => ?_) (fun h => ?_)
  · replace h := Option.some.inj h; subst h
    exact x_end 8 [] [(true, 6)] onil onil (by kernel_rfl)
  · obtain ⟨v1, hv1, h⟩ := bind_some h
    refine x_frk 7 [(0, .rows [(eSol false).f b5_5]), (0, .call [] [] (bl v1) [])] (ocons (Enc.share (eSol true) (eSol false) (sSol true) b5_5) (ocons (Timpl_SolidOk n (Sol.mk b5_0 (Pl.mk b5_1 b5_2 b5_3 b5_4) b5_5) _ hv1) onil)) h (by kernel_rfl) (fun h => ?_) (fun h => ?_)
    · replace h := Option.some.inj h; subst h
      exact x_end 6 [] [(true, 6)] onil onil (by kernel_rfl)
    · replace h := Option.some.inj h; subst h
      exact x_end 8 [] [] onil onil (by kernel_rfl)
def Dimpl_ParseSolid (n : Nat) (a0 : ByteArray) : Option (Sol × Int) :=
  (Dimpl_reader_tree n (a0, 0, false) 0).bind fun v0 => frk v0.2.2.2 (some ((Sol.mk false (Pl.mk 0 0 0 0) []), v0.2.2.1)) (Dimpl_ParseSolid_0 n (decide (v0.2.2.1 < (a0.size : Int))) false 0 0 0 0 v0.2.1 v0.2.2.1 v0.2.2.2 v0.1.inn v0.1.pl.A v0.1.pl.B v0.1.pl.C v0.1.pl.D v0.1.kids)
theorem Timpl_ParseSolid (n : Nat) (a0 : ByteArray) (r : (Sol × Int)) (h : Dimpl_ParseSolid n a0 = some r) : Big Tryz.prog H YS (.call 7 [.lit (.string a0)] (lk []) (.tup [.agg [bl r.1.inn, i64 r.1.pl.A, i64 r.1.pl.B, i64 r.1.pl.C, i64 r.1.pl.D, .sl true 6 r.1.kids.length ((eSol true).f r.1.kids)], i64 r.2]) (lk [])) := by
  unfold Dimpl_ParseSolid at h
  refine x_call (fn := Tryz.f7) (c := bodyOf Tryz.f7) (bs0 := []) Tryz.func7 (by kernel_rfl) (by kernel_rfl) ?_
  obtain ⟨v0, hv0, h⟩ := bind_some h
  refine x_frk 25 [(6, .call [] [] (.agg [bl v0.1.inn, i64 v0.1.pl.A, i64 v0.1.pl.B, i64 v0.1.pl.C, i64 v0.1.pl.D, .sl true 6 v0.1.kids.length ((eSol true).f v0.1.kids)]) [(1000, ⟨true, 0, [.lit (.string v0.2.1), i64 v0.2.2.1, bl v0.2.2.2]⟩)])] (ocons (Timpl_reader_tree n (a0, 0, false) 0 _ hv0) onil) h (by kernel_rfl) (fun h => ?_) (fun h => ?_)
  · replace h := Option.some.inj h; subst h
    exact x_end 17 [] [(true, 6)] onil onil (by kernel_rfl)
  · exact x_to 8 [] onil (Timpl_ParseSolid_0 n (decide (v0.2.2.1 < (a0.size : Int))) false 0 0 0 0 v0.2.1 v0.2.2.1 v0.2.2.2 v0.1.inn v0.1.pl.A v0.1.pl.B v0.1.pl.C v0.1.pl.D v0.1.kids r h) (by kernel_rfl)
/-! impl.Solid] -/
def Dslices_EqualFuncfimpl_SameTree_in_0 (_n : Nat) (self : (Sol × Sol) → Option Bool) (t1 t15 : List Sol) (t16 : Int) (rec0 : Int → Option Bool) (a : Int) : Option Bool :=
  match a with
  | t17 => frk (decide (t17 < t16)) ((lget t15 t17).bind fun v0 => (lget t1 t17).bind fun v1 => (self (v0, v1)).bind fun v2 => frk (!v2) (some false) (rec0 (w64 (t17 + 1)))) (some true)
theorem Tslices_EqualFuncfimpl_SameTree_in_0 (n : Nat) (self : (Sol × Sol) → Option Bool) (hself : ∀ (a : (Sol × Sol)) (r : Bool), self a = some r → Big Tryz.prog H YS (.call 8 [.agg [bl a.1.inn, i64 a.1.pl.A, i64 a.1.pl.B, i64 a.1.pl.C, i64 a.1.pl.D, .sl false 6 a.1.kids.length ((eSol false).f a.1.kids)], .agg [bl a.2.inn, i64 a.2.pl.A, i64 a.2.pl.B, i64 a.2.pl.C, i64 a.2.pl.D, .sl false 6 a.2.kids.length ((eSol false).f a.2.kids)]] (lk []) (bl r) (lk []))) (t1 t15 : List Sol) (t16 : Int) : ∀ (m : Nat) (a : Int) (r : Bool), loopN (Dslices_EqualFuncfimpl_SameTree_in_0 n self t1 t15 t16) m a = some r → Wk Tryz.prog H YS 21 [.code (cp [1, 1, 0, 1, 0] (bodyOf Tryz.f21)), .blk 0, .code (cp [1, 1, 1] (bodyOf Tryz.f21))] (FinX Tryz.prog Tryz.f21 [] (bl r) []) ⟨[(1, .sl false 6 t1.length ((eSol false).f t1)), (2, .lit (.func (.func 8) #[] #[])), (15, .sl false 6 t15.length ((eSol false).f t15)), (16, i64 t16), (17, i64 a)], []⟩ := by
  refine loopN_ind (fun _rec0 hrec0 a r h => ?_)
  obtain ⟨t17, rfl⟩ : ∃ x, x = a := ⟨a, rfl⟩
  unfold Dslices_EqualFuncfimpl_SameTree_in_0 at h
  refine x_frk 6 [] onil h (by kernel_rfl) (fun h => ?_) (fun h => ?_)
  · obtain ⟨v0, hv0, h⟩ := bind_some h
    obtain ⟨v1, hv1, h⟩ := bind_some h
    obtain ⟨v2, hv2, h⟩ := bind_some h
    refine x_frk 29 [(1, .val (.cptr ((eSol false).c v0 ++ (eSol false).f ((t15).drop (Int.toNat t17 + 1))))), (6, .val (.cptr ((eSol false).c v1 ++ (eSol false).f ((t1).drop (Int.toNat t17 + 1))))), (6, .call [] [] (bl v2) [])] (ocons (ix (eSol false) hv0) (ocons (ix (eSol false) hv1) (ocons (hself (v0, v1) _ hv2) onil))) h (by kernel_rfl) (fun h => ?_) (fun h => ?_)
    · replace h := Option.some.inj h; subst h
      exact x_end 4 [] [] onil onil (by kernel_rfl)
    · exact x_to 7 [] onil (hrec0 (w64 (t17 + 1)) r h) (by kernel_rfl)
  · replace h := Option.some.inj h; subst h
    exact x_end 5 [] [] onil onil (by kernel_rfl)
def Dslices_EqualFuncfimpl_SameTree_in (n : Nat) (self : (Sol × Sol) → Option Bool) (a0 : (List Sol)) (a1 : (List Sol)) : Option Bool :=
  frk ((a0.length : Int) != (a1.length : Int)) (some false) (loopN (Dslices_EqualFuncfimpl_SameTree_in_0 n self a1 a0 (a0.length : Int)) n 0)
theorem Tslices_EqualFuncfimpl_SameTree_in (n : Nat) (self : (Sol × Sol) → Option Bool) (hself : ∀ (a : (Sol × Sol)) (r : Bool), self a = some r → Big Tryz.prog H YS (.call 8 [.agg [bl a.1.inn, i64 a.1.pl.A, i64 a.1.pl.B, i64 a.1.pl.C, i64 a.1.pl.D, .sl false 6 a.1.kids.length ((eSol false).f a.1.kids)], .agg [bl a.2.inn, i64 a.2.pl.A, i64 a.2.pl.B, i64 a.2.pl.C, i64 a.2.pl.D, .sl false 6 a.2.kids.length ((eSol false).f a.2.kids)]] (lk []) (bl r) (lk []))) (a0 : (List Sol)) (a1 : (List Sol)) (r : Bool) (h : Dslices_EqualFuncfimpl_SameTree_in n self a0 a1 = some r) : Big Tryz.prog H YS (.call 21 [.sl false 6 a0.length ((eSol false).f a0), .sl false 6 a1.length ((eSol false).f a1), .lit (.func (.func 8) #[] #[])] (lk []) (bl r) (lk [])) := by
  unfold Dslices_EqualFuncfimpl_SameTree_in at h
  refine x_call (fn := Tryz.f21) (c := bodyOf Tryz.f21) (bs0 := []) Tryz.func21 (by kernel_rfl) (by kernel_rfl) ?_
  refine x_frk 13 [] onil h (by kernel_rfl) (fun h => ?_) (fun h => ?_)
  · replace h := Option.some.inj h; subst h
    exact x_end 4 [] [] onil onil (by kernel_rfl)
  · exact x_to 9 [] onil (Tslices_EqualFuncfimpl_SameTree_in_0 n self hself a1 a0 (a0.length : Int) n 0 r h) (by kernel_rfl)
/-! impl.SameTree -/
def Dimpl_SameTree_b (n : Nat) (self : (Sol × Sol) → Option Bool) (a : (Sol × Sol)) : Option Bool :=
  match a with
  | (a0, a1) => frk (a0.inn == a1.inn) (frk (a0.pl.A == a1.pl.A && (a0.pl.B == a1.pl.B && (a0.pl.C == a1.pl.C && (a0.pl.D == a1.pl.D && true)))) ((Dslices_EqualFuncfimpl_SameTree_in n self a0.kids a1.kids).bind fun v0 => some v0) (some false)) (some false)
def Dimpl_SameTree (n : Nat) (a0 : Sol) (a1 : Sol) : Option Bool := loopN (Dimpl_SameTree_b n) n (a0, a1)
theorem Timpl_SameTree_b (n : Nat) : ∀ (m : Nat) (a : (Sol × Sol)) (r : Bool), loopN (Dimpl_SameTree_b n) m a = some r → ∀ (_ : Unit), Big Tryz.prog H YS (.call 8 [.agg [bl a.1.inn, i64 a.1.pl.A, i64 a.1.pl.B, i64 a.1.pl.C, i64 a.1.pl.D, .sl false 6 a.1.kids.length ((eSol false).f a.1.kids)], .agg [bl a.2.inn, i64 a.2.pl.A, i64 a.2.pl.B, i64 a.2.pl.C, i64 a.2.pl.D, .sl false 6 a.2.kids.length ((eSol false).f a.2.kids)]] (lk []) (bl r) (lk [])) := by
  refine loopN_ind (fun self hs a r h => ?_)
  have hself : ∀ (a : (Sol × Sol)) (r : Bool), self a = some r → Big Tryz.prog H YS (.call 8 [.agg [bl a.1.inn, i64 a.1.pl.A, i64 a.1.pl.B, i64 a.1.pl.C, i64 a.1.pl.D, .sl false 6 a.1.kids.length ((eSol false).f a.1.kids)], .agg [bl a.2.inn, i64 a.2.pl.A, i64 a.2.pl.B, i64 a.2.pl.C, i64 a.2.pl.D, .sl false 6 a.2.kids.length ((eSol false).f a.2.kids)]] (lk []) (bl r) (lk [])) := fun a r h => hs a r h ()
  intro _
  obtain ⟨a0, a1⟩ := a
  unfold Dimpl_SameTree_b at h
  refine x_call (fn := Tryz.f8) (c := bodyOf Tryz.f8) (bs0 := []) Tryz.func8 (by kernel_rfl) (by kernel_rfl) ?_
  refine x_frk 14 [] onil h (by kernel_rfl) (fun h => ?_) (fun h => ?_)
  · refine x_frk 7 [] onil h (by kernel_rfl) (fun h => ?_) (fun h => ?_)
    · obtain ⟨v0, hv0, h⟩ := bind_some h
      replace h := Option.some.inj h; subst h
      exact x_end 8 [(4, .call [] [] (bl v0) [])] [] (ocons (Tslices_EqualFuncfimpl_SameTree_in n self hself a0.kids a1.kids _ hv0) onil) onil (by kernel_rfl)
    · replace h := Option.some.inj h; subst h
      exact x_end 8 [] [] onil onil (by kernel_rfl)
  · replace h := Option.some.inj h; subst h
    exact x_end 15 [] [] onil onil (by kernel_rfl)
theorem Timpl_SameTree (n : Nat) (a0 : Sol) (a1 : Sol) (r : Bool) (h : Dimpl_SameTree n a0 a1 = some r) : Big Tryz.prog H YS (.call 8 [.agg [bl a0.inn, i64 a0.pl.A, i64 a0.pl.B, i64 a0.pl.C, i64 a0.pl.D, .sl false 6 a0.kids.length ((eSol false).f a0.kids)], .agg [bl a1.inn, i64 a1.pl.A, i64 a1.pl.B, i64 a1.pl.C, i64 a1.pl.D, .sl false 6 a1.kids.length ((eSol false).f a1.kids)]] (lk []) (bl r) (lk [])) := Timpl_SameTree_b n n (a0, a1) r h ()
/-! impl.Plane] -/
def Dslices_Clone (a0 : (List Pl)) : Option (List Pl) :=
  chk (apB 32 (0 + a0.length)) (some ([] ++ a0))
theorem Tslices_Clone (a0 : (List Pl)) (r : (List Pl)) (h : Dslices_Clone a0 = some r) : Big Tryz.prog H YS (.call 46 [.sl false 4 a0.length ((ePl).f a0)] (lk []) (.sl true 4 r.length ((ePl).f r)) (lk [])) := by
  unfold Dslices_Clone at h
  refine x_clone (fn := Tryz.f46) (c := bodyOf Tryz.f46) 0 3 4 (lq := ⟨[(2, .nil), (0, .sl false 4 a0.length ((ePl).f a0))], []⟩) (z := 4) (ct := a0.length) (cs := (ePl).f a0) Tryz.func46 (by kernel_rfl) (by kernel_rfl) (x_at 3 (by kernel_rfl)) (fun b hb => ?_)
  cases b
  · obtain ⟨c0, h⟩ := chk_some h
    replace h := Option.some.inj h; subst h
    exact x_end 9 [(2, .app false (List.length ([] ++ a0)) ((ePl).f ([] ++ a0)))] [] (ocons (len_row' (L := []) ePl) (ocons (app_one (L := []) (M := a0) ePl c0) (ocons (app_new (L := []) (M := a0) ePl) (ocons (app_m (L := []) (M := a0) ePl rfl) (ocons (len_row' (L := a0) ePl) onil))))) (ocons (len_row (L := ([] ++ a0)) ePl) onil) (by kernel_rfl)
  · have h0 : a0 = [] := List.eq_nil_of_length_eq_zero (hb rfl)
    subst h0
    replace h : some [] = some r := h
    replace h := Option.some.inj h; subst h
    exact x_end 5 [] [(true, 4)] onil onil (by kernel_rfl)
/-! impl.Solid).cells -/
def Dimpl_Solid_cells_b (_n : Nat) (self : (Sol × Bool × (List Pl)) → Option (List (List Pl))) (a : (Sol × Bool × (List Pl))) : Option (List (List Pl)) :=
  match a with
  | (a0, a1, a2) => (Dimpl_Solid_isLeaf a0).bind fun v0 => frk v0 (frk (a0.inn == a1) ((Dslices_Clone a2).bind fun v1 => some [v1]) (some [])) ((lget a0.kids 0).bind fun v2 => (Dimpl_with a2 a0.pl).bind fun v3 => (self (v2, a1, v3)).bind fun v4 => (lget a0.kids 1).bind fun v5 => (Dimpl_flip a0.pl).bind fun v6 => (Dimpl_with a2 v6).bind fun v7 => (self (v5, a1, v7)).bind fun v8 => chk (apB 24 (v4.length + v8.length)) (some (v4 ++ v8)))
def Dimpl_Solid_cells (n : Nat) (a0 : Sol) (a1 : Bool) (a2 : (List Pl)) : Option (List (List Pl)) := loopN (Dimpl_Solid_cells_b n) n (a0, a1, a2)
theorem Timpl_Solid_cells_b (n : Nat) : ∀ (m : Nat) (a : (Sol × Bool × (List Pl))) (r : (List (List Pl))), loopN (Dimpl_Solid_cells_b n) m a = some r → ∀ (q0 : List AV), Big Tryz.prog H YS (.call 22 [.cptr ([bl a.1.inn, i64 a.1.pl.A, i64 a.1.pl.B, i64 a.1.pl.C, i64 a.1.pl.D, .sl false 6 a.1.kids.length ((eSol false).f a.1.kids)] ++ q0), bl a.2.1, .sl false 4 a.2.2.length ((ePl).f a.2.2)] (lk []) (.sl true 1 r.length ((ePls true).f r)) (lk [])) := by
  refine loopN_ind (fun self hs a r h => ?_)
  have hself : ∀ (a : (Sol × Bool × (List Pl))) (q0 : List AV) (r : (List (List Pl))), self a = some r → Big Tryz.prog H YS (.call 22 [.cptr ([bl a.1.inn, i64 a.1.pl.A, i64 a.1.pl.B, i64 a.1.pl.C, i64 a.1.pl.D, .sl false 6 a.1.kids.length ((eSol false).f a.1.kids)] ++ q0), bl a.2.1, .sl false 4 a.2.2.length ((ePl).f a.2.2)] (lk []) (.sl true 1 r.length ((ePls true).f r)) (lk [])) := fun a q0 r h => hs a r h q0
  intro q0
  obtain ⟨a0, a1, a2⟩ := a
  unfold Dimpl_Solid_cells_b at h
  refine x_call (fn := Tryz.f22) (c := bodyOf Tryz.f22) (bs0 := []) Tryz.func22 (by kernel_rfl) (by kernel_rfl) ?_
  obtain ⟨v0, hv0, h⟩ := bind_some h
  refine x_frk 10 [(2, .call [] [] (bl v0) [])] (ocons (Timpl_Solid_isLeaf a0 q0 _ hv0) onil) h (by kernel_rfl) (fun h => ?_) (fun h => ?_)
  · refine x_frk 10 [] onil h (by kernel_rfl) (fun h => ?_) (fun h => ?_)
    · obtain ⟨v1, hv1, h⟩ := bind_some h
      replace h := Option.some.inj h; subst h
      exact x_end 7 [(1, .call [] [] (.sl true 4 v1.length ((ePl).f v1)) [])] [] (ocons (Tslices_Clone a2 _ hv1) (ocons (len_row (L := v1) ePl) onil)) (ocons (len_row (L := [v1]) (ePls true)) onil) (by kernel_rfl)
    · replace h := Option.some.inj h; subst h
      exact x_end 5 [] [(true, 1)] onil onil (by kernel_rfl)
  · obtain ⟨v2, hv2, h⟩ := bind_some h
    obtain ⟨v3, hv3, h⟩ := bind_some h
    obtain ⟨v4, hv4, h⟩ := bind_some h
    obtain ⟨v5, hv5, h⟩ := bind_some h
    obtain ⟨v6, hv6, h⟩ := bind_some h
    obtain ⟨v7, hv7, h⟩ := bind_some h
    obtain ⟨v8, hv8, h⟩ := bind_some h
    obtain ⟨c9, h⟩ := chk_some h
    replace h := Option.some.inj h; subst h
    exact x_end 38 [(4, .val (.cptr ((eSol false).c v2 ++ (eSol false).f ((a0.kids).drop (Int.toNat 0 + 1))))), (6, .call [] [] (.sl false 4 v3.length ((ePl).f v3)) []), (0, .call [] [] (.sl true 1 v4.length ((ePls true).f v4)) []), (6, .val (.cptr ((eSol false).c v5 ++ (eSol false).f ((a0.kids).drop (Int.toNat 1 + 1))))), (6, .call [] [] (.agg [i64 v6.A, i64 v6.B, i64 v6.C, i64 v6.D]) []), (0, .call [] [] (.sl false 4 v7.length ((ePl).f v7)) []), (0, .call [] [] (.sl true 1 v8.length ((ePls true).f v8)) []), (0, .app true (List.length (v4 ++ v8)) ((ePls true).f (v4 ++ v8)))] [] (ocons (ix (eSol false) hv2) (ocons (shSl (L := v3) ePl ePl sPl (Timpl_with a2 a0.pl _ hv3)) (ocons (hself (v2, a1, v3) ((eSol false).f ((a0.kids).drop (Int.toNat 0 + 1))) _ hv4) (ocons (ix (eSol false) hv5) (ocons (Timpl_flip a0.pl _ hv6) (ocons (shSl (L := v7) ePl ePl sPl (Timpl_with a2 v6 _ hv7)) (ocons (hself (v5, a1, v7) ((eSol false).f ((a0.kids).drop (Int.toNat 1 + 1))) _ hv8) (ocons (len_row' (L := v4) (ePls true)) (ocons (app_one (L := v4) (M := v8) (ePls true) c9) (ocons (app_new (L := v4) (M := v8) (ePls true)) (ocons (app_m (L := v4) (M := v8) (ePls true) rfl) (ocons (len_row' (L := v8) (ePls true)) onil)))))))))))) (ocons (len_row (L := (v4 ++ v8)) (ePls true)) onil) (by kernel_rfl)
theorem Timpl_Solid_cells (n : Nat) (a0 : Sol) (a1 : Bool) (a2 : (List Pl)) (q0 : List AV) (r : (List (List Pl))) (h : Dimpl_Solid_cells n a0 a1 a2 = some r) : Big Tryz.prog H YS (.call 22 [.cptr ([bl a0.inn, i64 a0.pl.A, i64 a0.pl.B, i64 a0.pl.C, i64 a0.pl.D, .sl false 6 a0.kids.length ((eSol false).f a0.kids)] ++ q0), bl a1, .sl false 4 a2.length ((ePl).f a2)] (lk []) (.sl true 1 r.length ((ePls true).f r)) (lk [])) := Timpl_Solid_cells_b n n (a0, a1, a2) r h q0
/-! impl.Cells -/
def Dimpl_Cells (n : Nat) (a0 : Sol) (a1 : Bool) : Option (List (List Pl)) :=
  (Dimpl_SolidOk n a0).bind fun v0 => frk (!v0) (some []) ((Dimpl_Solid_cells n a0 a1 []).bind fun v1 => some v1)
theorem Timpl_Cells (n : Nat) (a0 : Sol) (a1 : Bool) (r : (List (List Pl))) (h : Dimpl_Cells n a0 a1 = some r) : Big Tryz.prog H YS (.call 9 [.agg [bl a0.inn, i64 a0.pl.A, i64 a0.pl.B, i64 a0.pl.C, i64 a0.pl.D, .sl false 6 a0.kids.length ((eSol false).f a0.kids)], bl a1] (lk []) (.sl true 1 r.length ((ePls true).f r)) (lk [])) := by
  unfold Dimpl_Cells at h
  refine x_call (fn := Tryz.f9) (c := bodyOf Tryz.f9) (bs0 := []) Tryz.func9 (by kernel_rfl) (by kernel_rfl) ?_
  obtain ⟨v0, hv0, h⟩ := bind_some h
  refine x_frk 12 [(3, .call [] [] (bl v0) [])] (ocons (Timpl_SolidOk n a0 _ hv0) onil) h (by kernel_rfl) (fun h => ?_) (fun h => ?_)
  · replace h := Option.some.inj h; subst h
    exact x_end 4 [] [(true, 1)] onil onil (by kernel_rfl)
  · obtain ⟨v1, hv1, h⟩ := bind_some h
    replace h := Option.some.inj h; subst h
    exact x_end 7 [(1, .call [(false, 4)] [] (.sl true 1 v1.length ((ePls true).f v1)) [])] [] (ocons (Timpl_Solid_cells n a0 a1 [] [] _ hv1) (ocons (show hasSh (.sl true 1 v1.length ((ePls true).f v1)) = false by simp [hasSh, hasShL, nSh, nShI, nShB, nShP, nShT, nShN, nShPs]) onil)) (ocons (len_row (L := v1) (ePls true)) onil) (by kernel_rfl)
/-! impl.planesOk -/
def Dimpl_planesOk_0 (n : Nat) (t5 : List Pl) (t6 : Int) (rec0 : Int → Option Bool) (a : Int) : Option Bool :=
  match a with
  | t7 => frk (decide (t7 < t6)) ((lget t5 t7).bind fun v0 => (Dimpl_PlaneOk n v0).bind fun v1 => frk (!v1) (some false) (rec0 (w64 (t7 + 1)))) (some true)
theorem Timpl_planesOk_0 (n : Nat) (t5 : List Pl) (t6 : Int) : ∀ (m : Nat) (a : Int) (r : Bool), loopN (Dimpl_planesOk_0 n t5 t6) m a = some r → Wk Tryz.prog H YS 23 [.code (cp [1, 0, 1, 0] (bodyOf Tryz.f23)), .blk 0, .code (cp [1, 1] (bodyOf Tryz.f23))] (FinX Tryz.prog Tryz.f23 [] (bl r) []) ⟨[(5, .sl false 4 t5.length ((ePl).f t5)), (6, i64 t6), (7, i64 a)], []⟩ := by
  refine loopN_ind (fun _rec0 hrec0 a r h => ?_)
  obtain ⟨t7, rfl⟩ : ∃ x, x = a := ⟨a, rfl⟩
  unfold Dimpl_planesOk_0 at h
  refine x_frk 6 [] onil h (by kernel_rfl) (fun h => ?_) (fun h => ?_)
  · obtain ⟨v0, hv0, h⟩ := bind_some h
    obtain ⟨v1, hv1, h⟩ := bind_some h
    refine x_frk 16 [(0, .val (.cptr (ePl.c v0 ++ (ePl).f ((t5).drop (Int.toNat t7 + 1))))), (4, .call [] [] (bl v1) [])] (ocons (ix ePl hv0) (ocons (Timpl_PlaneOk n v0 _ hv1) onil)) h (by kernel_rfl) (fun h => ?_) (fun h => ?_)
    · replace h := Option.some.inj h; subst h
      exact x_end 4 [] [] onil onil (by kernel_rfl)
    · exact x_to 7 [] onil (hrec0 (w64 (t7 + 1)) r h) (by kernel_rfl)
  · replace h := Option.some.inj h; subst h
    exact x_end 5 [] [] onil onil (by kernel_rfl)
def Dimpl_planesOk (n : Nat) (a0 : (List Pl)) : Option Bool :=
  loopN (Dimpl_planesOk_0 n a0 (a0.length : Int)) n 0
theorem Timpl_planesOk (n : Nat) (a0 : (List Pl)) (r : Bool) (h : Dimpl_planesOk n a0 = some r) : Big Tryz.prog H YS (.call 23 [.sl false 4 a0.length ((ePl).f a0)] (lk []) (bl r) (lk [])) := by
  unfold Dimpl_planesOk at h
  refine x_call (fn := Tryz.f23) (c := bodyOf Tryz.f23) (bs0 := []) Tryz.func23 (by kernel_rfl) (by kernel_rfl) ?_
  exact x_to 12 [] onil (Timpl_planesOk_0 n a0 (a0.length : Int) n 0 r h) (by kernel_rfl)
/-! impl.PathText -/
def Dimpl_PathText_1 (_n : Nat) (l503 : List ByteArray) : Option ByteArray :=
  (DJoin l503 (ByteArray.mk #[44, 32])).bind fun v4 => some v4
theorem Timpl_PathText_1 (n : Nat) (l503 : List ByteArray) (r : ByteArray) (h : Dimpl_PathText_1 n l503 = some r) : Wk Tryz.prog H YS 10 [.code (cp [1, 1, 1, 1, 0] (bodyOf Tryz.f10)), .code (cp [1, 1, 1, 1, 1] (bodyOf Tryz.f10))] (FinX Tryz.prog Tryz.f10 [] (.lit (.string r)) []) ⟨[(3, .msl 503 l503.length)], [(503, ⟨true, 1, (eStr).f l503⟩)]⟩ := by
  unfold Dimpl_PathText_1 at h
  obtain ⟨v4, hv4, h⟩ := bind_some h
  replace h := Option.some.inj h; subst h
  exact x_end 5 [(1, .call [] [(eStr).f l503] (.lit (.string v4)) [])] [] (ocons (Tjoin l503 (ByteArray.mk #[44, 32]) _ hv4) (ocons (len_row (L := l503) eStr) (ocons (Enc.share eStr eStr sStr l503) onil))) onil (by kernel_rfl)
def Dimpl_PathText_2 (n : Nat) (t14 : List Pl) (t15 : Int) (rec0 : (Int × List ByteArray) → Option ByteArray) (a : (Int × List ByteArray)) : Option ByteArray :=
  match a with
  | (t16, l503) => frk (decide (t16 < t15)) ((lget t14 t16).bind fun v1 => (Dimpl_PlaneText n v1).bind fun v2 => chk (apB 16 (l503.length + 1)) (rec0 (w64 (t16 + 1), (l503 ++ [v2])))) (Dimpl_PathText_1 n l503)
theorem Timpl_PathText_2 (n : Nat) (t14 : List Pl) (t15 : Int) : ∀ (m : Nat) (a : (Int × List ByteArray)) (r : ByteArray), loopN (Dimpl_PathText_2 n t14 t15) m a = some r → Wk Tryz.prog H YS 10 [.code (cp [1, 1, 1, 0, 1, 0] (bodyOf Tryz.f10)), .blk 0, .code (cp [1, 1, 1, 1] (bodyOf Tryz.f10))] (FinX Tryz.prog Tryz.f10 [] (.lit (.string r)) []) ⟨[(3, .msl 503 a.2.length), (14, .sl false 4 t14.length ((ePl).f t14)), (15, i64 t15), (16, i64 a.1)], [(503, ⟨true, 1, (eStr).f a.2⟩)]⟩ := by
  refine loopN_ind (fun _rec0 hrec0 a r h => ?_)
  obtain ⟨t16, l503⟩ := a
  unfold Dimpl_PathText_2 at h
  refine x_frk 6 [] onil h (by kernel_rfl) (fun h => ?_) (fun h => ?_)
  · obtain ⟨v1, hv1, h⟩ := bind_some h
    obtain ⟨v2, hv2, h⟩ := bind_some h
    obtain ⟨c3, h⟩ := chk_some h
    exact x_to 25 [(0, .val (.cptr (ePl.c v1 ++ (ePl).f ((t14).drop (Int.toNat t16 + 1))))), (5, .call [] [] (.lit (.string v2)) []), (1, .app false (List.length (l503 ++ [v2])) ((eStr).f (l503 ++ [v2]))), (3, .ren 24 503)] (ocons (ix ePl hv1) (ocons (Timpl_PlaneText n v1 _ hv2) (ocons (len_row' (L := l503) eStr) (ocons (app_one (L := l503) (M := [v2]) eStr c3) (ocons (app_new (L := l503) (M := [v2]) eStr) (ocons (app_m (L := l503) (M := [v2]) eStr rfl) (ocons (len_row' (L := [v2]) eStr) (ocons (Enc.noOwn eStr (fun _ => rfl) [v2]) (ocons (show 24 < 1000 ∧ 503 < 1000 by decide) onil))))))))) (hrec0 (w64 (t16 + 1), (l503 ++ [v2])) r h) (by kernel_rfl)
  · exact x_to 2 [] onil (Timpl_PathText_1 n l503 r h) (by kernel_rfl)
def Dimpl_PathText_0 (n : Nat) (t0 : List Pl) (t13 : Bool) : Option ByteArray :=
  frk t13 (some (ByteArray.mk #[])) (loopN (Dimpl_PathText_2 n t0 (t0.length : Int)) n (0, []))
theorem Timpl_PathText_0 (n : Nat) (t0 : List Pl) (t13 : Bool) (r : ByteArray) (h : Dimpl_PathText_0 n t0 t13 = some r) : Wk Tryz.prog H YS 10 [.code (cp [1, 0, 1] (bodyOf Tryz.f10)), .code (cp [1, 1] (bodyOf Tryz.f10))] (FinX Tryz.prog Tryz.f10 [] (.lit (.string r)) []) ⟨[(0, .sl false 4 t0.length ((ePl).f t0)), (13, bl t13)], []⟩ := by
  unfold Dimpl_PathText_0 at h
  refine x_frk 0 [] onil h (by kernel_rfl) (fun h => ?_) (fun h => ?_)
  · replace h := Option.some.inj h; subst h
    exact x_end 4 [] [] onil onil (by kernel_rfl)
  · exact x_to 14 [(1, .virt 3 503 1)] (ocons (rflV .nil) (ocons (show 503 < 1000 ∧ 1 ≠ 0 by decide) onil)) (Timpl_PathText_2 n t0 (t0.length : Int) n (0, []) r h) (by kernel_rfl)
def Dimpl_PathText (n : Nat) (a0 : (List Pl)) : Option ByteArray :=
  frk (decide ((a0.length : Int) > 24)) (some (ByteArray.mk #[])) ((Dimpl_planesOk n a0).bind fun v0 => Dimpl_PathText_0 n a0 (!v0))
theorem Timpl_PathText (n : Nat) (a0 : (List Pl)) (r : ByteArray) (h : Dimpl_PathText n a0 = some r) : Big Tryz.prog H YS (.call 10 [.sl false 4 a0.length ((ePl).f a0)] (lk []) (.lit (.string r)) (lk [])) := by
  unfold Dimpl_PathText at h
  refine x_call (fn := Tryz.f10) (c := bodyOf Tryz.f10) (bs0 := []) Tryz.func10 (by kernel_rfl) (by kernel_rfl) ?_
  refine x_frk 11 [] onil h (by kernel_rfl) (fun h => ?_) (fun h => ?_)
  · replace h := Option.some.inj h; subst h
    exact x_end 10 [] [] onil onil (by kernel_rfl)
  · obtain ⟨v0, hv0, h⟩ := bind_some h
    exact x_to 5 [(1, .call [] [] (bl v0) [])] (ocons (Timpl_planesOk n a0 _ hv0) onil) (Timpl_PathText_0 n a0 (!v0) r h) (by kernel_rfl)
/-! laws.FnTexts -/
def Dlaws_FnTexts_1 (_n : Nat) (t5 : ByteArray) (t7 t9 : Int) : Option Bool :=
  frk (t7 == (w64 ((t5.size : Int) - 1))) (some (t9 == (t5.size : Int))) (some false)
theorem Tlaws_FnTexts_1 (n : Nat) (t5 : ByteArray) (t7 t9 : Int) (r : Bool) (h : Dlaws_FnTexts_1 n t5 t7 t9 = some r) : Wk Tryz.prog H YS 3 [.code (cp [1, 1, 1, 1, 1, 1, 1, 1, 1, 1, 0] (bodyOf Tryz.f3)), .code (cp [1, 1, 1, 1, 1, 1, 1, 1, 1, 1, 1] (bodyOf Tryz.f3))] (FinX Tryz.prog Tryz.f3 [] (bl r) []) ⟨[(5, .lit (.string t5)), (7, i64 t7), (9, i64 t9)], []⟩ := by
  unfold Dlaws_FnTexts_1 at h
  refine x_frk 7 [] onil h (by kernel_rfl) (fun h => ?_) (fun h => ?_)
  · replace h := Option.some.inj h; subst h
    exact x_end 7 [] [] onil onil (by kernel_rfl)
  · replace h := Option.some.inj h; subst h
    exact x_end 7 [] [] onil onil (by kernel_rfl)
def Dlaws_FnTexts_2 (n : Nat) (t5 : ByteArray) (t7 t9 : Int) (t10 : List (List Pl)) (rec0 : Int → Option Bool) (a : Int) : Option Bool :=
  match a with
  | t11 => frk (decide (t11 < (t10.length : Int))) ((lget t10 t11).bind fun v10 => (Dimpl_PathText n v10).bind fun v11 => (lget t10 t11).bind fun v12 => frk (!((v11.toList == (ByteArray.mk #[]).toList) == ((v12.length : Int) == 0))) (some false) (rec0 (w64 (t11 + 1)))) (Dlaws_FnTexts_1 n t5 t7 t9)
theorem Tlaws_FnTexts_2 (n : Nat) (t5 : ByteArray) (t7 t9 : Int) (t10 : List (List Pl)) : ∀ (m : Nat) (a : Int) (r : Bool), loopN (Dlaws_FnTexts_2 n t5 t7 t9 t10) m a = some r → Wk Tryz.prog H YS 3 [.code (cp [1, 1, 1, 1, 1, 1, 1, 1, 1, 0, 1, 0] (bodyOf Tryz.f3)), .blk 0, .code (cp [1, 1, 1, 1, 1, 1, 1, 1, 1, 1] (bodyOf Tryz.f3))] (FinX Tryz.prog Tryz.f3 [] (bl r) []) ⟨[(5, .lit (.string t5)), (7, i64 t7), (9, i64 t9), (10, .sl false 1 t10.length ((ePls false).f t10)), (11, i64 a)], []⟩ := by
  refine loopN_ind (fun _rec0 hrec0 a r h => ?_)
  obtain ⟨t11, rfl⟩ : ∃ x, x = a := ⟨a, rfl⟩
  unfold Dlaws_FnTexts_2 at h
  refine x_frk 9 [] onil h (by kernel_rfl) (fun h => ?_) (fun h => ?_)
  · obtain ⟨v10, hv10, h⟩ := bind_some h
    obtain ⟨v11, hv11, h⟩ := bind_some h
    obtain ⟨v12, hv12, h⟩ := bind_some h
    refine x_frk 19 [(2, .val (.cptr ((ePls false).c v10 ++ (ePls false).f ((t10).drop (Int.toNat t11 + 1))))), (1, .call [] [] (.lit (.string v11)) []), (3, .val (.cptr ((ePls false).c v12 ++ (ePls false).f ((t10).drop (Int.toNat t11 + 1)))))] (ocons (ix (ePls false) hv10) (ocons (Timpl_PathText n v10 _ hv11) (ocons (ix (ePls false) hv12) onil))) h (by kernel_rfl) (fun h => ?_) (fun h => ?_)
    · replace h := Option.some.inj h; subst h
      exact x_end 4 [] [] onil onil (by kernel_rfl)
    · exact x_to 8 [] onil (hrec0 (w64 (t11 + 1)) r h) (by kernel_rfl)
  · exact x_to 2 [] onil (Tlaws_FnTexts_1 n t5 t7 t9 r h) (by kernel_rfl)
def Dlaws_FnTexts_0 (n : Nat) (t5 : ByteArray) (t38 b3_0 : Bool) (b3_1 b3_2 b3_3 b3_4 : Int) (b3_5 : List Sol) : Option Bool :=
  frk t38 (some false) ((ssl t5 0 (w64 ((t5.size : Int) - 1))).bind fun v5 => (Dimpl_ParseSolid n v5).bind fun v6 => (scat t5 (ByteArray.mk #[32])).bind fun v7 => (Dimpl_ParseSolid n v7).bind fun v8 => (Dimpl_Cells n (Sol.mk b3_0 (Pl.mk b3_1 b3_2 b3_3 b3_4) b3_5) true).bind fun v9 => loopN (Dlaws_FnTexts_2 n t5 v6.2 v8.2 v9) n 0)
theorem Tlaws_FnTexts_0 (n : Nat) (t5 : ByteArray) (t38 b3_0 : Bool) (b3_1 b3_2 b3_3 b3_4 : Int) (b3_5 : List Sol) (r : Bool) (h : Dlaws_FnTexts_0 n t5 t38 b3_0 b3_1 b3_2 b3_3 b3_4 b3_5 = some r) : Wk Tryz.prog H YS 3 [.code (cp [1, 1, 1, 1, 1, 0, 1] (bodyOf Tryz.f3)), .code (cp [1, 1, 1, 1, 1, 1] (bodyOf Tryz.f3))] (FinX Tryz.prog Tryz.f3 [] (bl r) []) ⟨[(3, .ptr 3 0), (5, .lit (.string t5)), (38, bl t38)], [(3, ⟨true, 0, [bl b3_0, i64 b3_1, i64 b3_2, i64 b3_3, i64 b3_4, .sl true 6 b3_5.length ((eSol true).f b3_5)]⟩)]⟩ := by
  unfold Dlaws_FnTexts_0 at h
  refine x_frk 0 [] onil h (by kernel_rfl) (fun h => ?_) (fun h => ?_)
  · replace h := Option.some.inj h; subst h
    exact x_end 4 [] [] onil onil (by kernel_rfl)
  · obtain ⟨v5, hv5, h⟩ := bind_some h
    obtain ⟨v6, hv6, h⟩ := bind_some h
    obtain ⟨v7, hv7, h⟩ := bind_some h
    obtain ⟨v8, hv8, h⟩ := bind_some h
    obtain ⟨v9, hv9, h⟩ := bind_some h
    exact x_to 38 [(4, .val (.lit (.string v5))), (0, .call [] [] (.tup [.agg [bl v6.1.inn, i64 v6.1.pl.A, i64 v6.1.pl.B, i64 v6.1.pl.C, i64 v6.1.pl.D, .sl true 6 v6.1.kids.length ((eSol true).f v6.1.kids)], i64 v6.2]) []), (5, .val (.lit (.string v7))), (0, .call [] [] (.tup [.agg [bl v8.1.inn, i64 v8.1.pl.A, i64 v8.1.pl.B, i64 v8.1.pl.C, i64 v8.1.pl.D, .sl true 6 v8.1.kids.length ((eSol true).f v8.1.kids)], i64 v8.2]) []), (6, .rows [(eSol false).f b3_5]), (0, .call [] [] (.sl false 1 v9.length ((ePls false).f v9)) [])] (ocons (strSl hv5) (ocons (Timpl_ParseSolid n v5 _ hv6) (ocons (catOk hv7) (ocons (Timpl_ParseSolid n v7 _ hv8) (ocons (Enc.share (eSol true) (eSol false) (sSol true) b3_5) (ocons (shSl (L := v9) (ePls true) (ePls false) (sPls true) (Timpl_Cells n (Sol.mk b3_0 (Pl.mk b3_1 b3_2 b3_3 b3_4) b3_5) true _ hv9)) onil)))))) (Tlaws_FnTexts_2 n t5 v6.2 v8.2 v9 n 0 r h) (by kernel_rfl)
def Dlaws_FnTexts (n : Nat) (a0 : (List Int)) : Option Bool :=
  (Dlaws_big a0).bind fun v0 => frk v0 (some true) ((Dspec_DrawSolid n a0).bind fun v1 => (Dimpl_SolidText n v1.1).bind fun v2 => (Dimpl_ParseSolid n v2).bind fun v3 => frk (v3.2 != (-1)) (some false) ((Dimpl_SameTree n v3.1 v1.1).bind fun v4 => frk (!v4) (some false) (Dlaws_FnTexts_0 n v2 ((v2.size : Int) == 0) v1.1.inn v1.1.pl.A v1.1.pl.B v1.1.pl.C v1.1.pl.D v1.1.kids)))
theorem Tlaws_FnTexts (n : Nat) (a0 : (List Int)) (r : Bool) (h : Dlaws_FnTexts n a0 = some r) : Big Tryz.prog H YS (.call 3 [.sl false 1 a0.length ((eU8).f a0)] (lk []) (bl r) (lk [])) := by
  unfold Dlaws_FnTexts at h
  refine x_call (fn := Tryz.f3) (c := bodyOf Tryz.f3) (bs0 := []) Tryz.func3 (by kernel_rfl) (by kernel_rfl) ?_
  obtain ⟨v0, hv0, h⟩ := bind_some h
  refine x_frk 10 [(2, .call [] [] (bl v0) [])] (ocons (Tlaws_big a0 _ hv0) onil) h (by kernel_rfl) (fun h => ?_) (fun h => ?_)
  · replace h := Option.some.inj h; subst h
    exact x_end 4 [] [] onil onil (by kernel_rfl)
  · obtain ⟨v1, hv1, h⟩ := bind_some h
    obtain ⟨v2, hv2, h⟩ := bind_some h
    obtain ⟨v3, hv3, h⟩ := bind_some h
    refine x_frk 36 [(1, .call [] [] (.tup [.agg [bl v1.1.inn, i64 v1.1.pl.A, i64 v1.1.pl.B, i64 v1.1.pl.C, i64 v1.1.pl.D, .sl true 6 v1.1.kids.length ((eSol true).f v1.1.kids)], .agg [i64 v1.2.X, i64 v1.2.Y, i64 v1.2.Z, i64 v1.2.W]]) []), (7, .rows [(eSol false).f v1.1.kids]), (0, .call [] [] (.lit (.string v2)) []), (2, .call [] [] (.tup [.agg [bl v3.1.inn, i64 v3.1.pl.A, i64 v3.1.pl.B, i64 v3.1.pl.C, i64 v3.1.pl.D, .sl true 6 v3.1.kids.length ((eSol true).f v3.1.kids)], i64 v3.2]) [])] (ocons (Tspec_DrawSolid n a0 _ hv1) (ocons (Enc.share (eSol true) (eSol false) (sSol true) v1.1.kids) (ocons (Timpl_SolidText n v1.1 _ hv2) (ocons (Timpl_ParseSolid n v2 _ hv3) onil)))) h (by kernel_rfl) (fun h => ?_) (fun h => ?_)
    · replace h := Option.some.inj h; subst h
      exact x_end 16 [] [] onil onil (by kernel_rfl)
    · obtain ⟨v4, hv4, h⟩ := bind_some h
      refine x_frk 6 [(0, .rows [(eSol false).f v3.1.kids]), (0, .rows [(eSol false).f v1.1.kids]), (0, .call [] [] (bl v4) [])] (ocons (Enc.share (eSol true) (eSol false) (sSol true) v3.1.kids) (ocons (Enc.share (eSol true) (eSol false) (sSol true) v1.1.kids) (ocons (Timpl_SameTree n v3.1 v1.1 _ hv4) onil))) h (by kernel_rfl) (fun h => ?_) (fun h => ?_)
      · replace h := Option.some.inj h; subst h
        exact x_end 10 [] [] onil onil (by kernel_rfl)
      · exact x_to 5 [] onil (Tlaws_FnTexts_0 n v2 ((v2.size : Int) == 0) v1.1.inn v1.1.pl.A v1.1.pl.B v1.1.pl.C v1.1.pl.D v1.1.kids r h) (by kernel_rfl)
end Evl.T
