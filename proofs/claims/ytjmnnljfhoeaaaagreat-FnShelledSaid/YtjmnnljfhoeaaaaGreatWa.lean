/- Walks. No condition. -/
import Derived.Test.YtjmnnljfhoeaaaaGreatWy
namespace Evl.T
open Go Evl Go.Proofs
set_option maxRecDepth 100000
/-! impl.weighs -/
def Dimpl_weighs_0 (_n : Nat) (rec0 : (Int × Int) → Option Bool) (t1 : List Int) (_t5 : Int) (_t13 : List Int) (_t14 t6 t7 t8 t15 : Int) (t27 : Bool) : Option Bool :=
  frk t27 (some false) ((lget t1 t7).bind fun v4 => rec0 (w64 (t6 + (w64 (t8 * v4))), w64 (t15 + 1)))
theorem Timpl_weighs_0 {Y} (n : Nat) (rec0 : (Int × Int) → Option Bool) (t1 : List Int) (t5 : Int) (t13 : List Int) (t14 : Int) (hrec0 : ∀ (a : (Int × Int)) (r : Bool), rec0 a = some r → Wk Tryz.prog H Y 203 [.code (cp [1, 1, 1, 0, 1, 0] (bodyOf Tryz.f203)), .blk 0, .code (cp [1, 1, 1, 1] (bodyOf Tryz.f203))] (FinX Tryz.prog Tryz.f203 [] (bl r) []) ⟨[(1, .sl false 1 t1.length ((eInt).f t1)), (5, i64 t5), (6, i64 a.1), (13, .sl false 1 t13.length ((eInt).f t13)), (14, i64 t14), (15, i64 a.2)], []⟩) (t6 t7 t8 t15 : Int) (t27 r : Bool) (h : Dimpl_weighs_0 n rec0 t1 t5 t13 t14 t6 t7 t8 t15 t27 = some r) : Wk Tryz.prog H Y 203 [.code (cp [1, 1, 1, 0, 1, 0, 0, 1, 1, 0, 0, 1, 0, 1] (bodyOf Tryz.f203)), .code (cp [1, 1, 1, 0, 1, 0, 0, 1, 1, 0, 0, 1, 1] (bodyOf Tryz.f203)), .blk 1, .code (cp [1, 1, 1, 0, 1, 0, 0, 1, 1, 1] (bodyOf Tryz.f203)), .lp (cp [1, 1, 1, 0, 1, 0] (bodyOf Tryz.f203)), .blk 0, .code (cp [1, 1, 1, 1] (bodyOf Tryz.f203))] (FinX Tryz.prog Tryz.f203 [] (bl r) []) ⟨[(1, .sl false 1 t1.length ((eInt).f t1)), (5, i64 t5), (6, i64 t6), (7, i64 t7), (8, i64 t8), (13, .sl false 1 t13.length ((eInt).f t13)), (14, i64 t14), (15, i64 t15), (27, bl t27)], []⟩ := by
  unfold Dimpl_weighs_0 at h
  refine x_frk 0 [] onil h (by kernel_rfl) (fun h => ?_) (fun h => ?_)
  · replace h := Option.some.inj h; subst h
    exact x_end 4 [] [] onil onil (by kernel_rfl)
  · obtain ⟨v4, hv4, h⟩ := bind_some h
    exact x_to 18 [(4, .val (.cptr (eInt.c v4 ++ (eInt).f ((t1).drop (Int.toNat t7 + 1)))))] (ocons (ix eInt hv4) onil) (hrec0 (w64 (t6 + (w64 (t8 * v4))), w64 (t15 + 1)) r h) (by kernel_rfl)
def Dimpl_weighs_1 (n : Nat) (t1 : List Int) (t5 : Int) (t13 : List Int) (t14 : Int) (rec0 : (Int × Int) → Option Bool) (a : (Int × Int)) : Option Bool :=
  match a with
  | (t6, t15) => frk (decide (t15 < t14)) ((lget t13 t15).bind fun v2 => frk (t5 == 0) (some false) ((Dimpl_sign v2).bind fun v3 => Dimpl_weighs_0 n rec0 t1 t5 t13 t14 t6 t15 v2 t15 (v3 != t5))) (some (decide ((w64 (t6 * t5)) ≤ 0)))
theorem Timpl_weighs_1 {Y} (n : Nat) (t1 : List Int) (t5 : Int) (t13 : List Int) (t14 : Int) : ∀ (m : Nat) (a : (Int × Int)) (r : Bool), loopN (Dimpl_weighs_1 n t1 t5 t13 t14) m a = some r → Wk Tryz.prog H Y 203 [.code (cp [1, 1, 1, 0, 1, 0] (bodyOf Tryz.f203)), .blk 0, .code (cp [1, 1, 1, 1] (bodyOf Tryz.f203))] (FinX Tryz.prog Tryz.f203 [] (bl r) []) ⟨[(1, .sl false 1 t1.length ((eInt).f t1)), (5, i64 t5), (6, i64 a.1), (13, .sl false 1 t13.length ((eInt).f t13)), (14, i64 t14), (15, i64 a.2)], []⟩ := by
  refine loopN_ind (fun rec0 hrec0 a r h => ?_)
  obtain ⟨t6, t15⟩ := a
  unfold Dimpl_weighs_1 at h
  refine x_frk 6 [] onil h (by kernel_rfl) (fun h => ?_) (fun h => ?_)
  · obtain ⟨v2, hv2, h⟩ := bind_some h
    refine x_frk 17 [(1, .val (.cptr (eInt.c v2 ++ (eInt).f ((t13).drop (Int.toNat t15 + 1)))))] (ocons (ix eInt hv2) onil) h (by kernel_rfl) (fun h => ?_) (fun h => ?_)
    · replace h := Option.some.inj h; subst h
      exact x_end 11 [] [] onil onil (by kernel_rfl)
    · obtain ⟨v3, hv3, h⟩ := bind_some h
      exact x_to 6 [(1, .call [] [] (i64 v3) [])] (ocons (Timpl_sign (Y := Y) v2 _ hv3) onil) (Timpl_weighs_0 n rec0 t1 t5 t13 t14 hrec0 t6 t15 v2 t15 (v3 != t5) r h) (by kernel_rfl)
  · replace h := Option.some.inj h; subst h
    exact x_end 9 [] [] onil onil (by kernel_rfl)
def Dimpl_weighs (n : Nat) (a0 : (List Int)) (a1 : (List Int)) : Option Bool :=
  (lget a0 0).bind fun v0 => (Dimpl_sign v0).bind fun v1 => loopN (Dimpl_weighs_1 n a1 v1 a0 (a0.length : Int)) n (0, 0)
theorem Timpl_weighs {Y} (n : Nat) (a0 : (List Int)) (a1 : (List Int)) (r : Bool) (h : Dimpl_weighs n a0 a1 = some r) : Big Tryz.prog H Y (.call 203 [.sl false 1 a0.length ((eInt).f a0), .sl false 1 a1.length ((eInt).f a1)] (lk []) (bl r) (lk [])) := by
  unfold Dimpl_weighs at h
  refine x_call (fn := Tryz.f203) (c := bodyOf Tryz.f203) (bs0 := []) Tryz.func203 (by kernel_rfl) (by kernel_rfl) ?_
  obtain ⟨v0, hv0, h⟩ := bind_some h
  obtain ⟨v1, hv1, h⟩ := bind_some h
  exact x_to 24 [(2, .val (.cptr (eInt.c v0 ++ (eInt).f ((a0).drop (Int.toNat 0 + 1))))), (1, .call [] [] (i64 v1) [])] (ocons (ix eInt hv0) (ocons (Timpl_sign (Y := Y) v0 _ hv1) onil)) (Timpl_weighs_1 n a1 v1 a0 (a0.length : Int) n (0, 0) r h) (by kernel_rfl)
/-! impl.clash3 -/
def Dimpl_clash3 (n : Nat) (a0 : Pl) (a1 : Pl) (a2 : Pl) : Option Bool :=
  (Dimpl_normal a0).bind fun v0 => (Dimpl_normal a1).bind fun v1 => (Dimpl_normal a2).bind fun v2 => (Dimpl_det v0 v1 v2).bind fun v3 => frk (v3 != 0) (some false) ((Dimpl_crossOf v0 v1).bind fun v4 => (Dimpl_crossOf v1 v2).bind fun v5 => (Dimpl_dot v5 v4).bind fun v6 => (Dimpl_crossOf v2 v0).bind fun v7 => (Dimpl_dot v7 v4).bind fun v8 => (Dimpl_dot v4 v4).bind fun v9 => (Dimpl_weighs n [v6, v8, v9] [a0.D, a1.D, a2.D]).bind fun v10 => some v10)
theorem Timpl_clash3 {Y} (n : Nat) (a0 : Pl) (a1 : Pl) (a2 : Pl) (r : Bool) (h : Dimpl_clash3 n a0 a1 a2 = some r) : Big Tryz.prog H Y (.call 178 [.agg [i64 a0.A, i64 a0.B, i64 a0.C, i64 a0.D], .agg [i64 a1.A, i64 a1.B, i64 a1.C, i64 a1.D], .agg [i64 a2.A, i64 a2.B, i64 a2.C, i64 a2.D]] (lk []) (bl r) (lk [])) := by
  unfold Dimpl_clash3 at h
  refine x_call (fn := Tryz.f178) (c := bodyOf Tryz.f178) (bs0 := []) Tryz.func178 (by kernel_rfl) (by kernel_rfl) ?_
  obtain ⟨v0, hv0, h⟩ := bind_some h
  obtain ⟨v1, hv1, h⟩ := bind_some h
  obtain ⟨v2, hv2, h⟩ := bind_some h
  obtain ⟨v3, hv3, h⟩ := bind_some h
  refine x_frk 31 [(5, .call [] [] (.agg [i64 v0.1, i64 v0.2.1, i64 v0.2.2]) []), (1, .call [] [] (.agg [i64 v1.1, i64 v1.2.1, i64 v1.2.2]) []), (1, .call [] [] (.agg [i64 v2.1, i64 v2.2.1, i64 v2.2.2]) []), (9, .call [] [] (i64 v3) [])] (ocons (Timpl_normal (Y := Y) a0 _ hv0) (ocons (Timpl_normal (Y := Y) a1 _ hv1) (ocons (Timpl_normal (Y := Y) a2 _ hv2) (ocons (Timpl_det (Y := Y) v0 v1 v2 _ hv3) onil)))) h (by kernel_rfl) (fun h => ?_) (fun h => ?_)
  · replace h := Option.some.inj h; subst h
    exact x_end 4 [] [] onil onil (by kernel_rfl)
  · obtain ⟨v4, hv4, h⟩ := bind_some h
    obtain ⟨v5, hv5, h⟩ := bind_some h
    obtain ⟨v6, hv6, h⟩ := bind_some h
    obtain ⟨v7, hv7, h⟩ := bind_some h
    obtain ⟨v8, hv8, h⟩ := bind_some h
    obtain ⟨v9, hv9, h⟩ := bind_some h
    obtain ⟨v10, hv10, h⟩ := bind_some h
    replace h := Option.some.inj h; subst h
    exact x_end 35 [(2, .call [] [] (.agg [i64 v4.1, i64 v4.2.1, i64 v4.2.2]) []), (4, .call [] [] (.agg [i64 v5.1, i64 v5.2.1, i64 v5.2.2]) []), (1, .call [] [] (i64 v6) []), (2, .call [] [] (.agg [i64 v7.1, i64 v7.2.1, i64 v7.2.2]) []), (1, .call [] [] (i64 v8) []), (2, .call [] [] (i64 v9) []), (8, .call [] [(eInt).f [a0.D, a1.D, a2.D], (eInt).f [v6, v8, v9]] (bl v10) [])] [] (ocons (Timpl_crossOf (Y := Y) v0 v1 _ hv4) (ocons (Timpl_crossOf (Y := Y) v1 v2 _ hv5) (ocons (Timpl_dot (Y := Y) v5 v4 _ hv6) (ocons (Timpl_crossOf (Y := Y) v2 v0 _ hv7) (ocons (Timpl_dot (Y := Y) v7 v4 _ hv8) (ocons (Timpl_dot (Y := Y) v4 v4 _ hv9) (ocons (Timpl_weighs (Y := Y) n [v6, v8, v9] [a0.D, a1.D, a2.D] _ hv10) (ocons (len_row (L := [v6, v8, v9]) eInt) (ocons (Enc.share eInt eInt sInt [v6, v8, v9]) (ocons (len_row (L := [a0.D, a1.D, a2.D]) eInt) (ocons (Enc.share eInt eInt sInt [a0.D, a1.D, a2.D]) onil))))))))))) onil (by kernel_rfl)
/-! impl.det3 -/
def Dimpl_det3 (a0 : Pl) (a1 : Pl) (a2 : Pl) : Option Int :=
  (Dimpl_normal a0).bind fun v0 => (Dimpl_normal a1).bind fun v1 => (Dimpl_normal a2).bind fun v2 => (Dimpl_det v0 v1 v2).bind fun v3 => some v3
theorem Timpl_det3 {Y} (a0 : Pl) (a1 : Pl) (a2 : Pl) (r : Int) (h : Dimpl_det3 a0 a1 a2 = some r) : Big Tryz.prog H Y (.call 205 [.agg [i64 a0.A, i64 a0.B, i64 a0.C, i64 a0.D], .agg [i64 a1.A, i64 a1.B, i64 a1.C, i64 a1.D], .agg [i64 a2.A, i64 a2.B, i64 a2.C, i64 a2.D]] (lk []) (i64 r) (lk [])) := by
  unfold Dimpl_det3 at h
  refine x_call (fn := Tryz.f205) (c := bodyOf Tryz.f205) (bs0 := []) Tryz.func205 (by kernel_rfl) (by kernel_rfl) ?_
  obtain ⟨v0, hv0, h⟩ := bind_some h
  obtain ⟨v1, hv1, h⟩ := bind_some h
  obtain ⟨v2, hv2, h⟩ := bind_some h
  obtain ⟨v3, hv3, h⟩ := bind_some h
  replace h := Option.some.inj h; subst h
  exact x_end 18 [(5, .call [] [] (.agg [i64 v0.1, i64 v0.2.1, i64 v0.2.2]) []), (1, .call [] [] (.agg [i64 v1.1, i64 v1.2.1, i64 v1.2.2]) []), (1, .call [] [] (.agg [i64 v2.1, i64 v2.2.1, i64 v2.2.2]) []), (0, .call [] [] (i64 v3) [])] [] (ocons (Timpl_normal (Y := Y) a0 _ hv0) (ocons (Timpl_normal (Y := Y) a1 _ hv1) (ocons (Timpl_normal (Y := Y) a2 _ hv2) (ocons (Timpl_det (Y := Y) v0 v1 v2 _ hv3) onil)))) onil (by kernel_rfl)
/-! impl.clash4 -/
def Dimpl_clash4 (n : Nat) (a0 : Pl) (a1 : Pl) (a2 : Pl) (a3 : Pl) : Option Bool :=
  (Dimpl_det3 a1 a2 a3).bind fun v0 => (Dimpl_det3 a0 a2 a3).bind fun v1 => (Dimpl_det3 a0 a1 a3).bind fun v2 => (Dimpl_det3 a0 a1 a2).bind fun v3 => (Dimpl_weighs n [v0, w64 (0 - v1), v2, w64 (0 - v3)] [a0.D, a1.D, a2.D, a3.D]).bind fun v4 => some v4
theorem Timpl_clash4 {Y} (n : Nat) (a0 : Pl) (a1 : Pl) (a2 : Pl) (a3 : Pl) (r : Bool) (h : Dimpl_clash4 n a0 a1 a2 a3 = some r) : Big Tryz.prog H Y (.call 179 [.agg [i64 a0.A, i64 a0.B, i64 a0.C, i64 a0.D], .agg [i64 a1.A, i64 a1.B, i64 a1.C, i64 a1.D], .agg [i64 a2.A, i64 a2.B, i64 a2.C, i64 a2.D], .agg [i64 a3.A, i64 a3.B, i64 a3.C, i64 a3.D]] (lk []) (bl r) (lk [])) := by
  unfold Dimpl_clash4 at h
  refine x_call (fn := Tryz.f179) (c := bodyOf Tryz.f179) (bs0 := []) Tryz.func179 (by kernel_rfl) (by kernel_rfl) ?_
  obtain ⟨v0, hv0, h⟩ := bind_some h
  obtain ⟨v1, hv1, h⟩ := bind_some h
  obtain ⟨v2, hv2, h⟩ := bind_some h
  obtain ⟨v3, hv3, h⟩ := bind_some h
  obtain ⟨v4, hv4, h⟩ := bind_some h
  replace h := Option.some.inj h; subst h
  exact x_end 46 [(8, .call [] [] (i64 v0) []), (3, .call [] [] (i64 v1) []), (4, .call [] [] (i64 v2) []), (3, .call [] [] (i64 v3) []), (13, .call [] [(eInt).f [a0.D, a1.D, a2.D, a3.D], (eInt).f [v0, w64 (0 - v1), v2, w64 (0 - v3)]] (bl v4) [])] [] (ocons (Timpl_det3 (Y := Y) a1 a2 a3 _ hv0) (ocons (Timpl_det3 (Y := Y) a0 a2 a3 _ hv1) (ocons (Timpl_det3 (Y := Y) a0 a1 a3 _ hv2) (ocons (Timpl_det3 (Y := Y) a0 a1 a2 _ hv3) (ocons (Timpl_weighs (Y := Y) n [v0, w64 (0 - v1), v2, w64 (0 - v3)] [a0.D, a1.D, a2.D, a3.D] _ hv4) (ocons (len_row (L := [v0, w64 (0 - v1), v2, w64 (0 - v3)]) eInt) (ocons (Enc.share eInt eInt sInt [v0, w64 (0 - v1), v2, w64 (0 - v3)]) (ocons (len_row (L := [a0.D, a1.D, a2.D, a3.D]) eInt) (ocons (Enc.share eInt eInt sInt [a0.D, a1.D, a2.D, a3.D]) onil))))))))) onil (by kernel_rfl)
/-! impl.room -/
def Dimpl_room_0 (n : Nat) (rec1 : Int → Option Bool) (_rec0 : Int → Option Bool) (_t13 : Int) (_t23 : List Pl) (_t24 b6_0 b6_1 b6_2 b6_3 : Int) (_t0 : List Pl) (_t11 : List Pl) (_t12 b3_0 b3_1 b3_2 b3_3 t25 : Int) (t36 : List Pl) (t37 b8_0 b8_1 b8_2 b8_3 : Int) (rec2 : Int → Option Bool) (a : Int) : Option Bool :=
  match a with
  | t38 => frk (decide (t38 < t37)) ((lget t36 t38).bind fun v6 => (Dimpl_clash4 n v6 (Pl.mk b8_0 b8_1 b8_2 b8_3) (Pl.mk b6_0 b6_1 b6_2 b6_3) (Pl.mk b3_0 b3_1 b3_2 b3_3)).bind fun v7 => frk v7 (some false) (rec2 (w64 (t38 + 1)))) (rec1 (w64 (t25 + 1)))
theorem Timpl_room_0 {Y} (n : Nat) (rec1 : Int → Option Bool) (rec0 : Int → Option Bool) (t13 : Int) (t23 : List Pl) (t24 b6_0 b6_1 b6_2 b6_3 : Int) (t0 : List Pl) (t11 : List Pl) (t12 b3_0 b3_1 b3_2 b3_3 : Int) (hrec1 : ∀ (a : Int) (r : Bool), rec1 a = some r → Wk Tryz.prog H Y 137 [.code (cp [1, 0, 1, 0, 0, 1, 1, 0, 0, 1, 1, 1, 0] (bodyOf Tryz.f137)), .blk 2, .blk 1, .code (cp [1, 0, 1, 0, 0, 1, 1, 1] (bodyOf Tryz.f137)), .lp (cp [1, 0, 1, 0] (bodyOf Tryz.f137)), .blk 0, .code (cp [1, 1] (bodyOf Tryz.f137))] (FinX Tryz.prog Tryz.f137 [] (bl r) []) ⟨[(0, .sl false 4 t0.length ((ePl).f t0)), (3, .ptr 3 0), (6, .ptr 6 0), (11, .sl false 4 t11.length ((ePl).f t11)), (12, i64 t12), (13, i64 t13), (23, .sl false 4 t23.length ((ePl).f t23)), (24, i64 t24), (25, i64 a)], [(3, ⟨true, 0, [i64 b3_0, i64 b3_1, i64 b3_2, i64 b3_3]⟩), (6, ⟨true, 0, [i64 b6_0, i64 b6_1, i64 b6_2, i64 b6_3]⟩)]⟩) (_hrec0 : ∀ (a : Int) (r : Bool), rec0 a = some r → Wk Tryz.prog H Y 137 [.code (cp [1, 0, 1, 0] (bodyOf Tryz.f137)), .blk 0, .code (cp [1, 1] (bodyOf Tryz.f137))] (FinX Tryz.prog Tryz.f137 [] (bl r) []) ⟨[(0, .sl false 4 t0.length ((ePl).f t0)), (3, .ptr 3 0), (11, .sl false 4 t11.length ((ePl).f t11)), (12, i64 t12), (13, i64 a)], [(3, ⟨true, 0, [i64 b3_0, i64 b3_1, i64 b3_2, i64 b3_3]⟩)]⟩) (t25 : Int) (t36 : List Pl) (t37 b8_0 b8_1 b8_2 b8_3 : Int) : ∀ (m : Nat) (a : Int) (r : Bool), loopN (Dimpl_room_0 n rec1 rec0 t13 t23 t24 b6_0 b6_1 b6_2 b6_3 t0 t11 t12 b3_0 b3_1 b3_2 b3_3 t25 t36 t37 b8_0 b8_1 b8_2 b8_3) m a = some r → Wk Tryz.prog H Y 137 [.code (cp [1, 0, 1, 0, 0, 1, 1, 0, 0, 1, 1, 1, 0, 0, 1, 1, 0, 0, 1, 1, 1, 0] (bodyOf Tryz.f137)), .blk 4, .blk 3, .code (cp [1, 0, 1, 0, 0, 1, 1, 0, 0, 1, 1, 1, 0, 0, 1, 1, 1] (bodyOf Tryz.f137)), .lp (cp [1, 0, 1, 0, 0, 1, 1, 0, 0, 1, 1, 1, 0] (bodyOf Tryz.f137)), .blk 2, .blk 1, .code (cp [1, 0, 1, 0, 0, 1, 1, 1] (bodyOf Tryz.f137)), .lp (cp [1, 0, 1, 0] (bodyOf Tryz.f137)), .blk 0, .code (cp [1, 1] (bodyOf Tryz.f137))] (FinX Tryz.prog Tryz.f137 [] (bl r) []) ⟨[(0, .sl false 4 t0.length ((ePl).f t0)), (3, .ptr 3 0), (6, .ptr 6 0), (8, .ptr 8 0), (11, .sl false 4 t11.length ((ePl).f t11)), (12, i64 t12), (13, i64 t13), (23, .sl false 4 t23.length ((ePl).f t23)), (24, i64 t24), (25, i64 t25), (36, .sl false 4 t36.length ((ePl).f t36)), (37, i64 t37), (38, i64 a)], [(3, ⟨true, 0, [i64 b3_0, i64 b3_1, i64 b3_2, i64 b3_3]⟩), (6, ⟨true, 0, [i64 b6_0, i64 b6_1, i64 b6_2, i64 b6_3]⟩), (8, ⟨true, 0, [i64 b8_0, i64 b8_1, i64 b8_2, i64 b8_3]⟩)]⟩ := by
  refine loopN_ind (fun _rec2 hrec2 a r h => ?_)
  obtain ⟨t38, rfl⟩ : ∃ x, x = a := ⟨a, rfl⟩
  unfold Dimpl_room_0 at h
  refine x_frk 6 [] onil h (by kernel_rfl) (fun h => ?_) (fun h => ?_)
  · obtain ⟨v6, hv6, h⟩ := bind_some h
    obtain ⟨v7, hv7, h⟩ := bind_some h
    refine x_frk 18 [(0, .val (.cptr (ePl.c v6 ++ (ePl).f ((t36).drop (Int.toNat t38 + 1))))), (7, .call [] [] (bl v7) [])] (ocons (ix ePl hv6) (ocons (Timpl_clash4 (Y := Y) n v6 (Pl.mk b8_0 b8_1 b8_2 b8_3) (Pl.mk b6_0 b6_1 b6_2 b6_3) (Pl.mk b3_0 b3_1 b3_2 b3_3) _ hv7) onil)) h (by kernel_rfl) (fun h => ?_) (fun h => ?_)
    · replace h := Option.some.inj h; subst h
      exact x_end 4 [] [] onil onil (by kernel_rfl)
    · exact x_to 7 [] onil (hrec2 (w64 (t38 + 1)) r h) (by kernel_rfl)
  · exact x_to 7 [] onil (hrec1 (w64 (t25 + 1)) r h) (by kernel_rfl)
def Dimpl_room_1 (n : Nat) (rec0 : Int → Option Bool) (t0 : List Pl) (t11 : List Pl) (t12 b3_0 b3_1 b3_2 b3_3 t13 : Int) (t23 : List Pl) (t24 b6_0 b6_1 b6_2 b6_3 : Int) (rec1 : Int → Option Bool) (a : Int) : Option Bool :=
  match a with
  | t25 => frk (decide (t25 < t24)) ((lget t23 t25).bind fun v3 => (Dimpl_clash3 n v3 (Pl.mk b6_0 b6_1 b6_2 b6_3) (Pl.mk b3_0 b3_1 b3_2 b3_3)).bind fun v4 => frk v4 (some false) ((lsl t0 0 t25).bind fun v5 => loopN (Dimpl_room_0 n rec1 rec0 t13 t23 t24 b6_0 b6_1 b6_2 b6_3 t0 t11 t12 b3_0 b3_1 b3_2 b3_3 t25 v5 (v5.length : Int) v3.A v3.B v3.C v3.D) n 0)) (rec0 (w64 (t13 + 1)))
theorem Timpl_room_1 {Y} (n : Nat) (rec0 : Int → Option Bool) (t0 : List Pl) (t11 : List Pl) (t12 b3_0 b3_1 b3_2 b3_3 : Int) (hrec0 : ∀ (a : Int) (r : Bool), rec0 a = some r → Wk Tryz.prog H Y 137 [.code (cp [1, 0, 1, 0] (bodyOf Tryz.f137)), .blk 0, .code (cp [1, 1] (bodyOf Tryz.f137))] (FinX Tryz.prog Tryz.f137 [] (bl r) []) ⟨[(0, .sl false 4 t0.length ((ePl).f t0)), (3, .ptr 3 0), (11, .sl false 4 t11.length ((ePl).f t11)), (12, i64 t12), (13, i64 a)], [(3, ⟨true, 0, [i64 b3_0, i64 b3_1, i64 b3_2, i64 b3_3]⟩)]⟩) (t13 : Int) (t23 : List Pl) (t24 b6_0 b6_1 b6_2 b6_3 : Int) : ∀ (m : Nat) (a : Int) (r : Bool), loopN (Dimpl_room_1 n rec0 t0 t11 t12 b3_0 b3_1 b3_2 b3_3 t13 t23 t24 b6_0 b6_1 b6_2 b6_3) m a = some r → Wk Tryz.prog H Y 137 [.code (cp [1, 0, 1, 0, 0, 1, 1, 0, 0, 1, 1, 1, 0] (bodyOf Tryz.f137)), .blk 2, .blk 1, .code (cp [1, 0, 1, 0, 0, 1, 1, 1] (bodyOf Tryz.f137)), .lp (cp [1, 0, 1, 0] (bodyOf Tryz.f137)), .blk 0, .code (cp [1, 1] (bodyOf Tryz.f137))] (FinX Tryz.prog Tryz.f137 [] (bl r) []) ⟨[(0, .sl false 4 t0.length ((ePl).f t0)), (3, .ptr 3 0), (6, .ptr 6 0), (11, .sl false 4 t11.length ((ePl).f t11)), (12, i64 t12), (13, i64 t13), (23, .sl false 4 t23.length ((ePl).f t23)), (24, i64 t24), (25, i64 a)], [(3, ⟨true, 0, [i64 b3_0, i64 b3_1, i64 b3_2, i64 b3_3]⟩), (6, ⟨true, 0, [i64 b6_0, i64 b6_1, i64 b6_2, i64 b6_3]⟩)]⟩ := by
  refine loopN_ind (fun rec1 hrec1 a r h => ?_)
  obtain ⟨t25, rfl⟩ : ∃ x, x = a := ⟨a, rfl⟩
  unfold Dimpl_room_1 at h
  refine x_frk 6 [] onil h (by kernel_rfl) (fun h => ?_) (fun h => ?_)
  · obtain ⟨v3, hv3, h⟩ := bind_some h
    obtain ⟨v4, hv4, h⟩ := bind_some h
    refine x_frk 20 [(1, .val (.cptr (ePl.c v3 ++ (ePl).f ((t23).drop (Int.toNat t25 + 1))))), (7, .call [] [] (bl v4) [])] (ocons (ix ePl hv3) (ocons (Timpl_clash3 (Y := Y) n v3 (Pl.mk b6_0 b6_1 b6_2 b6_3) (Pl.mk b3_0 b3_1 b3_2 b3_3) _ hv4) onil)) h (by kernel_rfl) (fun h => ?_) (fun h => ?_)
    · replace h := Option.some.inj h; subst h
      exact x_end 4 [] [] onil onil (by kernel_rfl)
    · obtain ⟨v5, hv5, h⟩ := bind_some h
      exact x_to 10 [(2, .val (.sl false 4 v5.length ((ePl).f v5)))] (ocons (slF ePl hv5) onil) (Timpl_room_0 n rec1 rec0 t13 t23 t24 b6_0 b6_1 b6_2 b6_3 t0 t11 t12 b3_0 b3_1 b3_2 b3_3 hrec1 hrec0 t25 v5 (v5.length : Int) v3.A v3.B v3.C v3.D n 0 r h) (by kernel_rfl)
  · exact x_to 7 [] onil (hrec0 (w64 (t13 + 1)) r h) (by kernel_rfl)
def Dimpl_room_2 (n : Nat) (t0 : List Pl) (t11 : List Pl) (t12 b3_0 b3_1 b3_2 b3_3 : Int) (rec0 : Int → Option Bool) (a : Int) : Option Bool :=
  match a with
  | t13 => frk (decide (t13 < t12)) ((lget t11 t13).bind fun v0 => (Dimpl_clash2 n v0 (Pl.mk b3_0 b3_1 b3_2 b3_3)).bind fun v1 => frk v1 (some false) ((lsl t0 0 t13).bind fun v2 => loopN (Dimpl_room_1 n rec0 t0 t11 t12 b3_0 b3_1 b3_2 b3_3 t13 v2 (v2.length : Int) v0.A v0.B v0.C v0.D) n 0)) (some true)
theorem Timpl_room_2 {Y} (n : Nat) (t0 : List Pl) (t11 : List Pl) (t12 b3_0 b3_1 b3_2 b3_3 : Int) : ∀ (m : Nat) (a : Int) (r : Bool), loopN (Dimpl_room_2 n t0 t11 t12 b3_0 b3_1 b3_2 b3_3) m a = some r → Wk Tryz.prog H Y 137 [.code (cp [1, 0, 1, 0] (bodyOf Tryz.f137)), .blk 0, .code (cp [1, 1] (bodyOf Tryz.f137))] (FinX Tryz.prog Tryz.f137 [] (bl r) []) ⟨[(0, .sl false 4 t0.length ((ePl).f t0)), (3, .ptr 3 0), (11, .sl false 4 t11.length ((ePl).f t11)), (12, i64 t12), (13, i64 a)], [(3, ⟨true, 0, [i64 b3_0, i64 b3_1, i64 b3_2, i64 b3_3]⟩)]⟩ := by
  refine loopN_ind (fun rec0 hrec0 a r h => ?_)
  obtain ⟨t13, rfl⟩ : ∃ x, x = a := ⟨a, rfl⟩
  unfold Dimpl_room_2 at h
  refine x_frk 6 [] onil h (by kernel_rfl) (fun h => ?_) (fun h => ?_)
  · obtain ⟨v0, hv0, h⟩ := bind_some h
    obtain ⟨v1, hv1, h⟩ := bind_some h
    refine x_frk 19 [(1, .val (.cptr (ePl.c v0 ++ (ePl).f ((t11).drop (Int.toNat t13 + 1))))), (6, .call [] [] (bl v1) [])] (ocons (ix ePl hv0) (ocons (Timpl_clash2 (Y := Y) n v0 (Pl.mk b3_0 b3_1 b3_2 b3_3) _ hv1) onil)) h (by kernel_rfl) (fun h => ?_) (fun h => ?_)
    · replace h := Option.some.inj h; subst h
      exact x_end 4 [] [] onil onil (by kernel_rfl)
    · obtain ⟨v2, hv2, h⟩ := bind_some h
      exact x_to 10 [(2, .val (.sl false 4 v2.length ((ePl).f v2)))] (ocons (slF ePl hv2) onil) (Timpl_room_1 n rec0 t0 t11 t12 b3_0 b3_1 b3_2 b3_3 hrec0 t13 v2 (v2.length : Int) v0.A v0.B v0.C v0.D n 0 r h) (by kernel_rfl)
  · replace h := Option.some.inj h; subst h
    exact x_end 5 [] [] onil onil (by kernel_rfl)
def Dimpl_room (n : Nat) (a0 : (List Pl)) (a1 : Pl) : Option Bool :=
  loopN (Dimpl_room_2 n a0 a0 (a0.length : Int) a1.A a1.B a1.C a1.D) n 0
theorem Timpl_room {Y} (n : Nat) (a0 : (List Pl)) (a1 : Pl) (r : Bool) (h : Dimpl_room n a0 a1 = some r) : Big Tryz.prog H Y (.call 137 [.sl false 4 a0.length ((ePl).f a0), .agg [i64 a1.A, i64 a1.B, i64 a1.C, i64 a1.D]] (lk []) (bl r) (lk [])) := by
  unfold Dimpl_room at h
  refine x_call (fn := Tryz.f137) (c := bodyOf Tryz.f137) (bs0 := []) Tryz.func137 (by kernel_rfl) (by kernel_rfl) ?_
  exact x_to 13 [] onil (Timpl_room_2 n a0 a0 (a0.length : Int) a1.A a1.B a1.C a1.D n 0 r h) (by kernel_rfl)
/-! impl.open -/
def Dimpl_open_0 (n : Nat) (t0 : List Pl) (t5 : List Pl) (t6 : Int) (rec0 : Int → Option Bool) (a : Int) : Option Bool :=
  match a with
  | t7 => frk (decide (t7 < t6)) ((lget t5 t7).bind fun v0 => (lsl t0 0 t7).bind fun v1 => (Dimpl_room n v1 v0).bind fun v2 => frk (!v2) (some false) (rec0 (w64 (t7 + 1)))) (some true)
theorem Timpl_open_0 {Y} (n : Nat) (t0 : List Pl) (t5 : List Pl) (t6 : Int) : ∀ (m : Nat) (a : Int) (r : Bool), loopN (Dimpl_open_0 n t0 t5 t6) m a = some r → Wk Tryz.prog H Y 106 [.code (cp [1, 0, 1, 0] (bodyOf Tryz.f106)), .blk 0, .code (cp [1, 1] (bodyOf Tryz.f106))] (FinX Tryz.prog Tryz.f106 [] (bl r) []) ⟨[(0, .sl false 4 t0.length ((ePl).f t0)), (5, .sl false 4 t5.length ((ePl).f t5)), (6, i64 t6), (7, i64 a)], []⟩ := by
  refine loopN_ind (fun _rec0 hrec0 a r h => ?_)
  obtain ⟨t7, rfl⟩ : ∃ x, x = a := ⟨a, rfl⟩
  unfold Dimpl_open_0 at h
  refine x_frk 6 [] onil h (by kernel_rfl) (fun h => ?_) (fun h => ?_)
  · obtain ⟨v0, hv0, h⟩ := bind_some h
    obtain ⟨v1, hv1, h⟩ := bind_some h
    obtain ⟨v2, hv2, h⟩ := bind_some h
    refine x_frk 21 [(1, .val (.cptr (ePl.c v0 ++ (ePl).f ((t5).drop (Int.toNat t7 + 1))))), (6, .val (.sl false 4 v1.length ((ePl).f v1))), (1, .call [] [] (bl v2) [])] (ocons (ix ePl hv0) (ocons (slF ePl hv1) (ocons (Timpl_room (Y := Y) n v1 v0 _ hv2) onil))) h (by kernel_rfl) (fun h => ?_) (fun h => ?_)
    · replace h := Option.some.inj h; subst h
      exact x_end 4 [] [] onil onil (by kernel_rfl)
    · exact x_to 7 [] onil (hrec0 (w64 (t7 + 1)) r h) (by kernel_rfl)
  · replace h := Option.some.inj h; subst h
    exact x_end 5 [] [] onil onil (by kernel_rfl)
def Dimpl_open (n : Nat) (a0 : (List Pl)) : Option Bool :=
  loopN (Dimpl_open_0 n a0 a0 (a0.length : Int)) n 0
theorem Timpl_open {Y} (n : Nat) (a0 : (List Pl)) (r : Bool) (h : Dimpl_open n a0 = some r) : Big Tryz.prog H Y (.call 106 [.sl false 4 a0.length ((ePl).f a0)] (lk []) (bl r) (lk [])) := by
  unfold Dimpl_open at h
  refine x_call (fn := Tryz.f106) (c := bodyOf Tryz.f106) (bs0 := []) Tryz.func106 (by kernel_rfl) (by kernel_rfl) ?_
  exact x_to 12 [] onil (Timpl_open_0 n a0 a0 (a0.length : Int) n 0 r h) (by kernel_rfl)
/-! impl.flip -/
def Dimpl_flip (a0 : Pl) : Option Pl :=
  some (Pl.mk (w64 (0 - a0.A)) (w64 (0 - a0.B)) (w64 (0 - a0.C)) (w64 (0 - a0.D)))
theorem Timpl_flip {Y} (a0 : Pl) (r : Pl) (h : Dimpl_flip a0 = some r) : Big Tryz.prog H Y (.call 136 [.agg [i64 a0.A, i64 a0.B, i64 a0.C, i64 a0.D]] (lk []) (.agg [i64 r.A, i64 r.B, i64 r.C, i64 r.D]) (lk [])) := by
  unfold Dimpl_flip at h
  refine x_call (fn := Tryz.f136) (c := bodyOf Tryz.f136) (bs0 := []) Tryz.func136 (by kernel_rfl) (by kernel_rfl) ?_
  replace h := Option.some.inj h; subst h
  exact x_end 22 [] [] onil onil (by kernel_rfl)
/-! impl.Leaf -/
def Dimpl_Leaf (a0 : Bool) : Option Sol :=
  some (Sol.mk a0 (Pl.mk 0 0 0 0) [])
theorem Timpl_Leaf {Y} (a0 : Bool) (r : Sol) (h : Dimpl_Leaf a0 = some r) : Big Tryz.prog H Y (.call 28 [bl a0] (lk []) (.agg [bl r.inn, i64 r.pl.A, i64 r.pl.B, i64 r.pl.C, i64 r.pl.D, .sl true 6 r.kids.length ((eSol true).f r.kids)]) (lk [])) := by
  unfold Dimpl_Leaf at h
  refine x_call (fn := Tryz.f28) (c := bodyOf Tryz.f28) (bs0 := []) Tryz.func28 (by kernel_rfl) (by kernel_rfl) ?_
  replace h := Option.some.inj h; subst h
  exact x_end 10 [] [(true, 6)] onil onil (by kernel_rfl)
/-! impl.node -/
def Dimpl_nodeo1o2 (a0 : Pl) (a1 : Sol) (a2 : Sol) : Option Sol :=
  some (Sol.mk false a0 [a1, a2])
theorem Timpl_nodeo1o2 {Y} (a0 : Pl) (a1 : Sol) (a2 : Sol) (r : Sol) (h : Dimpl_nodeo1o2 a0 a1 a2 = some r) : Big Tryz.prog H Y (.call 101 [.agg [i64 a0.A, i64 a0.B, i64 a0.C, i64 a0.D], .agg [bl a1.inn, i64 a1.pl.A, i64 a1.pl.B, i64 a1.pl.C, i64 a1.pl.D, .sl true 6 a1.kids.length ((eSol true).f a1.kids)], .agg [bl a2.inn, i64 a2.pl.A, i64 a2.pl.B, i64 a2.pl.C, i64 a2.pl.D, .sl true 6 a2.kids.length ((eSol true).f a2.kids)]] (lk []) (.agg [bl r.inn, i64 r.pl.A, i64 r.pl.B, i64 r.pl.C, i64 r.pl.D, .sl true 6 r.kids.length ((eSol true).f r.kids)]) (lk [])) := by
  unfold Dimpl_nodeo1o2 at h
  refine x_call (fn := Tryz.f101) (c := bodyOf Tryz.f101) (bs0 := []) Tryz.func101 (by kernel_rfl) (by kernel_rfl) ?_
  replace h := Option.some.inj h; subst h
  exact x_end 17 [(8, .fixb 10 ⟨true, 6, (eSol true).f [a1, a2]⟩)] [] (ocons (boxSol true true [a1, a2]) onil) (ocons (len_row (L := [a1, a2]) (eSol true)) onil) (by kernel_rfl)
/-! impl.convex -/
def Dimpl_convex_1 (_n : Nat) (_b2_0 : Bool) (_b2_1 _b2_2 _b2_3 _b2_4 : Int) (l503 : List Pl) (rec1 : (Int × Bool × Int × Int × Int × Int × List Sol) → Option Sol) (a : (Int × Bool × Int × Int × Int × Int × List Sol)) : Option Sol :=
  match a with
  | (t7, b6_0, b6_1, b6_2, b6_3, b6_4, b6_5) => frk (decide (t7 ≥ 0)) ((lget l503 t7).bind fun v5 => (Dimpl_Leaf false).bind fun v6 => (Dimpl_nodeo1o2 v5 (Sol.mk b6_0 (Pl.mk b6_1 b6_2 b6_3 b6_4) b6_5) v6).bind fun v7 => rec1 (w64 (t7 - 1), v7.inn, v7.pl.A, v7.pl.B, v7.pl.C, v7.pl.D, v7.kids)) (some (Sol.mk b6_0 (Pl.mk b6_1 b6_2 b6_3 b6_4) b6_5))
theorem Timpl_convex_1 {Y} (n : Nat) (b2_0 : Bool) (b2_1 b2_2 b2_3 b2_4 : Int) (l503 : List Pl) : ∀ (m : Nat) (a : (Int × Bool × Int × Int × Int × Int × List Sol)) (r : Sol), loopN (Dimpl_convex_1 n b2_0 b2_1 b2_2 b2_3 b2_4 l503) m a = some r → Wk Tryz.prog H Y 107 [.code (cp [1, 1, 1, 1, 0, 1, 0] (bodyOf Tryz.f107)), .blk 2, .code (cp [1, 1, 1, 1, 1] (bodyOf Tryz.f107))] (FinX Tryz.prog Tryz.f107 [] (.agg [bl r.inn, i64 r.pl.A, i64 r.pl.B, i64 r.pl.C, i64 r.pl.D, .sl true 6 r.kids.length ((eSol true).f r.kids)]) []) ⟨[(2, .ptr 2 0), (3, .msl 503 l503.length), (6, .ptr 6 0), (7, i64 a.1)], [(2, ⟨true, 0, [bl b2_0, i64 b2_1, i64 b2_2, i64 b2_3, i64 b2_4, .nil]⟩), (6, ⟨true, 0, [bl a.2.1, i64 a.2.2.1, i64 a.2.2.2.1, i64 a.2.2.2.2.1, i64 a.2.2.2.2.2.1, .sl true 6 a.2.2.2.2.2.2.length ((eSol true).f a.2.2.2.2.2.2)]⟩), (503, ⟨true, 4, (ePl).f l503⟩)]⟩ := by
  refine loopN_ind (fun _rec1 hrec1 a r h => ?_)
  obtain ⟨t7, b6_0, b6_1, b6_2, b6_3, b6_4, b6_5⟩ := a
  unfold Dimpl_convex_1 at h
  refine x_frk 7 [] onil h (by kernel_rfl) (fun h => ?_) (fun h => ?_)
  · obtain ⟨v5, hv5, h⟩ := bind_some h
    obtain ⟨v6, hv6, h⟩ := bind_some h
    obtain ⟨v7, hv7, h⟩ := bind_some h
    exact x_to 20 [(2, .unit), (0, .cells [i64 v5.A, i64 v5.B, i64 v5.C, i64 v5.D]), (1, .call [] [] (.agg [bl v6.inn, i64 v6.pl.A, i64 v6.pl.B, i64 v6.pl.C, i64 v6.pl.D, .sl true 6 v6.kids.length ((eSol true).f v6.kids)]) []), (0, .call [] [] (.agg [bl v7.inn, i64 v7.pl.A, i64 v7.pl.B, i64 v7.pl.C, i64 v7.pl.D, .sl true 6 v7.kids.length ((eSol true).f v7.kids)]) [])] (ocons (inr hv5) (ocons (ldA ePl hv5 0 4 rfl rfl) (ocons (Timpl_Leaf (Y := Y) false _ hv6) (ocons (Timpl_nodeo1o2 (Y := Y) v5 (Sol.mk b6_0 (Pl.mk b6_1 b6_2 b6_3 b6_4) b6_5) v6 _ hv7) onil)))) (hrec1 (w64 (t7 - 1), v7.inn, v7.pl.A, v7.pl.B, v7.pl.C, v7.pl.D, v7.kids) r h) (by kernel_rfl)
  · replace h := Option.some.inj h; subst h
    exact x_end 6 [] [] onil onil (by kernel_rfl)
def Dimpl_convex_0 (n : Nat) (b2_0 : Bool) (b2_1 b2_2 b2_3 b2_4 : Int) (l503 : List Pl) : Option Sol :=
  (Dimpl_Leaf true).bind fun v4 => loopN (Dimpl_convex_1 n b2_0 b2_1 b2_2 b2_3 b2_4 l503) n (w64 ((l503.length : Int) - 1), v4.inn, v4.pl.A, v4.pl.B, v4.pl.C, v4.pl.D, v4.kids)
theorem Timpl_convex_0 {Y} (n : Nat) (b2_0 : Bool) (b2_1 b2_2 b2_3 b2_4 : Int) (l503 : List Pl) (r : Sol) (h : Dimpl_convex_0 n b2_0 b2_1 b2_2 b2_3 b2_4 l503 = some r) : Wk Tryz.prog H Y 107 [.code (cp [1, 1, 1, 0] (bodyOf Tryz.f107)), .code (cp [1, 1, 1, 1] (bodyOf Tryz.f107))] (FinX Tryz.prog Tryz.f107 [] (.agg [bl r.inn, i64 r.pl.A, i64 r.pl.B, i64 r.pl.C, i64 r.pl.D, .sl true 6 r.kids.length ((eSol true).f r.kids)]) []) ⟨[(2, .ptr 2 0), (3, .msl 503 l503.length)], [(2, ⟨true, 0, [bl b2_0, i64 b2_1, i64 b2_2, i64 b2_3, i64 b2_4, .nil]⟩), (503, ⟨true, 4, (ePl).f l503⟩)]⟩ := by
  unfold Dimpl_convex_0 at h
  obtain ⟨v4, hv4, h⟩ := bind_some h
  exact x_to 14 [(0, .call [] [] (.agg [bl v4.inn, i64 v4.pl.A, i64 v4.pl.B, i64 v4.pl.C, i64 v4.pl.D, .sl true 6 v4.kids.length ((eSol true).f v4.kids)]) [])] (ocons (Timpl_Leaf (Y := Y) true _ hv4) onil) (Timpl_convex_1 n b2_0 b2_1 b2_2 b2_3 b2_4 l503 n (w64 ((l503.length : Int) - 1), v4.inn, v4.pl.A, v4.pl.B, v4.pl.C, v4.pl.D, v4.kids) r h) (by kernel_rfl)
def Dimpl_convex_2 (n : Nat) (t8 : List Pl) (t9 : Int) (b2_0 : Bool) (b2_1 b2_2 b2_3 b2_4 : Int) (rec0 : (Int × List Pl) → Option Sol) (a : (Int × List Pl)) : Option Sol :=
  match a with
  | (t10, l503) => frk (decide (t10 < t9)) ((lget t8 t10).bind fun v0 => (Dimpl_flip v0).bind fun v1 => (Dimpl_room n l503 v1).bind fun v2 => frk v2 (chk (apB 32 (l503.length + 1)) (rec0 (w64 (t10 + 1), (l503 ++ [v0])))) (rec0 (w64 (t10 + 1), l503))) (Dimpl_convex_0 n b2_0 b2_1 b2_2 b2_3 b2_4 l503)
theorem Timpl_convex_2 {Y} (n : Nat) (t8 : List Pl) (t9 : Int) (b2_0 : Bool) (b2_1 b2_2 b2_3 b2_4 : Int) : ∀ (m : Nat) (a : (Int × List Pl)) (r : Sol), loopN (Dimpl_convex_2 n t8 t9 b2_0 b2_1 b2_2 b2_3 b2_4) m a = some r → Wk Tryz.prog H Y 107 [.code (cp [1, 1, 0, 1, 0] (bodyOf Tryz.f107)), .blk 0, .code (cp [1, 1, 1] (bodyOf Tryz.f107))] (FinX Tryz.prog Tryz.f107 [] (.agg [bl r.inn, i64 r.pl.A, i64 r.pl.B, i64 r.pl.C, i64 r.pl.D, .sl true 6 r.kids.length ((eSol true).f r.kids)]) []) ⟨[(2, .ptr 2 0), (3, .msl 503 a.2.length), (8, .sl false 4 t8.length ((ePl).f t8)), (9, i64 t9), (10, i64 a.1)], [(2, ⟨true, 0, [bl b2_0, i64 b2_1, i64 b2_2, i64 b2_3, i64 b2_4, .nil]⟩), (503, ⟨true, 4, (ePl).f a.2⟩)]⟩ := by
  refine loopN_ind (fun _rec0 hrec0 a r h => ?_)
  obtain ⟨t10, l503⟩ := a
  unfold Dimpl_convex_2 at h
  refine x_frk 6 [] onil h (by kernel_rfl) (fun h => ?_) (fun h => ?_)
  · obtain ⟨v0, hv0, h⟩ := bind_some h
    obtain ⟨v1, hv1, h⟩ := bind_some h
    obtain ⟨v2, hv2, h⟩ := bind_some h
    refine x_frk 17 [(0, .val (.cptr (ePl.c v0 ++ (ePl).f ((t8).drop (Int.toNat t10 + 1))))), (5, .call [] [] (.agg [i64 v1.A, i64 v1.B, i64 v1.C, i64 v1.D]) []), (0, .call [] [(ePl).f l503] (bl v2) [])] (ocons (ix ePl hv0) (ocons (Timpl_flip (Y := Y) v0 _ hv1) (ocons (Timpl_room (Y := Y) n l503 v1 _ hv2) (ocons (len_row (L := l503) ePl) (ocons (Enc.share ePl ePl sPl l503) onil))))) h (by kernel_rfl) (fun h => ?_) (fun h => ?_)
    · obtain ⟨c3, h⟩ := chk_some h
      exact x_to 14 [(3, .app false (List.length (l503 ++ [v0])) ((ePl).f (l503 ++ [v0]))), (3, .ren 21 503)] (ocons (len_row' (L := l503) ePl) (ocons (app_one (L := l503) (M := [v0]) ePl c3) (ocons (app_new (L := l503) (M := [v0]) ePl) (ocons (app_m (L := l503) (M := [v0]) ePl rfl) (ocons (len_row' (L := [v0]) ePl) (ocons (Enc.noOwn ePl (fun _ => rfl) [v0]) (ocons (show 21 < 1000 ∧ 503 < 1000 by decide) onil))))))) (hrec0 (w64 (t10 + 1), (l503 ++ [v0])) r h) (by kernel_rfl)
    · exact x_to 7 [] onil (hrec0 (w64 (t10 + 1), l503) r h) (by kernel_rfl)
  · exact x_to 2 [] onil (Timpl_convex_0 n b2_0 b2_1 b2_2 b2_3 b2_4 l503 r h) (by kernel_rfl)
def Dimpl_convex (n : Nat) (a0 : (List Pl)) : Option Sol :=
  loopN (Dimpl_convex_2 n a0 (a0.length : Int) false 0 0 0 0) n (0, [])
theorem Timpl_convex {Y} (n : Nat) (a0 : (List Pl)) (r : Sol) (h : Dimpl_convex n a0 = some r) : Big Tryz.prog H Y (.call 107 [.sl false 4 a0.length ((ePl).f a0)] (lk []) (.agg [bl r.inn, i64 r.pl.A, i64 r.pl.B, i64 r.pl.C, i64 r.pl.D, .sl true 6 r.kids.length ((eSol true).f r.kids)]) (lk [])) := by
  unfold Dimpl_convex at h
  refine x_call (fn := Tryz.f107) (c := bodyOf Tryz.f107) (bs0 := []) Tryz.func107 (by kernel_rfl) (by kernel_rfl) ?_
  exact x_to 17 [(2, .virt 3 503 4)] (ocons (rflV .nil) (ocons (show 503 < 1000 ∧ 4 ≠ 0 by decide) onil)) (Timpl_convex_2 n a0 (a0.length : Int) false 0 0 0 0 n (0, []) r h) (by kernel_rfl)
/-! impl.Convex -/
def Dimpl_Convex_0 (n : Nat) (t0 : List Pl) (t4 _b2_0 : Bool) (_b2_1 _b2_2 _b2_3 _b2_4 : Int) : Option (Sol × Int) :=
  frk t4 (some ((Sol.mk false (Pl.mk 0 0 0 0) []), 1)) ((Dimpl_open n t0).bind fun v1 => frk (!v1) (some ((Sol.mk false (Pl.mk 0 0 0 0) []), 2)) ((Dimpl_convex n t0).bind fun v2 => some (v2, 0)))
theorem Timpl_Convex_0 {Y} (n : Nat) (t0 : List Pl) (t4 b2_0 : Bool) (b2_1 b2_2 b2_3 b2_4 : Int) (r : (Sol × Int)) (h : Dimpl_Convex_0 n t0 t4 b2_0 b2_1 b2_2 b2_3 b2_4 = some r) : Wk Tryz.prog H Y 45 [.code (cp [1, 0, 0, 1] (bodyOf Tryz.f45)), .blk 0, .code (cp [1, 1] (bodyOf Tryz.f45))] (FinX Tryz.prog Tryz.f45 [] (.tup [.agg [bl r.1.inn, i64 r.1.pl.A, i64 r.1.pl.B, i64 r.1.pl.C, i64 r.1.pl.D, .sl true 6 r.1.kids.length ((eSol true).f r.1.kids)], i64 r.2]) []) ⟨[(0, .sl false 4 t0.length ((ePl).f t0)), (2, .ptr 2 0), (4, bl t4)], [(2, ⟨true, 0, [bl b2_0, i64 b2_1, i64 b2_2, i64 b2_3, i64 b2_4, .nil]⟩)]⟩ := by
  unfold Dimpl_Convex_0 at h
  refine x_frk 0 [] onil h (by kernel_rfl) (fun h => ?_) (fun h => ?_)
  · replace h := Option.some.inj h; subst h
    exact x_end 6 [] [(true, 6)] onil onil (by kernel_rfl)
  · obtain ⟨v1, hv1, h⟩ := bind_some h
    refine x_frk 7 [(1, .call [] [] (bl v1) [])] (ocons (Timpl_open (Y := Y) n t0 _ hv1) onil) h (by kernel_rfl) (fun h => ?_) (fun h => ?_)
    · replace h := Option.some.inj h; subst h
      exact x_end 6 [] [(true, 6)] onil onil (by kernel_rfl)
    · obtain ⟨v2, hv2, h⟩ := bind_some h
      replace h := Option.some.inj h; subst h
      exact x_end 9 [(1, .call [] [] (.agg [bl v2.inn, i64 v2.pl.A, i64 v2.pl.B, i64 v2.pl.C, i64 v2.pl.D, .sl true 6 v2.kids.length ((eSol true).f v2.kids)]) [])] [] (ocons (Timpl_convex (Y := Y) n t0 _ hv2) onil) onil (by kernel_rfl)
def Dimpl_Convex (n : Nat) (a0 : (List Pl)) : Option (Sol × Int) :=
  frk (decide ((a0.length : Int) > 24)) (some ((Sol.mk false (Pl.mk 0 0 0 0) []), 1)) ((Dimpl_planesOk n a0).bind fun v0 => Dimpl_Convex_0 n a0 (!v0) false 0 0 0 0)
theorem Timpl_Convex {Y} (n : Nat) (a0 : (List Pl)) (r : (Sol × Int)) (h : Dimpl_Convex n a0 = some r) : Big Tryz.prog H Y (.call 45 [.sl false 4 a0.length ((ePl).f a0)] (lk []) (.tup [.agg [bl r.1.inn, i64 r.1.pl.A, i64 r.1.pl.B, i64 r.1.pl.C, i64 r.1.pl.D, .sl true 6 r.1.kids.length ((eSol true).f r.1.kids)], i64 r.2]) (lk [])) := by
  unfold Dimpl_Convex at h
  refine x_call (fn := Tryz.f45) (c := bodyOf Tryz.f45) (bs0 := []) Tryz.func45 (by kernel_rfl) (by kernel_rfl) ?_
  refine x_frk 13 [] onil h (by kernel_rfl) (fun h => ?_) (fun h => ?_)
  · replace h := Option.some.inj h; subst h
    exact x_end 13 [] [(true, 6)] onil onil (by kernel_rfl)
  · obtain ⟨v0, hv0, h⟩ := bind_some h
    exact x_to 6 [(1, .call [] [] (bl v0) [])] (ocons (Timpl_planesOk (Y := Y) n a0 _ hv0) onil) (Timpl_Convex_0 n a0 (!v0) false 0 0 0 0 r h) (by kernel_rfl)
/-! impl.Solid).isLeaf -/
def Dimpl_Solid_isLeaf (a0 : Sol) : Option Bool :=
  some ((a0.kids.length : Int) == 0)
theorem Timpl_Solid_isLeaf {Y} (a0 : Sol) (q0 : List AV) (r : Bool) (h : Dimpl_Solid_isLeaf a0 = some r) : Big Tryz.prog H Y (.call 131 [.cptr ([bl a0.inn, i64 a0.pl.A, i64 a0.pl.B, i64 a0.pl.C, i64 a0.pl.D, .sl false 6 a0.kids.length ((eSol false).f a0.kids)] ++ q0)] (lk []) (bl r) (lk [])) := by
  unfold Dimpl_Solid_isLeaf at h
  refine x_call (fn := Tryz.f131) (c := bodyOf Tryz.f131) (bs0 := []) Tryz.func131 (by kernel_rfl) (by kernel_rfl) ?_
  replace h := Option.some.inj h; subst h
  exact x_end 14 [] [] onil onil (by kernel_rfl)
/-! impl.merger).leaf -/
def Dimpl_merger_leaf (a0 : (Int × Int × Bool)) (a1 a2 : Bool) : Option (Sol × (Int × Int × Bool)) :=
  frk (a0.1 == 1) (frk a1 ((Dimpl_Leaf a2).bind fun v0 => some (v0, a0)) ((Dimpl_Leaf false).bind fun v1 => some (v1, a0))) (frk (a0.1 == 2) (frk a1 ((Dimpl_Leaf true).bind fun v2 => some (v2, a0)) ((Dimpl_Leaf a2).bind fun v3 => some (v3, a0))) (frk (a0.1 == 3) (frk a1 ((Dimpl_Leaf (!a2)).bind fun v4 => some (v4, a0)) ((Dimpl_Leaf false).bind fun v5 => some (v5, a0))) ((Dimpl_Leaf (!(a1 == a2))).bind fun v6 => some (v6, a0))))
theorem Timpl_merger_leaf {Y} (a0 : (Int × Int × Bool)) (a1 a2 : Bool) (r : (Sol × (Int × Int × Bool))) (h : Dimpl_merger_leaf a0 a1 a2 = some r) : Big Tryz.prog H Y (.call 206 [.ptr 1000 0, bl a1, bl a2] (lk [(1000, ⟨true, 0, [i64 a0.1, i64 a0.2.1, bl a0.2.2]⟩)]) (.agg [bl r.1.inn, i64 r.1.pl.A, i64 r.1.pl.B, i64 r.1.pl.C, i64 r.1.pl.D, .sl true 6 r.1.kids.length ((eSol true).f r.1.kids)]) (lk [(1000, ⟨true, 0, [i64 r.2.1, i64 r.2.2.1, bl r.2.2.2]⟩)])) := by
  unfold Dimpl_merger_leaf at h
  refine x_call (fn := Tryz.f206) (c := bodyOf Tryz.f206) (bs0 := [(1000, ⟨true, 0, [.bad, .bad, .bad]⟩)]) Tryz.func206 (by kernel_rfl) (by kernel_rfl) ?_
  refine x_frk 18 [] onil h (by kernel_rfl) (fun h => ?_) (fun h => ?_)
  · refine x_frk 4 [] onil h (by kernel_rfl) (fun h => ?_) (fun h => ?_)
    · obtain ⟨v0, hv0, h⟩ := bind_some h
      replace h := Option.some.inj h; subst h
      exact x_end 5 [(2, .call [] [] (.agg [bl v0.inn, i64 v0.pl.A, i64 v0.pl.B, i64 v0.pl.C, i64 v0.pl.D, .sl true 6 v0.kids.length ((eSol true).f v0.kids)]) [])] [] (ocons (Timpl_Leaf (Y := Y) a2 _ hv0) onil) onil (by kernel_rfl)
    · obtain ⟨v1, hv1, h⟩ := bind_some h
      replace h := Option.some.inj h; subst h
      exact x_end 5 [(2, .call [] [] (.agg [bl v1.inn, i64 v1.pl.A, i64 v1.pl.B, i64 v1.pl.C, i64 v1.pl.D, .sl true 6 v1.kids.length ((eSol true).f v1.kids)]) [])] [] (ocons (Timpl_Leaf (Y := Y) false _ hv1) onil) onil (by kernel_rfl)
  · refine x_frk 5 [] onil h (by kernel_rfl) (fun h => ?_) (fun h => ?_)
    · refine x_frk 4 [] onil h (by kernel_rfl) (fun h => ?_) (fun h => ?_)
      · obtain ⟨v2, hv2, h⟩ := bind_some h
        replace h := Option.some.inj h; subst h
        exact x_end 5 [(2, .call [] [] (.agg [bl v2.inn, i64 v2.pl.A, i64 v2.pl.B, i64 v2.pl.C, i64 v2.pl.D, .sl true 6 v2.kids.length ((eSol true).f v2.kids)]) [])] [] (ocons (Timpl_Leaf (Y := Y) true _ hv2) onil) onil (by kernel_rfl)
      · obtain ⟨v3, hv3, h⟩ := bind_some h
        replace h := Option.some.inj h; subst h
        exact x_end 5 [(2, .call [] [] (.agg [bl v3.inn, i64 v3.pl.A, i64 v3.pl.B, i64 v3.pl.C, i64 v3.pl.D, .sl true 6 v3.kids.length ((eSol true).f v3.kids)]) [])] [] (ocons (Timpl_Leaf (Y := Y) a2 _ hv3) onil) onil (by kernel_rfl)
    · refine x_frk 5 [] onil h (by kernel_rfl) (fun h => ?_) (fun h => ?_)
      · refine x_frk 4 [] onil h (by kernel_rfl) (fun h => ?_) (fun h => ?_)
        · obtain ⟨v4, hv4, h⟩ := bind_some h
          replace h := Option.some.inj h; subst h
          exact x_end 6 [(3, .call [] [] (.agg [bl v4.inn, i64 v4.pl.A, i64 v4.pl.B, i64 v4.pl.C, i64 v4.pl.D, .sl true 6 v4.kids.length ((eSol true).f v4.kids)]) [])] [] (ocons (Timpl_Leaf (Y := Y) (!a2) _ hv4) onil) onil (by kernel_rfl)
        · obtain ⟨v5, hv5, h⟩ := bind_some h
          replace h := Option.some.inj h; subst h
          exact x_end 6 [(3, .call [] [] (.agg [bl v5.inn, i64 v5.pl.A, i64 v5.pl.B, i64 v5.pl.C, i64 v5.pl.D, .sl true 6 v5.kids.length ((eSol true).f v5.kids)]) [])] [] (ocons (Timpl_Leaf (Y := Y) false _ hv5) onil) onil (by kernel_rfl)
      · obtain ⟨v6, hv6, h⟩ := bind_some h
        replace h := Option.some.inj h; subst h
        exact x_end 10 [(3, .call [] [] (.agg [bl v6.inn, i64 v6.pl.A, i64 v6.pl.B, i64 v6.pl.C, i64 v6.pl.D, .sl true 6 v6.kids.length ((eSol true).f v6.kids)]) [])] [] (ocons (Timpl_Leaf (Y := Y) (!(a1 == a2)) _ hv6) onil) onil (by kernel_rfl)
/-! impl.with -/
def Dimpl_with (a0 : (List Pl)) (a1 : Pl) : Option (List Pl) :=
  chk (apB 32 (0 + a0.length)) (chk (apB 32 (([] ++ a0).length + 1)) (some (([] ++ a0) ++ [a1])))
theorem Timpl_with {Y} (a0 : (List Pl)) (a1 : Pl) (r : (List Pl)) (h : Dimpl_with a0 a1 = some r) : Big Tryz.prog H Y (.call 138 [.sl false 4 a0.length ((ePl).f a0), .agg [i64 a1.A, i64 a1.B, i64 a1.C, i64 a1.D]] (lk []) (.sl true 4 r.length ((ePl).f r)) (lk [])) := by
  unfold Dimpl_with at h
  refine x_call (fn := Tryz.f138) (c := bodyOf Tryz.f138) (bs0 := []) Tryz.func138 (by kernel_rfl) (by kernel_rfl) ?_
  obtain ⟨c0, h⟩ := chk_some h
  obtain ⟨c1, h⟩ := chk_some h
  replace h := Option.some.inj h; subst h
  exact x_end 15 [(4, .app false (List.length ([] ++ a0)) ((ePl).f ([] ++ a0))), (2, .app false (List.length (([] ++ a0) ++ [a1])) ((ePl).f (([] ++ a0) ++ [a1])))] [] (ocons (len_row' (L := []) ePl) (ocons (app_one (L := []) (M := a0) ePl c0) (ocons (app_new (L := []) (M := a0) ePl) (ocons (app_m (L := []) (M := a0) ePl rfl) (ocons (len_row' (L := a0) ePl) (ocons (len_row' (L := ([] ++ a0)) ePl) (ocons (app_one (L := ([] ++ a0)) (M := [a1]) ePl c1) (ocons (app_new (L := ([] ++ a0)) (M := [a1]) ePl) (ocons (app_m (L := ([] ++ a0)) (M := [a1]) ePl rfl) (ocons (len_row' (L := [a1]) ePl) (ocons (Enc.noOwn ePl (fun _ => rfl) [a1]) onil))))))))))) (ocons (len_row (L := (([] ++ a0) ++ [a1])) ePl) onil) (by kernel_rfl)
/-! impl.merger).join -/
def Dimpl_merger_joino2o3_1 (b5_0 b5_1 b5_2 b5_3 : Int) (b6_0 : Bool) (b6_1 b6_2 b6_3 b6_4 : Int) (b6_5 : List Sol) (b7_0 : Bool) (b7_1 b7_2 b7_3 b7_4 : Int) (b7_5 : List Sol) (_b8_0 : Bool) (_b8_1 _b8_2 _b8_3 _b8_4 b1000_0 b1000_1 : Int) (b1000_2 : Bool) : Option (Sol × (Int × Int × Bool)) :=
  (Dimpl_nodeo1o2 (Pl.mk b5_0 b5_1 b5_2 b5_3) (Sol.mk b6_0 (Pl.mk b6_1 b6_2 b6_3 b6_4) b6_5) (Sol.mk b7_0 (Pl.mk b7_1 b7_2 b7_3 b7_4) b7_5)).bind fun v3 => some (v3, (b1000_0, b1000_1, b1000_2))
theorem Timpl_merger_joino2o3_1 {Y} (b5_0 b5_1 b5_2 b5_3 : Int) (b6_0 : Bool) (b6_1 b6_2 b6_3 b6_4 : Int) (b6_5 : List Sol) (b7_0 : Bool) (b7_1 b7_2 b7_3 b7_4 : Int) (b7_5 : List Sol) (b8_0 : Bool) (b8_1 b8_2 b8_3 b8_4 b1000_0 b1000_1 : Int) (b1000_2 : Bool) (r : (Sol × (Int × Int × Bool))) (h : Dimpl_merger_joino2o3_1 b5_0 b5_1 b5_2 b5_3 b6_0 b6_1 b6_2 b6_3 b6_4 b6_5 b7_0 b7_1 b7_2 b7_3 b7_4 b7_5 b8_0 b8_1 b8_2 b8_3 b8_4 b1000_0 b1000_1 b1000_2 = some r) : Wk Tryz.prog H Y 184 [.code (cp [1, 1, 1, 1, 0] (bodyOf Tryz.f184)), .code (cp [1, 1, 1, 1, 1] (bodyOf Tryz.f184))] (FinX Tryz.prog Tryz.f184 [(1000, ⟨true, 0, [.bad, .bad, .bad]⟩)] (.agg [bl r.1.inn, i64 r.1.pl.A, i64 r.1.pl.B, i64 r.1.pl.C, i64 r.1.pl.D, .sl true 6 r.1.kids.length ((eSol true).f r.1.kids)]) [(1000, ⟨true, 0, [i64 r.2.1, i64 r.2.2.1, bl r.2.2.2]⟩)]) ⟨[(5, .ptr 5 0), (6, .ptr 6 0), (7, .ptr 7 0), (8, .ptr 8 0)], [(5, ⟨true, 0, [i64 b5_0, i64 b5_1, i64 b5_2, i64 b5_3]⟩), (6, ⟨true, 0, [bl b6_0, i64 b6_1, i64 b6_2, i64 b6_3, i64 b6_4, .sl true 6 b6_5.length ((eSol true).f b6_5)]⟩), (7, ⟨true, 0, [bl b7_0, i64 b7_1, i64 b7_2, i64 b7_3, i64 b7_4, .sl true 6 b7_5.length ((eSol true).f b7_5)]⟩), (8, ⟨true, 0, [bl b8_0, i64 b8_1, i64 b8_2, i64 b8_3, i64 b8_4, .nil]⟩), (1000, ⟨true, 0, [i64 b1000_0, i64 b1000_1, bl b1000_2]⟩)]⟩ := by
  unfold Dimpl_merger_joino2o3_1 at h
  obtain ⟨v3, hv3, h⟩ := bind_some h
  replace h := Option.some.inj h; subst h
  exact x_end 7 [(3, .call [] [] (.agg [bl v3.inn, i64 v3.pl.A, i64 v3.pl.B, i64 v3.pl.C, i64 v3.pl.D, .sl true 6 v3.kids.length ((eSol true).f v3.kids)]) [])] [] (ocons (Timpl_nodeo1o2 (Y := Y) (Pl.mk b5_0 b5_1 b5_2 b5_3) (Sol.mk b6_0 (Pl.mk b6_1 b6_2 b6_3 b6_4) b6_5) (Sol.mk b7_0 (Pl.mk b7_1 b7_2 b7_3 b7_4) b7_5) _ hv3) onil) onil (by kernel_rfl)
def Dimpl_merger_joino2o3_0 (t19 : Bool) (b5_0 b5_1 b5_2 b5_3 : Int) (b6_0 : Bool) (b6_1 b6_2 b6_3 b6_4 : Int) (b6_5 : List Sol) (b7_0 : Bool) (b7_1 b7_2 b7_3 b7_4 : Int) (b7_5 : List Sol) (b8_0 : Bool) (b8_1 b8_2 b8_3 b8_4 b1000_0 b1000_1 : Int) (b1000_2 : Bool) : Option (Sol × (Int × Int × Bool)) :=
  frk t19 ((Dimpl_Leaf b6_0).bind fun v2 => some (v2, (b1000_0, b1000_1, b1000_2))) (frk b1000_2 (Dimpl_merger_joino2o3_1 b5_0 b5_1 b5_2 b5_3 b6_0 b6_1 b6_2 b6_3 b6_4 b6_5 b7_0 b7_1 b7_2 b7_3 b7_4 b7_5 b8_0 b8_1 b8_2 b8_3 b8_4 b1000_0 (w64 (b1000_1 + 1)) true) (Dimpl_merger_joino2o3_1 b5_0 b5_1 b5_2 b5_3 b6_0 b6_1 b6_2 b6_3 b6_4 b6_5 b7_0 b7_1 b7_2 b7_3 b7_4 b7_5 b8_0 b8_1 b8_2 b8_3 b8_4 b1000_0 (w64 (b1000_1 + 1)) (decide ((w64 (b1000_1 + 1)) > 300))))
theorem Timpl_merger_joino2o3_0 {Y} (t19 : Bool) (b5_0 b5_1 b5_2 b5_3 : Int) (b6_0 : Bool) (b6_1 b6_2 b6_3 b6_4 : Int) (b6_5 : List Sol) (b7_0 : Bool) (b7_1 b7_2 b7_3 b7_4 : Int) (b7_5 : List Sol) (b8_0 : Bool) (b8_1 b8_2 b8_3 b8_4 b1000_0 b1000_1 : Int) (b1000_2 : Bool) (r : (Sol × (Int × Int × Bool))) (h : Dimpl_merger_joino2o3_0 t19 b5_0 b5_1 b5_2 b5_3 b6_0 b6_1 b6_2 b6_3 b6_4 b6_5 b7_0 b7_1 b7_2 b7_3 b7_4 b7_5 b8_0 b8_1 b8_2 b8_3 b8_4 b1000_0 b1000_1 b1000_2 = some r) : Wk Tryz.prog H Y 184 [.code (cp [1, 0, 1] (bodyOf Tryz.f184)), .code (cp [1, 1] (bodyOf Tryz.f184))] (FinX Tryz.prog Tryz.f184 [(1000, ⟨true, 0, [.bad, .bad, .bad]⟩)] (.agg [bl r.1.inn, i64 r.1.pl.A, i64 r.1.pl.B, i64 r.1.pl.C, i64 r.1.pl.D, .sl true 6 r.1.kids.length ((eSol true).f r.1.kids)]) [(1000, ⟨true, 0, [i64 r.2.1, i64 r.2.2.1, bl r.2.2.2]⟩)]) ⟨[(0, .ptr 1000 0), (5, .ptr 5 0), (6, .ptr 6 0), (7, .ptr 7 0), (8, .ptr 8 0), (19, bl t19)], [(5, ⟨true, 0, [i64 b5_0, i64 b5_1, i64 b5_2, i64 b5_3]⟩), (6, ⟨true, 0, [bl b6_0, i64 b6_1, i64 b6_2, i64 b6_3, i64 b6_4, .sl true 6 b6_5.length ((eSol true).f b6_5)]⟩), (7, ⟨true, 0, [bl b7_0, i64 b7_1, i64 b7_2, i64 b7_3, i64 b7_4, .sl true 6 b7_5.length ((eSol true).f b7_5)]⟩), (8, ⟨true, 0, [bl b8_0, i64 b8_1, i64 b8_2, i64 b8_3, i64 b8_4, .nil]⟩), (1000, ⟨true, 0, [i64 b1000_0, i64 b1000_1, bl b1000_2]⟩)]⟩ := by
  unfold Dimpl_merger_joino2o3_0 at h
  refine x_frk 0 [] onil h (by kernel_rfl) (fun h => ?_) (fun h => ?_)
  · obtain ⟨v2, hv2, h⟩ := bind_some h
    replace h := Option.some.inj h; subst h
    exact x_end 7 [(2, .call [] [] (.agg [bl v2.inn, i64 v2.pl.A, i64 v2.pl.B, i64 v2.pl.C, i64 v2.pl.D, .sl true 6 v2.kids.length ((eSol true).f v2.kids)]) [])] [] (ocons (Timpl_Leaf (Y := Y) b6_0 _ hv2) onil) onil (by kernel_rfl)
  · refine x_frk 20 [] onil h (by kernel_rfl) (fun h => ?_) (fun h => ?_)
    · exact x_to 11 [] onil (Timpl_merger_joino2o3_1 b5_0 b5_1 b5_2 b5_3 b6_0 b6_1 b6_2 b6_3 b6_4 b6_5 b7_0 b7_1 b7_2 b7_3 b7_4 b7_5 b8_0 b8_1 b8_2 b8_3 b8_4 b1000_0 (w64 (b1000_1 + 1)) true r h) (by kernel_rfl)
    · exact x_to 11 [] onil (Timpl_merger_joino2o3_1 b5_0 b5_1 b5_2 b5_3 b6_0 b6_1 b6_2 b6_3 b6_4 b6_5 b7_0 b7_1 b7_2 b7_3 b7_4 b7_5 b8_0 b8_1 b8_2 b8_3 b8_4 b1000_0 (w64 (b1000_1 + 1)) (decide ((w64 (b1000_1 + 1)) > 300)) r h) (by kernel_rfl)
def Dimpl_merger_joino2o3_2 (b5_0 b5_1 b5_2 b5_3 : Int) (b6_0 : Bool) (b6_1 b6_2 b6_3 b6_4 : Int) (b6_5 : List Sol) (b7_0 : Bool) (b7_1 b7_2 b7_3 b7_4 : Int) (b7_5 : List Sol) (b8_0 : Bool) (b8_1 b8_2 b8_3 b8_4 b1000_0 b1000_1 : Int) (b1000_2 : Bool) : Option (Sol × (Int × Int × Bool)) :=
  frk b1000_2 (Dimpl_merger_joino2o3_1 b5_0 b5_1 b5_2 b5_3 b6_0 b6_1 b6_2 b6_3 b6_4 b6_5 b7_0 b7_1 b7_2 b7_3 b7_4 b7_5 b8_0 b8_1 b8_2 b8_3 b8_4 b1000_0 b1000_1 true) (Dimpl_merger_joino2o3_1 b5_0 b5_1 b5_2 b5_3 b6_0 b6_1 b6_2 b6_3 b6_4 b6_5 b7_0 b7_1 b7_2 b7_3 b7_4 b7_5 b8_0 b8_1 b8_2 b8_3 b8_4 b1000_0 b1000_1 (decide (b1000_1 > 300)))
theorem Timpl_merger_joino2o3_2 {Y} (b5_0 b5_1 b5_2 b5_3 : Int) (b6_0 : Bool) (b6_1 b6_2 b6_3 b6_4 : Int) (b6_5 : List Sol) (b7_0 : Bool) (b7_1 b7_2 b7_3 b7_4 : Int) (b7_5 : List Sol) (b8_0 : Bool) (b8_1 b8_2 b8_3 b8_4 b1000_0 b1000_1 : Int) (b1000_2 : Bool) (r : (Sol × (Int × Int × Bool))) (h : Dimpl_merger_joino2o3_2 b5_0 b5_1 b5_2 b5_3 b6_0 b6_1 b6_2 b6_3 b6_4 b6_5 b7_0 b7_1 b7_2 b7_3 b7_4 b7_5 b8_0 b8_1 b8_2 b8_3 b8_4 b1000_0 b1000_1 b1000_2 = some r) : Wk Tryz.prog H Y 184 [.code (cp [1, 1, 1, 0] (bodyOf Tryz.f184)), .code (cp [1, 1, 1, 1] (bodyOf Tryz.f184))] (FinX Tryz.prog Tryz.f184 [(1000, ⟨true, 0, [.bad, .bad, .bad]⟩)] (.agg [bl r.1.inn, i64 r.1.pl.A, i64 r.1.pl.B, i64 r.1.pl.C, i64 r.1.pl.D, .sl true 6 r.1.kids.length ((eSol true).f r.1.kids)]) [(1000, ⟨true, 0, [i64 r.2.1, i64 r.2.2.1, bl r.2.2.2]⟩)]) ⟨[(0, .ptr 1000 0), (5, .ptr 5 0), (6, .ptr 6 0), (7, .ptr 7 0), (8, .ptr 8 0)], [(5, ⟨true, 0, [i64 b5_0, i64 b5_1, i64 b5_2, i64 b5_3]⟩), (6, ⟨true, 0, [bl b6_0, i64 b6_1, i64 b6_2, i64 b6_3, i64 b6_4, .sl true 6 b6_5.length ((eSol true).f b6_5)]⟩), (7, ⟨true, 0, [bl b7_0, i64 b7_1, i64 b7_2, i64 b7_3, i64 b7_4, .sl true 6 b7_5.length ((eSol true).f b7_5)]⟩), (8, ⟨true, 0, [bl b8_0, i64 b8_1, i64 b8_2, i64 b8_3, i64 b8_4, .nil]⟩), (1000, ⟨true, 0, [i64 b1000_0, i64 b1000_1, bl b1000_2]⟩)]⟩ := by
  unfold Dimpl_merger_joino2o3_2 at h
  refine x_frk 7 [] onil h (by kernel_rfl) (fun h => ?_) (fun h => ?_)
  · exact x_to 11 [] onil (Timpl_merger_joino2o3_1 b5_0 b5_1 b5_2 b5_3 b6_0 b6_1 b6_2 b6_3 b6_4 b6_5 b7_0 b7_1 b7_2 b7_3 b7_4 b7_5 b8_0 b8_1 b8_2 b8_3 b8_4 b1000_0 b1000_1 true r h) (by kernel_rfl)
  · exact x_to 11 [] onil (Timpl_merger_joino2o3_1 b5_0 b5_1 b5_2 b5_3 b6_0 b6_1 b6_2 b6_3 b6_4 b6_5 b7_0 b7_1 b7_2 b7_3 b7_4 b7_5 b8_0 b8_1 b8_2 b8_3 b8_4 b1000_0 b1000_1 (decide (b1000_1 > 300)) r h) (by kernel_rfl)
def Dimpl_merger_joino2o3 (a0 : (Int × Int × Bool)) (a1 : Pl) (a2 : Sol) (a3 : Sol) : Option (Sol × (Int × Int × Bool)) :=
  (Dimpl_Solid_isLeaf a2).bind fun v0 => frk v0 ((Dimpl_Solid_isLeaf a3).bind fun v1 => frk v1 (Dimpl_merger_joino2o3_0 (a2.inn == a3.inn) a1.A a1.B a1.C a1.D a2.inn a2.pl.A a2.pl.B a2.pl.C a2.pl.D a2.kids a3.inn a3.pl.A a3.pl.B a3.pl.C a3.pl.D a3.kids false 0 0 0 0 a0.1 a0.2.1 a0.2.2) (Dimpl_merger_joino2o3_2 a1.A a1.B a1.C a1.D a2.inn a2.pl.A a2.pl.B a2.pl.C a2.pl.D a2.kids a3.inn a3.pl.A a3.pl.B a3.pl.C a3.pl.D a3.kids false 0 0 0 0 a0.1 (w64 (a0.2.1 + 1)) a0.2.2)) (Dimpl_merger_joino2o3_2 a1.A a1.B a1.C a1.D a2.inn a2.pl.A a2.pl.B a2.pl.C a2.pl.D a2.kids a3.inn a3.pl.A a3.pl.B a3.pl.C a3.pl.D a3.kids false 0 0 0 0 a0.1 (w64 (a0.2.1 + 1)) a0.2.2)
theorem Timpl_merger_joino2o3 {Y} (a0 : (Int × Int × Bool)) (a1 : Pl) (a2 : Sol) (a3 : Sol) (r : (Sol × (Int × Int × Bool))) (h : Dimpl_merger_joino2o3 a0 a1 a2 a3 = some r) : Big Tryz.prog H Y (.call 184 [.ptr 1000 0, .agg [i64 a1.A, i64 a1.B, i64 a1.C, i64 a1.D], .agg [bl a2.inn, i64 a2.pl.A, i64 a2.pl.B, i64 a2.pl.C, i64 a2.pl.D, .sl true 6 a2.kids.length ((eSol true).f a2.kids)], .agg [bl a3.inn, i64 a3.pl.A, i64 a3.pl.B, i64 a3.pl.C, i64 a3.pl.D, .sl true 6 a3.kids.length ((eSol true).f a3.kids)]] (lk [(1000, ⟨true, 0, [i64 a0.1, i64 a0.2.1, bl a0.2.2]⟩)]) (.agg [bl r.1.inn, i64 r.1.pl.A, i64 r.1.pl.B, i64 r.1.pl.C, i64 r.1.pl.D, .sl true 6 r.1.kids.length ((eSol true).f r.1.kids)]) (lk [(1000, ⟨true, 0, [i64 r.2.1, i64 r.2.2.1, bl r.2.2.2]⟩)])) := by
  unfold Dimpl_merger_joino2o3 at h
  refine x_call (fn := Tryz.f184) (c := bodyOf Tryz.f184) (bs0 := [(1000, ⟨true, 0, [.bad, .bad, .bad]⟩)]) Tryz.func184 (by kernel_rfl) (by kernel_rfl) ?_
  obtain ⟨v0, hv0, h⟩ := bind_some h
  refine x_frk 12 [(4, .call [] [(eSol false).f a2.kids] (bl v0) [])] (ocons (Timpl_Solid_isLeaf (Y := Y) a2 [] _ hv0) (ocons (Enc.share (eSol true) (eSol false) (sSol true) a2.kids) onil)) h (by kernel_rfl) (fun h => ?_) (fun h => ?_)
  · obtain ⟨v1, hv1, h⟩ := bind_some h
    refine x_frk 3 [(0, .call [] [(eSol false).f a3.kids] (bl v1) [])] (ocons (Timpl_Solid_isLeaf (Y := Y) a3 [] _ hv1) (ocons (Enc.share (eSol true) (eSol false) (sSol true) a3.kids) onil)) h (by kernel_rfl) (fun h => ?_) (fun h => ?_)
    · exact x_to 7 [] onil (Timpl_merger_joino2o3_0 (a2.inn == a3.inn) a1.A a1.B a1.C a1.D a2.inn a2.pl.A a2.pl.B a2.pl.C a2.pl.D a2.kids a3.inn a3.pl.A a3.pl.B a3.pl.C a3.pl.D a3.kids false 0 0 0 0 a0.1 a0.2.1 a0.2.2 r h) (by kernel_rfl)
    · exact x_to 21 [] onil (Timpl_merger_joino2o3_2 a1.A a1.B a1.C a1.D a2.inn a2.pl.A a2.pl.B a2.pl.C a2.pl.D a2.kids a3.inn a3.pl.A a3.pl.B a3.pl.C a3.pl.D a3.kids false 0 0 0 0 a0.1 (w64 (a0.2.1 + 1)) a0.2.2 r h) (by kernel_rfl)
  · exact x_to 24 [] onil (Timpl_merger_joino2o3_2 a1.A a1.B a1.C a1.D a2.inn a2.pl.A a2.pl.B a2.pl.C a2.pl.D a2.kids a3.inn a3.pl.A a3.pl.B a3.pl.C a3.pl.D a3.kids false 0 0 0 0 a0.1 (w64 (a0.2.1 + 1)) a0.2.2 r h) (by kernel_rfl)
/-! impl.merger).take -/
def Dimpl_merger_take_b (n : Nat) (self1 : ((Int × Int × Bool) × Bool × Sol × (List Pl)) → Option (Sol × (Int × Int × Bool))) (a : ((Int × Int × Bool) × Bool × Sol × (List Pl))) : Option (Sol × (Int × Int × Bool)) :=
  match a with
  | (a0, a1, a2, a3) => frk a0.2.2 (some ((Sol.mk false (Pl.mk 0 0 0 0) []), a0)) ((Dimpl_Solid_isLeaf a2).bind fun v0 => frk v0 ((Dimpl_merger_leaf a0 a1 a2.inn).bind fun v1 => some v1) ((Dimpl_flip a2.pl).bind fun v2 => (Dimpl_room n a3 v2).bind fun v3 => frk (!v3) ((lget a2.kids 0).bind fun v4 => (self1 (a0, a1, v4, a3)).bind fun v5 => some v5) ((Dimpl_room n a3 a2.pl).bind fun v6 => frk (!v6) ((lget a2.kids 1).bind fun v7 => (self1 (a0, a1, v7, a3)).bind fun v8 => some v8) (frk (decide ((a3.length : Int) ≥ 24)) (some ((Sol.mk false (Pl.mk 0 0 0 0) []), (a0.1, a0.2.1, true))) ((lget a2.kids 0).bind fun v9 => (Dimpl_with a3 a2.pl).bind fun v10 => (self1 (a0, a1, v9, v10)).bind fun v11 => (lget a2.kids 1).bind fun v12 => (Dimpl_with a3 v2).bind fun v13 => (self1 (v11.2, a1, v12, v13)).bind fun v14 => (Dimpl_merger_joino2o3 v14.2 a2.pl v11.1 v14.1).bind fun v15 => some v15)))))
def Dimpl_merger_take (n : Nat) (a0 : (Int × Int × Bool)) (a1 : Bool) (a2 : Sol) (a3 : (List Pl)) : Option (Sol × (Int × Int × Bool)) := loopN (Dimpl_merger_take_b n) n (a0, a1, a2, a3)
theorem Timpl_merger_take_b {Y} (n : Nat) : ∀ (m : Nat) (a : ((Int × Int × Bool) × Bool × Sol × (List Pl))) (r : (Sol × (Int × Int × Bool))), loopN (Dimpl_merger_take_b n) m a = some r → ∀ (_ : Unit), Big Tryz.prog H Y (.call 183 [.ptr 1000 0, bl a.2.1, .agg [bl a.2.2.1.inn, i64 a.2.2.1.pl.A, i64 a.2.2.1.pl.B, i64 a.2.2.1.pl.C, i64 a.2.2.1.pl.D, .sl false 6 a.2.2.1.kids.length ((eSol false).f a.2.2.1.kids)], .sl false 4 a.2.2.2.length ((ePl).f a.2.2.2)] (lk [(1000, ⟨true, 0, [i64 a.1.1, i64 a.1.2.1, bl a.1.2.2]⟩)]) (.agg [bl r.1.inn, i64 r.1.pl.A, i64 r.1.pl.B, i64 r.1.pl.C, i64 r.1.pl.D, .sl true 6 r.1.kids.length ((eSol true).f r.1.kids)]) (lk [(1000, ⟨true, 0, [i64 r.2.1, i64 r.2.2.1, bl r.2.2.2]⟩)])) := by
  refine loopN_ind (fun self1 hs a r h => ?_)
  have hself1 : ∀ (a : ((Int × Int × Bool) × Bool × Sol × (List Pl))) (r : (Sol × (Int × Int × Bool))), self1 a = some r → Big Tryz.prog H Y (.call 183 [.ptr 1000 0, bl a.2.1, .agg [bl a.2.2.1.inn, i64 a.2.2.1.pl.A, i64 a.2.2.1.pl.B, i64 a.2.2.1.pl.C, i64 a.2.2.1.pl.D, .sl false 6 a.2.2.1.kids.length ((eSol false).f a.2.2.1.kids)], .sl false 4 a.2.2.2.length ((ePl).f a.2.2.2)] (lk [(1000, ⟨true, 0, [i64 a.1.1, i64 a.1.2.1, bl a.1.2.2]⟩)]) (.agg [bl r.1.inn, i64 r.1.pl.A, i64 r.1.pl.B, i64 r.1.pl.C, i64 r.1.pl.D, .sl true 6 r.1.kids.length ((eSol true).f r.1.kids)]) (lk [(1000, ⟨true, 0, [i64 r.2.1, i64 r.2.2.1, bl r.2.2.2]⟩)])) := fun a r h => hs a r h ()
  intro _
  obtain ⟨a0, a1, a2, a3⟩ := a
  unfold Dimpl_merger_take_b at h
  refine x_call (fn := Tryz.f183) (c := bodyOf Tryz.f183) (bs0 := [(1000, ⟨true, 0, [.bad, .bad, .bad]⟩)]) Tryz.func183 (by kernel_rfl) (by kernel_rfl) ?_
  refine x_frk 13 [] onil h (by kernel_rfl) (fun h => ?_) (fun h => ?_)
  · replace h := Option.some.inj h; subst h
    exact x_end 5 [] [(true, 6)] onil onil (by kernel_rfl)
  · obtain ⟨v0, hv0, h⟩ := bind_some h
    refine x_frk 6 [(0, .call [] [] (bl v0) [])] (ocons (Timpl_Solid_isLeaf (Y := Y) a2 [] _ hv0) onil) h (by kernel_rfl) (fun h => ?_) (fun h => ?_)
    · obtain ⟨v1, hv1, h⟩ := bind_some h
      replace h := Option.some.inj h; subst h
      exact x_end 9 [(4, .call [] [] (.agg [bl v1.1.inn, i64 v1.1.pl.A, i64 v1.1.pl.B, i64 v1.1.pl.C, i64 v1.1.pl.D, .sl true 6 v1.1.kids.length ((eSol true).f v1.1.kids)]) [(1000, ⟨true, 0, [i64 v1.2.1, i64 v1.2.2.1, bl v1.2.2.2]⟩)])] [] (ocons (Timpl_merger_leaf (Y := Y) a0 a1 a2.inn _ hv1) onil) onil (by kernel_rfl)
    · obtain ⟨v2, hv2, h⟩ := bind_some h
      obtain ⟨v3, hv3, h⟩ := bind_some h
      refine x_frk 19 [(2, .call [] [] (.agg [i64 v2.A, i64 v2.B, i64 v2.C, i64 v2.D]) []), (4, .call [] [] (bl v3) [])] (ocons (Timpl_flip (Y := Y) a2.pl _ hv2) (ocons (Timpl_room (Y := Y) n a3 v2 _ hv3) onil)) h (by kernel_rfl) (fun h => ?_) (fun h => ?_)
      · obtain ⟨v4, hv4, h⟩ := bind_some h
        obtain ⟨v5, hv5, h⟩ := bind_some h
        replace h := Option.some.inj h; subst h
        exact x_end 12 [(4, .val (.cptr ((eSol false).c v4 ++ (eSol false).f ((a2.kids).drop (Int.toNat 0 + 1))))), (2, .call [] [] (.agg [bl v5.1.inn, i64 v5.1.pl.A, i64 v5.1.pl.B, i64 v5.1.pl.C, i64 v5.1.pl.D, .sl true 6 v5.1.kids.length ((eSol true).f v5.1.kids)]) [(1000, ⟨true, 0, [i64 v5.2.1, i64 v5.2.2.1, bl v5.2.2.2]⟩)])] [] (ocons (ix (eSol false) hv4) (ocons (hself1 (a0, a1, v4, a3) _ hv5) onil)) onil (by kernel_rfl)
      · obtain ⟨v6, hv6, h⟩ := bind_some h
        refine x_frk 9 [(3, .call [] [] (bl v6) [])] (ocons (Timpl_room (Y := Y) n a3 a2.pl _ hv6) onil) h (by kernel_rfl) (fun h => ?_) (fun h => ?_)
        · obtain ⟨v7, hv7, h⟩ := bind_some h
          obtain ⟨v8, hv8, h⟩ := bind_some h
          replace h := Option.some.inj h; subst h
          exact x_end 12 [(4, .val (.cptr ((eSol false).c v7 ++ (eSol false).f ((a2.kids).drop (Int.toNat 1 + 1))))), (2, .call [] [] (.agg [bl v8.1.inn, i64 v8.1.pl.A, i64 v8.1.pl.B, i64 v8.1.pl.C, i64 v8.1.pl.D, .sl true 6 v8.1.kids.length ((eSol true).f v8.1.kids)]) [(1000, ⟨true, 0, [i64 v8.2.1, i64 v8.2.2.1, bl v8.2.2.2]⟩)])] [] (ocons (ix (eSol false) hv7) (ocons (hself1 (a0, a1, v7, a3) _ hv8) onil)) onil (by kernel_rfl)
        · refine x_frk 7 [] onil h (by kernel_rfl) (fun h => ?_) (fun h => ?_)
          · replace h := Option.some.inj h; subst h
            exact x_end 12 [] [(true, 6)] onil onil (by kernel_rfl)
          · obtain ⟨v9, hv9, h⟩ := bind_some h
            obtain ⟨v10, hv10, h⟩ := bind_some h
            obtain ⟨v11, hv11, h⟩ := bind_some h
            obtain ⟨v12, hv12, h⟩ := bind_some h
            obtain ⟨v13, hv13, h⟩ := bind_some h
            obtain ⟨v14, hv14, h⟩ := bind_some h
            obtain ⟨v15, hv15, h⟩ := bind_some h
            replace h := Option.some.inj h; subst h
            exact x_end 43 [(4, .val (.cptr ((eSol false).c v9 ++ (eSol false).f ((a2.kids).drop (Int.toNat 0 + 1))))), (4, .call [] [] (.sl false 4 v10.length ((ePl).f v10)) []), (0, .call [] [] (.agg [bl v11.1.inn, i64 v11.1.pl.A, i64 v11.1.pl.B, i64 v11.1.pl.C, i64 v11.1.pl.D, .sl true 6 v11.1.kids.length ((eSol true).f v11.1.kids)]) [(1000, ⟨true, 0, [i64 v11.2.1, i64 v11.2.2.1, bl v11.2.2.2]⟩)]), (6, .val (.cptr ((eSol false).c v12 ++ (eSol false).f ((a2.kids).drop (Int.toNat 1 + 1))))), (3, .call [] [] (.sl false 4 v13.length ((ePl).f v13)) []), (0, .call [] [] (.agg [bl v14.1.inn, i64 v14.1.pl.A, i64 v14.1.pl.B, i64 v14.1.pl.C, i64 v14.1.pl.D, .sl true 6 v14.1.kids.length ((eSol true).f v14.1.kids)]) [(1000, ⟨true, 0, [i64 v14.2.1, i64 v14.2.2.1, bl v14.2.2.2]⟩)]), (7, .call [] [] (.agg [bl v15.1.inn, i64 v15.1.pl.A, i64 v15.1.pl.B, i64 v15.1.pl.C, i64 v15.1.pl.D, .sl true 6 v15.1.kids.length ((eSol true).f v15.1.kids)]) [(1000, ⟨true, 0, [i64 v15.2.1, i64 v15.2.2.1, bl v15.2.2.2]⟩)])] [] (ocons (ix (eSol false) hv9) (ocons (shSl (L := v10) ePl ePl sPl (Timpl_with (Y := Y) a3 a2.pl _ hv10)) (ocons (hself1 (a0, a1, v9, v10) _ hv11) (ocons (ix (eSol false) hv12) (ocons (shSl (L := v13) ePl ePl sPl (Timpl_with (Y := Y) a3 v2 _ hv13)) (ocons (hself1 (v11.2, a1, v12, v13) _ hv14) (ocons (Timpl_merger_joino2o3 (Y := Y) v14.2 a2.pl v11.1 v14.1 _ hv15) onil))))))) onil (by kernel_rfl)
theorem Timpl_merger_take {Y} (n : Nat) (a0 : (Int × Int × Bool)) (a1 : Bool) (a2 : Sol) (a3 : (List Pl)) (r : (Sol × (Int × Int × Bool))) (h : Dimpl_merger_take n a0 a1 a2 a3 = some r) : Big Tryz.prog H Y (.call 183 [.ptr 1000 0, bl a1, .agg [bl a2.inn, i64 a2.pl.A, i64 a2.pl.B, i64 a2.pl.C, i64 a2.pl.D, .sl false 6 a2.kids.length ((eSol false).f a2.kids)], .sl false 4 a3.length ((ePl).f a3)] (lk [(1000, ⟨true, 0, [i64 a0.1, i64 a0.2.1, bl a0.2.2]⟩)]) (.agg [bl r.1.inn, i64 r.1.pl.A, i64 r.1.pl.B, i64 r.1.pl.C, i64 r.1.pl.D, .sl true 6 r.1.kids.length ((eSol true).f r.1.kids)]) (lk [(1000, ⟨true, 0, [i64 r.2.1, i64 r.2.2.1, bl r.2.2.2]⟩)])) := Timpl_merger_take_b n n (a0, a1, a2, a3) r h ()
/-! impl.merger).put -/
def Dimpl_merger_put_b (n : Nat) (self : ((Int × Int × Bool) × Sol × Sol × (List Pl)) → Option (Sol × (Int × Int × Bool))) (a : ((Int × Int × Bool) × Sol × Sol × (List Pl))) : Option (Sol × (Int × Int × Bool)) :=
  match a with
  | (a0, a1, a2, a3) => frk a0.2.2 (some ((Sol.mk false (Pl.mk 0 0 0 0) []), a0)) ((Dimpl_Solid_isLeaf a1).bind fun v0 => frk v0 ((Dimpl_merger_take n a0 a1.inn a2 a3).bind fun v1 => some v1) ((lget a1.kids 0).bind fun v2 => (Dimpl_with a3 a1.pl).bind fun v3 => (self (a0, v2, a2, v3)).bind fun v4 => (lget a1.kids 1).bind fun v5 => (Dimpl_flip a1.pl).bind fun v6 => (Dimpl_with a3 v6).bind fun v7 => (self (v4.2, v5, a2, v7)).bind fun v8 => (Dimpl_merger_joino2o3 v8.2 a1.pl v4.1 v8.1).bind fun v9 => some v9))
def Dimpl_merger_put (n : Nat) (a0 : (Int × Int × Bool)) (a1 : Sol) (a2 : Sol) (a3 : (List Pl)) : Option (Sol × (Int × Int × Bool)) := loopN (Dimpl_merger_put_b n) n (a0, a1, a2, a3)
theorem Timpl_merger_put_b {Y} (n : Nat) : ∀ (m : Nat) (a : ((Int × Int × Bool) × Sol × Sol × (List Pl))) (r : (Sol × (Int × Int × Bool))), loopN (Dimpl_merger_put_b n) m a = some r → ∀ (_ : Unit), Big Tryz.prog H Y (.call 147 [.ptr 1000 0, .agg [bl a.2.1.inn, i64 a.2.1.pl.A, i64 a.2.1.pl.B, i64 a.2.1.pl.C, i64 a.2.1.pl.D, .sl false 6 a.2.1.kids.length ((eSol false).f a.2.1.kids)], .agg [bl a.2.2.1.inn, i64 a.2.2.1.pl.A, i64 a.2.2.1.pl.B, i64 a.2.2.1.pl.C, i64 a.2.2.1.pl.D, .sl false 6 a.2.2.1.kids.length ((eSol false).f a.2.2.1.kids)], .sl false 4 a.2.2.2.length ((ePl).f a.2.2.2)] (lk [(1000, ⟨true, 0, [i64 a.1.1, i64 a.1.2.1, bl a.1.2.2]⟩)]) (.agg [bl r.1.inn, i64 r.1.pl.A, i64 r.1.pl.B, i64 r.1.pl.C, i64 r.1.pl.D, .sl true 6 r.1.kids.length ((eSol true).f r.1.kids)]) (lk [(1000, ⟨true, 0, [i64 r.2.1, i64 r.2.2.1, bl r.2.2.2]⟩)])) := by
  refine loopN_ind (fun self hs a r h => ?_)
  have hself : ∀ (a : ((Int × Int × Bool) × Sol × Sol × (List Pl))) (r : (Sol × (Int × Int × Bool))), self a = some r → Big Tryz.prog H Y (.call 147 [.ptr 1000 0, .agg [bl a.2.1.inn, i64 a.2.1.pl.A, i64 a.2.1.pl.B, i64 a.2.1.pl.C, i64 a.2.1.pl.D, .sl false 6 a.2.1.kids.length ((eSol false).f a.2.1.kids)], .agg [bl a.2.2.1.inn, i64 a.2.2.1.pl.A, i64 a.2.2.1.pl.B, i64 a.2.2.1.pl.C, i64 a.2.2.1.pl.D, .sl false 6 a.2.2.1.kids.length ((eSol false).f a.2.2.1.kids)], .sl false 4 a.2.2.2.length ((ePl).f a.2.2.2)] (lk [(1000, ⟨true, 0, [i64 a.1.1, i64 a.1.2.1, bl a.1.2.2]⟩)]) (.agg [bl r.1.inn, i64 r.1.pl.A, i64 r.1.pl.B, i64 r.1.pl.C, i64 r.1.pl.D, .sl true 6 r.1.kids.length ((eSol true).f r.1.kids)]) (lk [(1000, ⟨true, 0, [i64 r.2.1, i64 r.2.2.1, bl r.2.2.2]⟩)])) := fun a r h => hs a r h ()
  intro _
  obtain ⟨a0, a1, a2, a3⟩ := a
  unfold Dimpl_merger_put_b at h
  refine x_call (fn := Tryz.f147) (c := bodyOf Tryz.f147) (bs0 := [(1000, ⟨true, 0, [.bad, .bad, .bad]⟩)]) Tryz.func147 (by kernel_rfl) (by kernel_rfl) ?_
  refine x_frk 14 [] onil h (by kernel_rfl) (fun h => ?_) (fun h => ?_)
  · replace h := Option.some.inj h; subst h
    exact x_end 5 [] [(true, 6)] onil onil (by kernel_rfl)
  · obtain ⟨v0, hv0, h⟩ := bind_some h
    refine x_frk 6 [(0, .call [] [] (bl v0) [])] (ocons (Timpl_Solid_isLeaf (Y := Y) a1 [] _ hv0) onil) h (by kernel_rfl) (fun h => ?_) (fun h => ?_)
    · obtain ⟨v1, hv1, h⟩ := bind_some h
      replace h := Option.some.inj h; subst h
      exact x_end 10 [(5, .call [] [] (.agg [bl v1.1.inn, i64 v1.1.pl.A, i64 v1.1.pl.B, i64 v1.1.pl.C, i64 v1.1.pl.D, .sl true 6 v1.1.kids.length ((eSol true).f v1.1.kids)]) [(1000, ⟨true, 0, [i64 v1.2.1, i64 v1.2.2.1, bl v1.2.2.2]⟩)])] [] (ocons (Timpl_merger_take (Y := Y) n a0 a1.inn a2 a3 _ hv1) onil) onil (by kernel_rfl)
    · obtain ⟨v2, hv2, h⟩ := bind_some h
      obtain ⟨v3, hv3, h⟩ := bind_some h
      obtain ⟨v4, hv4, h⟩ := bind_some h
      obtain ⟨v5, hv5, h⟩ := bind_some h
      obtain ⟨v6, hv6, h⟩ := bind_some h
      obtain ⟨v7, hv7, h⟩ := bind_some h
      obtain ⟨v8, hv8, h⟩ := bind_some h
      obtain ⟨v9, hv9, h⟩ := bind_some h
      replace h := Option.some.inj h; subst h
      exact x_end 44 [(3, .val (.cptr ((eSol false).c v2 ++ (eSol false).f ((a1.kids).drop (Int.toNat 0 + 1))))), (5, .call [] [] (.sl false 4 v3.length ((ePl).f v3)) []), (0, .call [] [] (.agg [bl v4.1.inn, i64 v4.1.pl.A, i64 v4.1.pl.B, i64 v4.1.pl.C, i64 v4.1.pl.D, .sl true 6 v4.1.kids.length ((eSol true).f v4.1.kids)]) [(1000, ⟨true, 0, [i64 v4.2.1, i64 v4.2.2.1, bl v4.2.2.2]⟩)]), (5, .val (.cptr ((eSol false).c v5 ++ (eSol false).f ((a1.kids).drop (Int.toNat 1 + 1))))), (5, .call [] [] (.agg [i64 v6.A, i64 v6.B, i64 v6.C, i64 v6.D]) []), (0, .call [] [] (.sl false 4 v7.length ((ePl).f v7)) []), (0, .call [] [] (.agg [bl v8.1.inn, i64 v8.1.pl.A, i64 v8.1.pl.B, i64 v8.1.pl.C, i64 v8.1.pl.D, .sl true 6 v8.1.kids.length ((eSol true).f v8.1.kids)]) [(1000, ⟨true, 0, [i64 v8.2.1, i64 v8.2.2.1, bl v8.2.2.2]⟩)]), (7, .call [] [] (.agg [bl v9.1.inn, i64 v9.1.pl.A, i64 v9.1.pl.B, i64 v9.1.pl.C, i64 v9.1.pl.D, .sl true 6 v9.1.kids.length ((eSol true).f v9.1.kids)]) [(1000, ⟨true, 0, [i64 v9.2.1, i64 v9.2.2.1, bl v9.2.2.2]⟩)])] [] (ocons (ix (eSol false) hv2) (ocons (shSl (L := v3) ePl ePl sPl (Timpl_with (Y := Y) a3 a1.pl _ hv3)) (ocons (hself (a0, v2, a2, v3) _ hv4) (ocons (ix (eSol false) hv5) (ocons (Timpl_flip (Y := Y) a1.pl _ hv6) (ocons (shSl (L := v7) ePl ePl sPl (Timpl_with (Y := Y) a3 v6 _ hv7)) (ocons (hself (v4.2, v5, a2, v7) _ hv8) (ocons (Timpl_merger_joino2o3 (Y := Y) v8.2 a1.pl v4.1 v8.1 _ hv9) onil)))))))) onil (by kernel_rfl)
theorem Timpl_merger_put {Y} (n : Nat) (a0 : (Int × Int × Bool)) (a1 : Sol) (a2 : Sol) (a3 : (List Pl)) (r : (Sol × (Int × Int × Bool))) (h : Dimpl_merger_put n a0 a1 a2 a3 = some r) : Big Tryz.prog H Y (.call 147 [.ptr 1000 0, .agg [bl a1.inn, i64 a1.pl.A, i64 a1.pl.B, i64 a1.pl.C, i64 a1.pl.D, .sl false 6 a1.kids.length ((eSol false).f a1.kids)], .agg [bl a2.inn, i64 a2.pl.A, i64 a2.pl.B, i64 a2.pl.C, i64 a2.pl.D, .sl false 6 a2.kids.length ((eSol false).f a2.kids)], .sl false 4 a3.length ((ePl).f a3)] (lk [(1000, ⟨true, 0, [i64 a0.1, i64 a0.2.1, bl a0.2.2]⟩)]) (.agg [bl r.1.inn, i64 r.1.pl.A, i64 r.1.pl.B, i64 r.1.pl.C, i64 r.1.pl.D, .sl true 6 r.1.kids.length ((eSol true).f r.1.kids)]) (lk [(1000, ⟨true, 0, [i64 r.2.1, i64 r.2.2.1, bl r.2.2.2]⟩)])) := Timpl_merger_put_b n n (a0, a1, a2, a3) r h ()
/-! impl.put -/
def Dimpl_put (n : Nat) (a0 : Sol) (a1 : Sol) (a2 : Int) : Option (Sol × Bool) :=
  (Dimpl_merger_put n (a2, 0, false) a0 a1 []).bind fun v0 => frk v0.2.2.2 ((Dimpl_Leaf false).bind fun v1 => some (v1, false)) (some (v0.1, true))
theorem Timpl_put {Y} (n : Nat) (a0 : Sol) (a1 : Sol) (a2 : Int) (r : (Sol × Bool)) (h : Dimpl_put n a0 a1 a2 = some r) : Big Tryz.prog H Y (.call 85 [.agg [bl a0.inn, i64 a0.pl.A, i64 a0.pl.B, i64 a0.pl.C, i64 a0.pl.D, .sl false 6 a0.kids.length ((eSol false).f a0.kids)], .agg [bl a1.inn, i64 a1.pl.A, i64 a1.pl.B, i64 a1.pl.C, i64 a1.pl.D, .sl false 6 a1.kids.length ((eSol false).f a1.kids)], i64 a2] (lk []) (.tup [.agg [bl r.1.inn, i64 r.1.pl.A, i64 r.1.pl.B, i64 r.1.pl.C, i64 r.1.pl.D, .sl true 6 r.1.kids.length ((eSol true).f r.1.kids)], bl r.2]) (lk [])) := by
  unfold Dimpl_put at h
  refine x_call (fn := Tryz.f85) (c := bodyOf Tryz.f85) (bs0 := []) Tryz.func85 (by kernel_rfl) (by kernel_rfl) ?_
  obtain ⟨v0, hv0, h⟩ := bind_some h
  refine x_frk 28 [(10, .call [(false, 4)] [] (.agg [bl v0.1.inn, i64 v0.1.pl.A, i64 v0.1.pl.B, i64 v0.1.pl.C, i64 v0.1.pl.D, .sl true 6 v0.1.kids.length ((eSol true).f v0.1.kids)]) [(1000, ⟨true, 0, [i64 v0.2.1, i64 v0.2.2.1, bl v0.2.2.2]⟩)])] (ocons (Timpl_merger_put (Y := Y) n (a2, 0, false) a0 a1 [] _ hv0) onil) h (by kernel_rfl) (fun h => ?_) (fun h => ?_)
  · obtain ⟨v1, hv1, h⟩ := bind_some h
    replace h := Option.some.inj h; subst h
    exact x_end 6 [(0, .call [] [] (.agg [bl v1.inn, i64 v1.pl.A, i64 v1.pl.B, i64 v1.pl.C, i64 v1.pl.D, .sl true 6 v1.kids.length ((eSol true).f v1.kids)]) [])] [] (ocons (Timpl_Leaf (Y := Y) false _ hv1) onil) onil (by kernel_rfl)
  · replace h := Option.some.inj h; subst h
    exact x_end 7 [] [] onil onil (by kernel_rfl)
/-! impl.Shell -/
def Dimpl_Shell_0 (n : Nat) (_b4_0 : Bool) (_b4_1 _b4_2 _b4_3 _b4_4 : Int) (b6_0 : Bool) (b6_1 b6_2 b6_3 b6_4 : Int) (b6_5 : List Sol) (l508 : List Pl) : Option (Sol × Int) :=
  (Dimpl_Convex n l508).bind fun v4 => frk (v4.2 == 1) (some ((Sol.mk false (Pl.mk 0 0 0 0) []), 3)) ((Dimpl_put n (Sol.mk b6_0 (Pl.mk b6_1 b6_2 b6_3 b6_4) b6_5) v4.1 3).bind fun v5 => frk (!v5.2) (some ((Sol.mk false (Pl.mk 0 0 0 0) []), 3)) (some (v5.1, 0)))
theorem Timpl_Shell_0 {Y} (n : Nat) (b4_0 : Bool) (b4_1 b4_2 b4_3 b4_4 : Int) (b6_0 : Bool) (b6_1 b6_2 b6_3 b6_4 : Int) (b6_5 : List Sol) (l508 : List Pl) (r : (Sol × Int)) (h : Dimpl_Shell_0 n b4_0 b4_1 b4_2 b4_3 b4_4 b6_0 b6_1 b6_2 b6_3 b6_4 b6_5 l508 = some r) : Wk Tryz.prog H Y 43 [.code (cp [1, 1, 1, 1, 1, 0] (bodyOf Tryz.f43)), .code (cp [1, 1, 1, 1, 1, 1] (bodyOf Tryz.f43))] (FinX Tryz.prog Tryz.f43 [] (.tup [.agg [bl r.1.inn, i64 r.1.pl.A, i64 r.1.pl.B, i64 r.1.pl.C, i64 r.1.pl.D, .sl true 6 r.1.kids.length ((eSol true).f r.1.kids)], i64 r.2]) []) ⟨[(4, .ptr 4 0), (6, .ptr 6 0), (8, .msl 508 l508.length)], [(4, ⟨true, 0, [bl b4_0, i64 b4_1, i64 b4_2, i64 b4_3, i64 b4_4, .nil]⟩), (6, ⟨true, 0, [bl b6_0, i64 b6_1, i64 b6_2, i64 b6_3, i64 b6_4, .sl true 6 b6_5.length ((eSol true).f b6_5)]⟩), (508, ⟨true, 4, (ePl).f l508⟩)]⟩ := by
  unfold Dimpl_Shell_0 at h
  obtain ⟨v4, hv4, h⟩ := bind_some h
  refine x_frk 16 [(1, .call [] [(ePl).f l508] (.tup [.agg [bl v4.1.inn, i64 v4.1.pl.A, i64 v4.1.pl.B, i64 v4.1.pl.C, i64 v4.1.pl.D, .sl true 6 v4.1.kids.length ((eSol true).f v4.1.kids)], i64 v4.2]) [])] (ocons (Timpl_Convex (Y := Y) n l508 _ hv4) (ocons (len_row (L := l508) ePl) (ocons (Enc.share ePl ePl sPl l508) (ocons (show hasSh (.tup [.agg [bl v4.1.inn, i64 v4.1.pl.A, i64 v4.1.pl.B, i64 v4.1.pl.C, i64 v4.1.pl.D, .sl true 6 v4.1.kids.length ((eSol true).f v4.1.kids)], i64 v4.2]) = false by simp [hasSh, hasShL, nSh, nShI, nShB, nShP, nShT, nShN, nShPs]) onil)))) h (by kernel_rfl) (fun h => ?_) (fun h => ?_)
  · replace h := Option.some.inj h; subst h
    exact x_end 6 [] [(true, 6)] onil onil (by kernel_rfl)
  · obtain ⟨v5, hv5, h⟩ := bind_some h
    refine x_frk 19 [(0, .rows [(eSol false).f b6_5]), (0, .rows [(eSol false).f v4.1.kids]), (0, .call [] [] (.tup [.agg [bl v5.1.inn, i64 v5.1.pl.A, i64 v5.1.pl.B, i64 v5.1.pl.C, i64 v5.1.pl.D, .sl true 6 v5.1.kids.length ((eSol true).f v5.1.kids)], bl v5.2]) [])] (ocons (Enc.share (eSol true) (eSol false) (sSol true) b6_5) (ocons (Enc.share (eSol true) (eSol false) (sSol true) v4.1.kids) (ocons (Timpl_put (Y := Y) n (Sol.mk b6_0 (Pl.mk b6_1 b6_2 b6_3 b6_4) b6_5) v4.1 3 _ hv5) onil))) h (by kernel_rfl) (fun h => ?_) (fun h => ?_)
    · replace h := Option.some.inj h; subst h
      exact x_end 6 [] [(true, 6)] onil onil (by kernel_rfl)
    · replace h := Option.some.inj h; subst h
      exact x_end 7 [] [] onil onil (by kernel_rfl)
def Dimpl_Shell_1 (n : Nat) (t1 : Int) (t29 : List Pl) (t30 : Int) (b4_0 : Bool) (b4_1 b4_2 b4_3 b4_4 : Int) (b6_0 : Bool) (b6_1 b6_2 b6_3 b6_4 : Int) (b6_5 : List Sol) (rec0 : (Int × List Pl) → Option (Sol × Int)) (a : (Int × List Pl)) : Option (Sol × Int) :=
  match a with
  | (t31, l508) => frk (decide (t31 < t30)) ((lget t29 t31).bind fun v2 => chk (apB 32 (l508.length + 1)) (rec0 (w64 (t31 + 1), (l508 ++ [(Pl.mk v2.A v2.B v2.C (w64 (v2.D - (w64 (t1 * (maxN v2.A [w64 (0 - v2.A), v2.B, w64 (0 - v2.B), v2.C, w64 (0 - v2.C)]))))))])))) (Dimpl_Shell_0 n b4_0 b4_1 b4_2 b4_3 b4_4 b6_0 b6_1 b6_2 b6_3 b6_4 b6_5 l508)
theorem Timpl_Shell_1 {Y} (n : Nat) (t1 : Int) (t29 : List Pl) (t30 : Int) (b4_0 : Bool) (b4_1 b4_2 b4_3 b4_4 : Int) (b6_0 : Bool) (b6_1 b6_2 b6_3 b6_4 : Int) (b6_5 : List Sol) : ∀ (m : Nat) (a : (Int × List Pl)) (r : (Sol × Int)), loopN (Dimpl_Shell_1 n t1 t29 t30 b4_0 b4_1 b4_2 b4_3 b4_4 b6_0 b6_1 b6_2 b6_3 b6_4 b6_5) m a = some r → Wk Tryz.prog H Y 43 [.code (cp [1, 1, 1, 1, 0, 1, 0] (bodyOf Tryz.f43)), .blk 1, .code (cp [1, 1, 1, 1, 1] (bodyOf Tryz.f43))] (FinX Tryz.prog Tryz.f43 [] (.tup [.agg [bl r.1.inn, i64 r.1.pl.A, i64 r.1.pl.B, i64 r.1.pl.C, i64 r.1.pl.D, .sl true 6 r.1.kids.length ((eSol true).f r.1.kids)], i64 r.2]) []) ⟨[(1, i64 t1), (4, .ptr 4 0), (6, .ptr 6 0), (8, .msl 508 a.2.length), (29, .sl false 4 t29.length ((ePl).f t29)), (30, i64 t30), (31, i64 a.1)], [(4, ⟨true, 0, [bl b4_0, i64 b4_1, i64 b4_2, i64 b4_3, i64 b4_4, .nil]⟩), (6, ⟨true, 0, [bl b6_0, i64 b6_1, i64 b6_2, i64 b6_3, i64 b6_4, .sl true 6 b6_5.length ((eSol true).f b6_5)]⟩), (508, ⟨true, 4, (ePl).f a.2⟩)]⟩ := by
  refine loopN_ind (fun _rec0 hrec0 a r h => ?_)
  obtain ⟨t31, l508⟩ := a
  unfold Dimpl_Shell_1 at h
  refine x_frk 6 [] onil h (by kernel_rfl) (fun h => ?_) (fun h => ?_)
  · obtain ⟨v2, hv2, h⟩ := bind_some h
    obtain ⟨c3, h⟩ := chk_some h
    exact x_to 50 [(0, .val (.cptr (ePl.c v2 ++ (ePl).f ((t29).drop (Int.toNat t31 + 1))))), (21, .val (.lit (.int .i64 (maxN v2.A [w64 (0 - v2.A), v2.B, w64 (0 - v2.B), v2.C, w64 (0 - v2.C)])))), (7, .app false (List.length (l508 ++ [(Pl.mk v2.A v2.B v2.C (w64 (v2.D - (w64 (t1 * (maxN v2.A [w64 (0 - v2.A), v2.B, w64 (0 - v2.B), v2.C, w64 (0 - v2.C)]))))))])) ((ePl).f (l508 ++ [(Pl.mk v2.A v2.B v2.C (w64 (v2.D - (w64 (t1 * (maxN v2.A [w64 (0 - v2.A), v2.B, w64 (0 - v2.B), v2.C, w64 (0 - v2.C)]))))))]))), (3, .ren 60 508)] (ocons (ix ePl hv2) (ocons (maxNok .i64 [w64 (0 - v2.A), v2.B, w64 (0 - v2.B), v2.C, w64 (0 - v2.C)] v2.A) (ocons (len_row' (L := l508) ePl) (ocons (app_one (L := l508) (M := [(Pl.mk v2.A v2.B v2.C (w64 (v2.D - (w64 (t1 * (maxN v2.A [w64 (0 - v2.A), v2.B, w64 (0 - v2.B), v2.C, w64 (0 - v2.C)]))))))]) ePl c3) (ocons (app_new (L := l508) (M := [(Pl.mk v2.A v2.B v2.C (w64 (v2.D - (w64 (t1 * (maxN v2.A [w64 (0 - v2.A), v2.B, w64 (0 - v2.B), v2.C, w64 (0 - v2.C)]))))))]) ePl) (ocons (app_m (L := l508) (M := [(Pl.mk v2.A v2.B v2.C (w64 (v2.D - (w64 (t1 * (maxN v2.A [w64 (0 - v2.A), v2.B, w64 (0 - v2.B), v2.C, w64 (0 - v2.C)]))))))]) ePl rfl) (ocons (len_row' (L := [(Pl.mk v2.A v2.B v2.C (w64 (v2.D - (w64 (t1 * (maxN v2.A [w64 (0 - v2.A), v2.B, w64 (0 - v2.B), v2.C, w64 (0 - v2.C)]))))))]) ePl) (ocons (Enc.noOwn ePl (fun _ => rfl) [(Pl.mk v2.A v2.B v2.C (w64 (v2.D - (w64 (t1 * (maxN v2.A [w64 (0 - v2.A), v2.B, w64 (0 - v2.B), v2.C, w64 (0 - v2.C)]))))))]) (ocons (show 60 < 1000 ∧ 508 < 1000 by decide) onil))))))))) (hrec0 (w64 (t31 + 1), (l508 ++ [(Pl.mk v2.A v2.B v2.C (w64 (v2.D - (w64 (t1 * (maxN v2.A [w64 (0 - v2.A), v2.B, w64 (0 - v2.B), v2.C, w64 (0 - v2.C)]))))))])) r h) (by kernel_rfl)
  · exact x_to 2 [] onil (Timpl_Shell_0 n b4_0 b4_1 b4_2 b4_3 b4_4 b6_0 b6_1 b6_2 b6_3 b6_4 b6_5 l508 r h) (by kernel_rfl)
def Dimpl_Shell (n : Nat) (a0 : (List Pl)) (a1 : Int) : Option (Sol × Int) :=
  (Dimpl_Convex n a0).bind fun v0 => frk (v0.2 != 0) (some ((Sol.mk false (Pl.mk 0 0 0 0) []), v0.2)) ((Dimpl_inRange a1 1 500).bind fun v1 => frk (!v1) (some ((Sol.mk false (Pl.mk 0 0 0 0) []), 1)) (loopN (Dimpl_Shell_1 n a1 a0 (a0.length : Int) false 0 0 0 0 v0.1.inn v0.1.pl.A v0.1.pl.B v0.1.pl.C v0.1.pl.D v0.1.kids) n (0, [])))
theorem Timpl_Shell {Y} (n : Nat) (a0 : (List Pl)) (a1 : Int) (r : (Sol × Int)) (h : Dimpl_Shell n a0 a1 = some r) : Big Tryz.prog H Y (.call 43 [.sl false 4 a0.length ((ePl).f a0), i64 a1] (lk []) (.tup [.agg [bl r.1.inn, i64 r.1.pl.A, i64 r.1.pl.B, i64 r.1.pl.C, i64 r.1.pl.D, .sl true 6 r.1.kids.length ((eSol true).f r.1.kids)], i64 r.2]) (lk [])) := by
  unfold Dimpl_Shell at h
  refine x_call (fn := Tryz.f43) (c := bodyOf Tryz.f43) (bs0 := []) Tryz.func43 (by kernel_rfl) (by kernel_rfl) ?_
  obtain ⟨v0, hv0, h⟩ := bind_some h
  refine x_frk 24 [(3, .call [] [] (.tup [.agg [bl v0.1.inn, i64 v0.1.pl.A, i64 v0.1.pl.B, i64 v0.1.pl.C, i64 v0.1.pl.D, .sl true 6 v0.1.kids.length ((eSol true).f v0.1.kids)], i64 v0.2]) [])] (ocons (Timpl_Convex (Y := Y) n a0 _ hv0) onil) h (by kernel_rfl) (fun h => ?_) (fun h => ?_)
  · replace h := Option.some.inj h; subst h
    exact x_end 7 [] [(true, 6)] onil onil (by kernel_rfl)
  · obtain ⟨v1, hv1, h⟩ := bind_some h
    refine x_frk 7 [(1, .call [] [] (bl v1) [])] (ocons (Timpl_inRange (Y := Y) a1 1 500 _ hv1) onil) h (by kernel_rfl) (fun h => ?_) (fun h => ?_)
    · replace h := Option.some.inj h; subst h
      exact x_end 6 [] [(true, 6)] onil onil (by kernel_rfl)
    · exact x_to 15 [(1, .virt 8 508 4)] (ocons (rflV .nil) (ocons (show 508 < 1000 ∧ 4 ≠ 0 by decide) onil)) (Timpl_Shell_1 n a1 a0 (a0.length : Int) false 0 0 0 0 v0.1.inn v0.1.pl.A v0.1.pl.B v0.1.pl.C v0.1.pl.D v0.1.kids n (0, []) r h) (by kernel_rfl)
/-! spec.l6Right -/
def Dspec_l6Right_0 (n : Nat) (t0 : List Pl) (rec0 : Int → Option Bool) (a : Int) : Option Bool :=
  match a with
  | t3 => frk (decide (t3 < (t0.length : Int))) ((lget t0 t3).bind fun v0 => (Dspec_PlaneOk n v0).bind fun v1 => frk (!v1) (some false) (rec0 (w64 (t3 + 1)))) (some (decide ((t0.length : Int) ≤ 24)))
theorem Tspec_l6Right_0 {Y} (n : Nat) (t0 : List Pl) : ∀ (m : Nat) (a : Int) (r : Bool), loopN (Dspec_l6Right_0 n t0) m a = some r → Wk Tryz.prog H Y 142 [.code (cp [1, 0, 1, 0] (bodyOf Tryz.f142)), .blk 0, .code (cp [1, 1] (bodyOf Tryz.f142))] (FinX Tryz.prog Tryz.f142 [] (bl r) []) ⟨[(0, .sl false 4 t0.length ((ePl).f t0)), (3, i64 a)], []⟩ := by
  refine loopN_ind (fun _rec0 hrec0 a r h => ?_)
  obtain ⟨t3, rfl⟩ : ∃ x, x = a := ⟨a, rfl⟩
  unfold Dspec_l6Right_0 at h
  refine x_frk 9 [] onil h (by kernel_rfl) (fun h => ?_) (fun h => ?_)
  · obtain ⟨v0, hv0, h⟩ := bind_some h
    obtain ⟨v1, hv1, h⟩ := bind_some h
    refine x_frk 12 [(2, .val (.cptr (ePl.c v0 ++ (ePl).f ((t0).drop (Int.toNat t3 + 1))))), (1, .call [] [] (bl v1) [])] (ocons (ix ePl hv0) (ocons (Tspec_PlaneOk (Y := Y) n v0 _ hv1) onil)) h (by kernel_rfl) (fun h => ?_) (fun h => ?_)
    · replace h := Option.some.inj h; subst h
      exact x_end 4 [] [] onil onil (by kernel_rfl)
    · exact x_to 8 [] onil (hrec0 (w64 (t3 + 1)) r h) (by kernel_rfl)
  · replace h := Option.some.inj h; subst h
    exact x_end 8 [] [] onil onil (by kernel_rfl)
def Dspec_l6Right (n : Nat) (a0 : (List Pl)) : Option Bool :=
  loopN (Dspec_l6Right_0 n a0) n 0
theorem Tspec_l6Right {Y} (n : Nat) (a0 : (List Pl)) (r : Bool) (h : Dspec_l6Right n a0 = some r) : Big Tryz.prog H Y (.call 142 [.sl false 4 a0.length ((ePl).f a0)] (lk []) (bl r) (lk [])) := by
  unfold Dspec_l6Right at h
  refine x_call (fn := Tryz.f142) (c := bodyOf Tryz.f142) (bs0 := []) Tryz.func142 (by kernel_rfl) (by kernel_rfl) ?_
  exact x_to 10 [] onil (Tspec_l6Right_0 n a0 n 0 r h) (by kernel_rfl)
/-! spec.l6Open -/
def Dspec_l6Open_0 (n : Nat) (t0 : List Pl) (rec0 : Int → Option Bool) (a : Int) : Option Bool :=
  match a with
  | t3 => frk (decide (t3 < (t0.length : Int))) ((lsl t0 0 t3).bind fun v0 => (lget t0 t3).bind fun v1 => (Dspec_l6With n v0 v1).bind fun v2 => frk v2 (some false) (rec0 (w64 (t3 + 1)))) (some true)
theorem Tspec_l6Open_0 {Y} (n : Nat) (t0 : List Pl) : ∀ (m : Nat) (a : Int) (r : Bool), loopN (Dspec_l6Open_0 n t0) m a = some r → Wk Tryz.prog H Y 143 [.code (cp [1, 0, 1, 0] (bodyOf Tryz.f143)), .blk 0, .code (cp [1, 1] (bodyOf Tryz.f143))] (FinX Tryz.prog Tryz.f143 [] (bl r) []) ⟨[(0, .sl false 4 t0.length ((ePl).f t0)), (3, i64 a)], []⟩ := by
  refine loopN_ind (fun _rec0 hrec0 a r h => ?_)
  obtain ⟨t3, rfl⟩ : ∃ x, x = a := ⟨a, rfl⟩
  unfold Dspec_l6Open_0 at h
  refine x_frk 9 [] onil h (by kernel_rfl) (fun h => ?_) (fun h => ?_)
  · obtain ⟨v0, hv0, h⟩ := bind_some h
    obtain ⟨v1, hv1, h⟩ := bind_some h
    obtain ⟨v2, hv2, h⟩ := bind_some h
    refine x_frk 14 [(2, .val (.sl false 4 v0.length ((ePl).f v0))), (2, .val (.cptr (ePl.c v1 ++ (ePl).f ((t0).drop (Int.toNat t3 + 1))))), (1, .call [] [] (bl v2) [])] (ocons (slF ePl hv0) (ocons (ix ePl hv1) (ocons (Tspec_l6With (Y := Y) n v0 v1 _ hv2) onil))) h (by kernel_rfl) (fun h => ?_) (fun h => ?_)
    · replace h := Option.some.inj h; subst h
      exact x_end 4 [] [] onil onil (by kernel_rfl)
    · exact x_to 8 [] onil (hrec0 (w64 (t3 + 1)) r h) (by kernel_rfl)
  · replace h := Option.some.inj h; subst h
    exact x_end 5 [] [] onil onil (by kernel_rfl)
def Dspec_l6Open (n : Nat) (a0 : (List Pl)) : Option Bool :=
  loopN (Dspec_l6Open_0 n a0) n 1
theorem Tspec_l6Open {Y} (n : Nat) (a0 : (List Pl)) (r : Bool) (h : Dspec_l6Open n a0 = some r) : Big Tryz.prog H Y (.call 143 [.sl false 4 a0.length ((ePl).f a0)] (lk []) (bl r) (lk [])) := by
  unfold Dspec_l6Open at h
  refine x_call (fn := Tryz.f143) (c := bodyOf Tryz.f143) (bs0 := []) Tryz.func143 (by kernel_rfl) (by kernel_rfl) ?_
  exact x_to 10 [] onil (Tspec_l6Open_0 n a0 n 1 r h) (by kernel_rfl)
/-! spec.Leaf -/
def Dspec_Leaf (a0 : Bool) : Option Sol :=
  some (Sol.mk a0 (Pl.mk 0 0 0 0) [])
theorem Tspec_Leaf {Y} (a0 : Bool) (r : Sol) (h : Dspec_Leaf a0 = some r) : Big Tryz.prog H Y (.call 87 [bl a0] (lk []) (.agg [bl r.inn, i64 r.pl.A, i64 r.pl.B, i64 r.pl.C, i64 r.pl.D, .sl true 6 r.kids.length ((eSol true).f r.kids)]) (lk [])) := by
  unfold Dspec_Leaf at h
  refine x_call (fn := Tryz.f87) (c := bodyOf Tryz.f87) (bs0 := []) Tryz.func87 (by kernel_rfl) (by kernel_rfl) ?_
  replace h := Option.some.inj h; subst h
  exact x_end 10 [] [(true, 6)] onil onil (by kernel_rfl)
/-! spec.l8Path -/
def Dspec_l8Path (a0 : (List Pl)) (a1 : Pl) : Option (List Pl) :=
  chk (apB 32 (0 + a0.length)) (chk (apB 32 (([] ++ a0).length + 1)) (some (([] ++ a0) ++ [a1])))
theorem Tspec_l8Path {Y} (a0 : (List Pl)) (a1 : Pl) (r : (List Pl)) (h : Dspec_l8Path a0 a1 = some r) : Big Tryz.prog H Y (.call 135 [.sl false 4 a0.length ((ePl).f a0), .agg [i64 a1.A, i64 a1.B, i64 a1.C, i64 a1.D]] (lk []) (.sl true 4 r.length ((ePl).f r)) (lk [])) := by
  unfold Dspec_l8Path at h
  refine x_call (fn := Tryz.f135) (c := bodyOf Tryz.f135) (bs0 := []) Tryz.func135 (by kernel_rfl) (by kernel_rfl) ?_
  obtain ⟨c0, h⟩ := chk_some h
  obtain ⟨c1, h⟩ := chk_some h
  replace h := Option.some.inj h; subst h
  exact x_end 15 [(4, .app false (List.length ([] ++ a0)) ((ePl).f ([] ++ a0))), (2, .app false (List.length (([] ++ a0) ++ [a1])) ((ePl).f (([] ++ a0) ++ [a1])))] [] (ocons (len_row' (L := []) ePl) (ocons (app_one (L := []) (M := a0) ePl c0) (ocons (app_new (L := []) (M := a0) ePl) (ocons (app_m (L := []) (M := a0) ePl rfl) (ocons (len_row' (L := a0) ePl) (ocons (len_row' (L := ([] ++ a0)) ePl) (ocons (app_one (L := ([] ++ a0)) (M := [a1]) ePl c1) (ocons (app_new (L := ([] ++ a0)) (M := [a1]) ePl) (ocons (app_m (L := ([] ++ a0)) (M := [a1]) ePl rfl) (ocons (len_row' (L := [a1]) ePl) (ocons (Enc.noOwn ePl (fun _ => rfl) [a1]) onil))))))))))) (ocons (len_row (L := (([] ++ a0) ++ [a1])) ePl) onil) (by kernel_rfl)
/-! spec.l8Node -/
def Dspec_l8Nodeo1o2 (a0 : Pl) (a1 : Sol) (a2 : Sol) : Option Sol :=
  some (Sol.mk false a0 [a1, a2])
theorem Tspec_l8Nodeo1o2 {Y} (a0 : Pl) (a1 : Sol) (a2 : Sol) (r : Sol) (h : Dspec_l8Nodeo1o2 a0 a1 a2 = some r) : Big Tryz.prog H Y (.call 140 [.agg [i64 a0.A, i64 a0.B, i64 a0.C, i64 a0.D], .agg [bl a1.inn, i64 a1.pl.A, i64 a1.pl.B, i64 a1.pl.C, i64 a1.pl.D, .sl true 6 a1.kids.length ((eSol true).f a1.kids)], .agg [bl a2.inn, i64 a2.pl.A, i64 a2.pl.B, i64 a2.pl.C, i64 a2.pl.D, .sl true 6 a2.kids.length ((eSol true).f a2.kids)]] (lk []) (.agg [bl r.inn, i64 r.pl.A, i64 r.pl.B, i64 r.pl.C, i64 r.pl.D, .sl true 6 r.kids.length ((eSol true).f r.kids)]) (lk [])) := by
  unfold Dspec_l8Nodeo1o2 at h
  refine x_call (fn := Tryz.f140) (c := bodyOf Tryz.f140) (bs0 := []) Tryz.func140 (by kernel_rfl) (by kernel_rfl) ?_
  replace h := Option.some.inj h; subst h
  exact x_end 17 [(8, .fixb 10 ⟨true, 6, (eSol true).f [a1, a2]⟩)] [] (ocons (boxSol true true [a1, a2]) onil) (ocons (len_row (L := [a1, a2]) (eSol true)) onil) (by kernel_rfl)
/-! spec.l9Convex -/
def Dspec_l9Convex_0 (_n : Nat) (self : ((List Pl) × (List Pl)) → Option Sol) (rec0 : Int → Option Sol) (t0 : List Pl) (t1 : List Pl) (_b4_0 : Bool) (_b4_1 _b4_2 _b4_3 _b4_4 t5 : Int) (t28 : Bool) : Option Sol :=
  frk t28 ((lget t0 t5).bind fun v5 => (lsl t0 (w64 (t5 + 1)) (t0.length : Int)).bind fun v6 => (lget t0 t5).bind fun v7 => (Dspec_l8Path t1 v7).bind fun v8 => (self (v6, v8)).bind fun v9 => (Dspec_Leaf false).bind fun v10 => (Dspec_l8Nodeo1o2 v5 v9 v10).bind fun v11 => some v11) (rec0 (w64 (t5 + 1)))
theorem Tspec_l9Convex_0 {Y} (n : Nat) (self : ((List Pl) × (List Pl)) → Option Sol) (rec0 : Int → Option Sol) (t0 : List Pl) (t1 : List Pl) (b4_0 : Bool) (b4_1 b4_2 b4_3 b4_4 : Int) (hself : ∀ (a : ((List Pl) × (List Pl))) (r : Sol), self a = some r → Big Tryz.prog H Y (.call 144 [.sl false 4 a.1.length ((ePl).f a.1), .sl false 4 a.2.length ((ePl).f a.2)] (lk []) (.agg [bl r.inn, i64 r.pl.A, i64 r.pl.B, i64 r.pl.C, i64 r.pl.D, .sl true 6 r.kids.length ((eSol true).f r.kids)]) (lk []))) (hrec0 : ∀ (a : Int) (r : Sol), rec0 a = some r → Wk Tryz.prog H Y 144 [.code (cp [1, 0, 1, 0] (bodyOf Tryz.f144)), .blk 0, .code (cp [1, 1] (bodyOf Tryz.f144))] (FinX Tryz.prog Tryz.f144 [] (.agg [bl r.inn, i64 r.pl.A, i64 r.pl.B, i64 r.pl.C, i64 r.pl.D, .sl true 6 r.kids.length ((eSol true).f r.kids)]) []) ⟨[(0, .sl false 4 t0.length ((ePl).f t0)), (1, .sl false 4 t1.length ((ePl).f t1)), (4, .ptr 4 0), (5, i64 a)], [(4, ⟨true, 0, [bl b4_0, i64 b4_1, i64 b4_2, i64 b4_3, i64 b4_4, .nil]⟩)]⟩) (t5 : Int) (t28 : Bool) (r : Sol) (h : Dspec_l9Convex_0 n self rec0 t0 t1 b4_0 b4_1 b4_2 b4_3 b4_4 t5 t28 = some r) : Wk Tryz.prog H Y 144 [.code (cp [1, 0, 1, 0, 0, 1, 0, 0, 1] (bodyOf Tryz.f144)), .blk 1, .code (cp [1, 0, 1, 0, 0, 1, 1] (bodyOf Tryz.f144)), .lp (cp [1, 0, 1, 0] (bodyOf Tryz.f144)), .blk 0, .code (cp [1, 1] (bodyOf Tryz.f144))] (FinX Tryz.prog Tryz.f144 [] (.agg [bl r.inn, i64 r.pl.A, i64 r.pl.B, i64 r.pl.C, i64 r.pl.D, .sl true 6 r.kids.length ((eSol true).f r.kids)]) []) ⟨[(0, .sl false 4 t0.length ((ePl).f t0)), (1, .sl false 4 t1.length ((ePl).f t1)), (4, .ptr 4 0), (5, i64 t5), (28, bl t28)], [(4, ⟨true, 0, [bl b4_0, i64 b4_1, i64 b4_2, i64 b4_3, i64 b4_4, .nil]⟩)]⟩ := by
  unfold Dspec_l9Convex_0 at h
  refine x_frk 0 [] onil h (by kernel_rfl) (fun h => ?_) (fun h => ?_)
  · obtain ⟨v5, hv5, h⟩ := bind_some h
    obtain ⟨v6, hv6, h⟩ := bind_some h
    obtain ⟨v7, hv7, h⟩ := bind_some h
    obtain ⟨v8, hv8, h⟩ := bind_some h
    obtain ⟨v9, hv9, h⟩ := bind_some h
    obtain ⟨v10, hv10, h⟩ := bind_some h
    obtain ⟨v11, hv11, h⟩ := bind_some h
    replace h := Option.some.inj h; subst h
    exact x_end 21 [(2, .val (.cptr (ePl.c v5 ++ (ePl).f ((t0).drop (Int.toNat t5 + 1))))), (4, .val (.sl false 4 v6.length ((ePl).f v6))), (3, .val (.cptr (ePl.c v7 ++ (ePl).f ((t0).drop (Int.toNat t5 + 1))))), (1, .call [] [] (.sl false 4 v8.length ((ePl).f v8)) []), (0, .call [] [] (.agg [bl v9.inn, i64 v9.pl.A, i64 v9.pl.B, i64 v9.pl.C, i64 v9.pl.D, .sl true 6 v9.kids.length ((eSol true).f v9.kids)]) []), (0, .call [] [] (.agg [bl v10.inn, i64 v10.pl.A, i64 v10.pl.B, i64 v10.pl.C, i64 v10.pl.D, .sl true 6 v10.kids.length ((eSol true).f v10.kids)]) []), (0, .call [] [] (.agg [bl v11.inn, i64 v11.pl.A, i64 v11.pl.B, i64 v11.pl.C, i64 v11.pl.D, .sl true 6 v11.kids.length ((eSol true).f v11.kids)]) [])] [] (ocons (ix ePl hv5) (ocons (slF ePl hv6) (ocons (ix ePl hv7) (ocons (shSl (L := v8) ePl ePl sPl (Tspec_l8Path (Y := Y) t1 v7 _ hv8)) (ocons (hself (v6, v8) _ hv9) (ocons (Tspec_Leaf (Y := Y) false _ hv10) (ocons (Tspec_l8Nodeo1o2 (Y := Y) v5 v9 v10 _ hv11) onil))))))) onil (by kernel_rfl)
  · exact x_to 8 [] onil (hrec0 (w64 (t5 + 1)) r h) (by kernel_rfl)
def Dspec_l9Convex_1 (_n : Nat) (_self : ((List Pl) × (List Pl)) → Option Sol) (_b4_0 : Bool) (_b4_1 _b4_2 _b4_3 _b4_4 : Int) : Option Sol :=
  (Dspec_Leaf true).bind fun v12 => some v12
theorem Tspec_l9Convex_1 {Y} (n : Nat) (self : ((List Pl) × (List Pl)) → Option Sol) (_hself : ∀ (a : ((List Pl) × (List Pl))) (r : Sol), self a = some r → Big Tryz.prog H Y (.call 144 [.sl false 4 a.1.length ((ePl).f a.1), .sl false 4 a.2.length ((ePl).f a.2)] (lk []) (.agg [bl r.inn, i64 r.pl.A, i64 r.pl.B, i64 r.pl.C, i64 r.pl.D, .sl true 6 r.kids.length ((eSol true).f r.kids)]) (lk []))) (b4_0 : Bool) (b4_1 b4_2 b4_3 b4_4 : Int) (r : Sol) (h : Dspec_l9Convex_1 n self b4_0 b4_1 b4_2 b4_3 b4_4 = some r) : Wk Tryz.prog H Y 144 [.code (cp [1, 1, 0] (bodyOf Tryz.f144)), .code (cp [1, 1, 1] (bodyOf Tryz.f144))] (FinX Tryz.prog Tryz.f144 [] (.agg [bl r.inn, i64 r.pl.A, i64 r.pl.B, i64 r.pl.C, i64 r.pl.D, .sl true 6 r.kids.length ((eSol true).f r.kids)]) []) ⟨[(4, .ptr 4 0)], [(4, ⟨true, 0, [bl b4_0, i64 b4_1, i64 b4_2, i64 b4_3, i64 b4_4, .nil]⟩)]⟩ := by
  unfold Dspec_l9Convex_1 at h
  obtain ⟨v12, hv12, h⟩ := bind_some h
  replace h := Option.some.inj h; subst h
  exact x_end 4 [(0, .call [] [] (.agg [bl v12.inn, i64 v12.pl.A, i64 v12.pl.B, i64 v12.pl.C, i64 v12.pl.D, .sl true 6 v12.kids.length ((eSol true).f v12.kids)]) [])] [] (ocons (Tspec_Leaf (Y := Y) true _ hv12) onil) onil (by kernel_rfl)
def Dspec_l9Convex_2 (n : Nat) (self : ((List Pl) × (List Pl)) → Option Sol) (t0 : List Pl) (t1 : List Pl) (b4_0 : Bool) (b4_1 b4_2 b4_3 b4_4 : Int) (rec0 : Int → Option Sol) (a : Int) : Option Sol :=
  match a with
  | t5 => frk (decide (t5 < (t0.length : Int))) ((lget t0 t5).bind fun v0 => (Dspec_l3Flip v0).bind fun v1 => (Dspec_l6With n t1 v1).bind fun v2 => frk (!v2) ((lget t0 t5).bind fun v3 => (Dspec_l6With n t1 v3).bind fun v4 => Dspec_l9Convex_0 n self rec0 t0 t1 b4_0 b4_1 b4_2 b4_3 b4_4 t5 (!v4)) (rec0 (w64 (t5 + 1)))) (Dspec_l9Convex_1 n self b4_0 b4_1 b4_2 b4_3 b4_4)
theorem Tspec_l9Convex_2 {Y} (n : Nat) (self : ((List Pl) × (List Pl)) → Option Sol) (hself : ∀ (a : ((List Pl) × (List Pl))) (r : Sol), self a = some r → Big Tryz.prog H Y (.call 144 [.sl false 4 a.1.length ((ePl).f a.1), .sl false 4 a.2.length ((ePl).f a.2)] (lk []) (.agg [bl r.inn, i64 r.pl.A, i64 r.pl.B, i64 r.pl.C, i64 r.pl.D, .sl true 6 r.kids.length ((eSol true).f r.kids)]) (lk []))) (t0 : List Pl) (t1 : List Pl) (b4_0 : Bool) (b4_1 b4_2 b4_3 b4_4 : Int) : ∀ (m : Nat) (a : Int) (r : Sol), loopN (Dspec_l9Convex_2 n self t0 t1 b4_0 b4_1 b4_2 b4_3 b4_4) m a = some r → Wk Tryz.prog H Y 144 [.code (cp [1, 0, 1, 0] (bodyOf Tryz.f144)), .blk 0, .code (cp [1, 1] (bodyOf Tryz.f144))] (FinX Tryz.prog Tryz.f144 [] (.agg [bl r.inn, i64 r.pl.A, i64 r.pl.B, i64 r.pl.C, i64 r.pl.D, .sl true 6 r.kids.length ((eSol true).f r.kids)]) []) ⟨[(0, .sl false 4 t0.length ((ePl).f t0)), (1, .sl false 4 t1.length ((ePl).f t1)), (4, .ptr 4 0), (5, i64 a)], [(4, ⟨true, 0, [bl b4_0, i64 b4_1, i64 b4_2, i64 b4_3, i64 b4_4, .nil]⟩)]⟩ := by
  refine loopN_ind (fun rec0 hrec0 a r h => ?_)
  obtain ⟨t5, rfl⟩ : ∃ x, x = a := ⟨a, rfl⟩
  unfold Dspec_l9Convex_2 at h
  refine x_frk 9 [] onil h (by kernel_rfl) (fun h => ?_) (fun h => ?_)
  · obtain ⟨v0, hv0, h⟩ := bind_some h
    obtain ⟨v1, hv1, h⟩ := bind_some h
    obtain ⟨v2, hv2, h⟩ := bind_some h
    refine x_frk 14 [(3, .val (.cptr (ePl.c v0 ++ (ePl).f ((t0).drop (Int.toNat t5 + 1))))), (1, .call [] [] (.agg [i64 v1.A, i64 v1.B, i64 v1.C, i64 v1.D]) []), (0, .call [] [] (bl v2) [])] (ocons (ix ePl hv0) (ocons (Tspec_l3Flip (Y := Y) v0 _ hv1) (ocons (Tspec_l6With (Y := Y) n t1 v1 _ hv2) onil))) h (by kernel_rfl) (fun h => ?_) (fun h => ?_)
    · obtain ⟨v3, hv3, h⟩ := bind_some h
      obtain ⟨v4, hv4, h⟩ := bind_some h
      exact x_to 9 [(3, .val (.cptr (ePl.c v3 ++ (ePl).f ((t0).drop (Int.toNat t5 + 1))))), (1, .call [] [] (bl v4) [])] (ocons (ix ePl hv3) (ocons (Tspec_l6With (Y := Y) n t1 v3 _ hv4) onil)) (Tspec_l9Convex_0 n self rec0 t0 t1 b4_0 b4_1 b4_2 b4_3 b4_4 hself hrec0 t5 (!v4) r h) (by kernel_rfl)
    · exact x_to 18 [] onil (hrec0 (w64 (t5 + 1)) r h) (by kernel_rfl)
  · exact x_to 2 [] onil (Tspec_l9Convex_1 n self hself b4_0 b4_1 b4_2 b4_3 b4_4 r h) (by kernel_rfl)
def Dspec_l9Convex_b (n : Nat) (self : ((List Pl) × (List Pl)) → Option Sol) (a : ((List Pl) × (List Pl))) : Option Sol :=
  match a with
  | (a0, a1) => loopN (Dspec_l9Convex_2 n self a0 a1 false 0 0 0 0) n 0
def Dspec_l9Convex (n : Nat) (a0 : (List Pl)) (a1 : (List Pl)) : Option Sol := loopN (Dspec_l9Convex_b n) n (a0, a1)
theorem Tspec_l9Convex_b {Y} (n : Nat) : ∀ (m : Nat) (a : ((List Pl) × (List Pl))) (r : Sol), loopN (Dspec_l9Convex_b n) m a = some r → ∀ (_ : Unit), Big Tryz.prog H Y (.call 144 [.sl false 4 a.1.length ((ePl).f a.1), .sl false 4 a.2.length ((ePl).f a.2)] (lk []) (.agg [bl r.inn, i64 r.pl.A, i64 r.pl.B, i64 r.pl.C, i64 r.pl.D, .sl true 6 r.kids.length ((eSol true).f r.kids)]) (lk [])) := by
  refine loopN_ind (fun self hs a r h => ?_)
  have hself : ∀ (a : ((List Pl) × (List Pl))) (r : Sol), self a = some r → Big Tryz.prog H Y (.call 144 [.sl false 4 a.1.length ((ePl).f a.1), .sl false 4 a.2.length ((ePl).f a.2)] (lk []) (.agg [bl r.inn, i64 r.pl.A, i64 r.pl.B, i64 r.pl.C, i64 r.pl.D, .sl true 6 r.kids.length ((eSol true).f r.kids)]) (lk [])) := fun a r h => hs a r h ()
  intro _
  obtain ⟨a0, a1⟩ := a
  unfold Dspec_l9Convex_b at h
  refine x_call (fn := Tryz.f144) (c := bodyOf Tryz.f144) (bs0 := []) Tryz.func144 (by kernel_rfl) (by kernel_rfl) ?_
  exact x_to 10 [] onil (Tspec_l9Convex_2 n self hself a0 a1 false 0 0 0 0 n 0 r h) (by kernel_rfl)
theorem Tspec_l9Convex {Y} (n : Nat) (a0 : (List Pl)) (a1 : (List Pl)) (r : Sol) (h : Dspec_l9Convex n a0 a1 = some r) : Big Tryz.prog H Y (.call 144 [.sl false 4 a0.length ((ePl).f a0), .sl false 4 a1.length ((ePl).f a1)] (lk []) (.agg [bl r.inn, i64 r.pl.A, i64 r.pl.B, i64 r.pl.C, i64 r.pl.D, .sl true 6 r.kids.length ((eSol true).f r.kids)]) (lk [])) := Tspec_l9Convex_b n n (a0, a1) r h ()
/-! spec.Convex -/
def Dspec_Convex (n : Nat) (a0 : (List Pl)) : Option (Sol × Int) :=
  (Dspec_l6Right n a0).bind fun v0 => frk (!v0) (some ((Sol.mk false (Pl.mk 0 0 0 0) []), 1)) ((Dspec_l6Open n a0).bind fun v1 => frk (!v1) ((Dspec_Leaf false).bind fun v2 => some (v2, 2)) ((Dspec_l9Convex n a0 []).bind fun v3 => some (v3, 0)))
theorem Tspec_Convex {Y} (n : Nat) (a0 : (List Pl)) (r : (Sol × Int)) (h : Dspec_Convex n a0 = some r) : Big Tryz.prog H Y (.call 80 [.sl false 4 a0.length ((ePl).f a0)] (lk []) (.tup [.agg [bl r.1.inn, i64 r.1.pl.A, i64 r.1.pl.B, i64 r.1.pl.C, i64 r.1.pl.D, .sl true 6 r.1.kids.length ((eSol true).f r.1.kids)], i64 r.2]) (lk [])) := by
  unfold Dspec_Convex at h
  refine x_call (fn := Tryz.f80) (c := bodyOf Tryz.f80) (bs0 := []) Tryz.func80 (by kernel_rfl) (by kernel_rfl) ?_
  obtain ⟨v0, hv0, h⟩ := bind_some h
  refine x_frk 12 [(3, .call [] [] (bl v0) [])] (ocons (Tspec_l6Right (Y := Y) n a0 _ hv0) onil) h (by kernel_rfl) (fun h => ?_) (fun h => ?_)
  · replace h := Option.some.inj h; subst h
    exact x_end 6 [] [(true, 6)] onil onil (by kernel_rfl)
  · obtain ⟨v1, hv1, h⟩ := bind_some h
    refine x_frk 8 [(1, .call [] [] (bl v1) [])] (ocons (Tspec_l6Open (Y := Y) n a0 _ hv1) onil) h (by kernel_rfl) (fun h => ?_) (fun h => ?_)
    · obtain ⟨v2, hv2, h⟩ := bind_some h
      replace h := Option.some.inj h; subst h
      exact x_end 6 [(0, .call [] [] (.agg [bl v2.inn, i64 v2.pl.A, i64 v2.pl.B, i64 v2.pl.C, i64 v2.pl.D, .sl true 6 v2.kids.length ((eSol true).f v2.kids)]) [])] [] (ocons (Tspec_Leaf (Y := Y) false _ hv2) onil) onil (by kernel_rfl)
    · obtain ⟨v3, hv3, h⟩ := bind_some h
      replace h := Option.some.inj h; subst h
      exact x_end 9 [(2, .call [] [(ePl).f []] (.agg [bl v3.inn, i64 v3.pl.A, i64 v3.pl.B, i64 v3.pl.C, i64 v3.pl.D, .sl true 6 v3.kids.length ((eSol true).f v3.kids)]) [])] [] (ocons (Tspec_l9Convex (Y := Y) n a0 [] _ hv3) (ocons (len_row (L := []) ePl) (ocons (Enc.share ePl ePl sPl []) (ocons (show hasSh (.agg [bl v3.inn, i64 v3.pl.A, i64 v3.pl.B, i64 v3.pl.C, i64 v3.pl.D, .sl true 6 v3.kids.length ((eSol true).f v3.kids)]) = false by simp [hasSh, hasShL, nSh, nShI, nShB, nShP, nShT, nShN, nShPs]) onil)))) onil (by kernel_rfl)
/-! spec.l9Greatest -/
def Dspec_l9Greatest_0 (t3 _b1_0 _b1_1 b1_2 _b1_3 : Int) : Option Int :=
  (Dspec_l3Abs b1_2).bind fun v3 => frk (decide (v3 > t3)) ((Dspec_l3Abs b1_2).bind fun v4 => some v4) (some t3)
theorem Tspec_l9Greatest_0 {Y} (t3 b1_0 b1_1 b1_2 b1_3 r : Int) (h : Dspec_l9Greatest_0 t3 b1_0 b1_1 b1_2 b1_3 = some r) : Wk Tryz.prog H Y 104 [.code (cp [1, 1, 1, 0, 0] (bodyOf Tryz.f104)), .code (cp [1, 1, 1, 0, 1] (bodyOf Tryz.f104)), .code (cp [1, 1, 1, 1] (bodyOf Tryz.f104))] (FinX Tryz.prog Tryz.f104 [] (i64 r) []) ⟨[(1, .ptr 1 0), (3, i64 t3)], [(1, ⟨true, 0, [i64 b1_0, i64 b1_1, i64 b1_2, i64 b1_3]⟩)]⟩ := by
  unfold Dspec_l9Greatest_0 at h
  obtain ⟨v3, hv3, h⟩ := bind_some h
  refine x_frk 7 [(2, .call [] [] (i64 v3) [])] (ocons (Tspec_l3Abs (Y := Y) b1_2 _ hv3) onil) h (by kernel_rfl) (fun h => ?_) (fun h => ?_)
  · obtain ⟨v4, hv4, h⟩ := bind_some h
    replace h := Option.some.inj h; subst h
    exact x_end 11 [(2, .call [] [] (i64 v4) [])] [] (ocons (Tspec_l3Abs (Y := Y) b1_2 _ hv4) onil) onil (by kernel_rfl)
  · replace h := Option.some.inj h; subst h
    exact x_end 6 [] [] onil onil (by kernel_rfl)
def Dspec_l9Greatest (a0 : Pl) : Option Int :=
  (Dspec_l3Abs a0.A).bind fun v0 => (Dspec_l3Abs a0.B).bind fun v1 => frk (decide (v1 > v0)) ((Dspec_l3Abs a0.B).bind fun v2 => Dspec_l9Greatest_0 v2 a0.A a0.B a0.C a0.D) (Dspec_l9Greatest_0 v0 a0.A a0.B a0.C a0.D)
theorem Tspec_l9Greatest {Y} (a0 : Pl) (r : Int) (h : Dspec_l9Greatest a0 = some r) : Big Tryz.prog H Y (.call 104 [.agg [i64 a0.A, i64 a0.B, i64 a0.C, i64 a0.D]] (lk []) (i64 r) (lk [])) := by
  unfold Dspec_l9Greatest at h
  refine x_call (fn := Tryz.f104) (c := bodyOf Tryz.f104) (bs0 := []) Tryz.func104 (by kernel_rfl) (by kernel_rfl) ?_
  obtain ⟨v0, hv0, h⟩ := bind_some h
  obtain ⟨v1, hv1, h⟩ := bind_some h
  refine x_frk 21 [(4, .call [] [] (i64 v0) []), (3, .call [] [] (i64 v1) [])] (ocons (Tspec_l3Abs (Y := Y) a0.A _ hv0) (ocons (Tspec_l3Abs (Y := Y) a0.B _ hv1) onil)) h (by kernel_rfl) (fun h => ?_) (fun h => ?_)
  · obtain ⟨v2, hv2, h⟩ := bind_some h
    exact x_to 8 [(2, .call [] [] (i64 v2) [])] (ocons (Tspec_l3Abs (Y := Y) a0.B _ hv2) onil) (Tspec_l9Greatest_0 v2 a0.A a0.B a0.C a0.D r h) (by kernel_rfl)
  · exact x_to 3 [] onil (Tspec_l9Greatest_0 v0 a0.A a0.B a0.C a0.D r h) (by kernel_rfl)
/-! spec.l8Leaf -/
def Dspec_l8Leaf (a0 : Sol) : Option Bool :=
  some ((a0.kids.length : Int) == 0)
theorem Tspec_l8Leaf {Y} (a0 : Sol) (r : Bool) (h : Dspec_l8Leaf a0 = some r) : Big Tryz.prog H Y (.call 132 [.agg [bl a0.inn, i64 a0.pl.A, i64 a0.pl.B, i64 a0.pl.C, i64 a0.pl.D, .sl false 6 a0.kids.length ((eSol false).f a0.kids)]] (lk []) (bl r) (lk [])) := by
  unfold Dspec_l8Leaf at h
  refine x_call (fn := Tryz.f132) (c := bodyOf Tryz.f132) (bs0 := []) Tryz.func132 (by kernel_rfl) (by kernel_rfl) ?_
  replace h := Option.some.inj h; subst h
  exact x_end 13 [] [] onil onil (by kernel_rfl)
/-! spec.l8Count -/
def Dspec_l8Count_1 (_n : Nat) (self : (Sol × Int) → Option Int) (t1 : Int) (_b2_0 : Bool) (_b2_1 _b2_2 _b2_3 _b2_4 : Int) (b2_5 : List Sol) (rec0 : (Int × Int) → Option Int) (a : (Int × Int)) : Option Int :=
  match a with
  | (t5, t6) => frk (decide (t6 < (b2_5.length : Int))) ((lget b2_5 t6).bind fun v1 => (self (v1, w64 (t1 - t5))).bind fun v2 => rec0 (w64 (t5 + v2), w64 (t6 + 1))) (some t5)
theorem Tspec_l8Count_1 {Y} (n : Nat) (self : (Sol × Int) → Option Int) (hself : ∀ (a : (Sol × Int)) (r : Int), self a = some r → Big Tryz.prog H Y (.call 70 [.agg [bl a.1.inn, i64 a.1.pl.A, i64 a.1.pl.B, i64 a.1.pl.C, i64 a.1.pl.D, .sl false 6 a.1.kids.length ((eSol false).f a.1.kids)], i64 a.2] (lk []) (i64 r) (lk []))) (t1 : Int) (b2_0 : Bool) (b2_1 b2_2 b2_3 b2_4 : Int) (b2_5 : List Sol) : ∀ (m : Nat) (a : (Int × Int)) (r : Int), loopN (Dspec_l8Count_1 n self t1 b2_0 b2_1 b2_2 b2_3 b2_4 b2_5) m a = some r → Wk Tryz.prog H Y 70 [.code (cp [1, 1, 1, 0, 1, 0] (bodyOf Tryz.f70)), .blk 0, .code (cp [1, 1, 1, 1] (bodyOf Tryz.f70))] (FinX Tryz.prog Tryz.f70 [] (i64 r) []) ⟨[(1, i64 t1), (2, .ptr 2 0), (5, i64 a.1), (6, i64 a.2)], [(2, ⟨true, 0, [bl b2_0, i64 b2_1, i64 b2_2, i64 b2_3, i64 b2_4, .sl false 6 b2_5.length ((eSol false).f b2_5)]⟩)]⟩ := by
  refine loopN_ind (fun _rec0 hrec0 a r h => ?_)
  obtain ⟨t5, t6⟩ := a
  unfold Dspec_l8Count_1 at h
  refine x_frk 10 [] onil h (by kernel_rfl) (fun h => ?_) (fun h => ?_)
  · obtain ⟨v1, hv1, h⟩ := bind_some h
    obtain ⟨v2, hv2, h⟩ := bind_some h
    exact x_to 24 [(4, .val (.cptr ((eSol false).c v1 ++ (eSol false).f ((b2_5).drop (Int.toNat t6 + 1))))), (4, .call [] [] (i64 v2) [])] (ocons (ix (eSol false) hv1) (ocons (hself (v1, w64 (t1 - t5)) _ hv2) onil)) (hrec0 (w64 (t5 + v2), w64 (t6 + 1)) r h) (by kernel_rfl)
  · replace h := Option.some.inj h; subst h
    exact x_end 6 [] [] onil onil (by kernel_rfl)
def Dspec_l8Count_0 (n : Nat) (self : (Sol × Int) → Option Int) (t1 : Int) (t12 b2_0 : Bool) (b2_1 b2_2 b2_3 b2_4 : Int) (b2_5 : List Sol) : Option Int :=
  frk t12 (some 0) (loopN (Dspec_l8Count_1 n self t1 b2_0 b2_1 b2_2 b2_3 b2_4 b2_5) n (1, 0))
theorem Tspec_l8Count_0 {Y} (n : Nat) (self : (Sol × Int) → Option Int) (hself : ∀ (a : (Sol × Int)) (r : Int), self a = some r → Big Tryz.prog H Y (.call 70 [.agg [bl a.1.inn, i64 a.1.pl.A, i64 a.1.pl.B, i64 a.1.pl.C, i64 a.1.pl.D, .sl false 6 a.1.kids.length ((eSol false).f a.1.kids)], i64 a.2] (lk []) (i64 r) (lk []))) (t1 : Int) (t12 b2_0 : Bool) (b2_1 b2_2 b2_3 b2_4 : Int) (b2_5 : List Sol) (r : Int) (h : Dspec_l8Count_0 n self t1 t12 b2_0 b2_1 b2_2 b2_3 b2_4 b2_5 = some r) : Wk Tryz.prog H Y 70 [.code (cp [1, 0, 1] (bodyOf Tryz.f70)), .code (cp [1, 1] (bodyOf Tryz.f70))] (FinX Tryz.prog Tryz.f70 [] (i64 r) []) ⟨[(1, i64 t1), (2, .ptr 2 0), (12, bl t12)], [(2, ⟨true, 0, [bl b2_0, i64 b2_1, i64 b2_2, i64 b2_3, i64 b2_4, .sl false 6 b2_5.length ((eSol false).f b2_5)]⟩)]⟩ := by
  unfold Dspec_l8Count_0 at h
  refine x_frk 0 [] onil h (by kernel_rfl) (fun h => ?_) (fun h => ?_)
  · replace h := Option.some.inj h; subst h
    exact x_end 4 [] [] onil onil (by kernel_rfl)
  · exact x_to 11 [] onil (Tspec_l8Count_1 n self hself t1 b2_0 b2_1 b2_2 b2_3 b2_4 b2_5 n (1, 0) r h) (by kernel_rfl)
def Dspec_l8Count_b (n : Nat) (self : (Sol × Int) → Option Int) (a : (Sol × Int)) : Option Int :=
  match a with
  | (a0, a1) => (Dspec_l8Leaf a0).bind fun v0 => frk v0 (some 0) (Dspec_l8Count_0 n self a1 (decide (a1 ≤ 0)) a0.inn a0.pl.A a0.pl.B a0.pl.C a0.pl.D a0.kids)
def Dspec_l8Count (n : Nat) (a0 : Sol) (a1 : Int) : Option Int := loopN (Dspec_l8Count_b n) n (a0, a1)
theorem Tspec_l8Count_b {Y} (n : Nat) : ∀ (m : Nat) (a : (Sol × Int)) (r : Int), loopN (Dspec_l8Count_b n) m a = some r → ∀ (_ : Unit), Big Tryz.prog H Y (.call 70 [.agg [bl a.1.inn, i64 a.1.pl.A, i64 a.1.pl.B, i64 a.1.pl.C, i64 a.1.pl.D, .sl false 6 a.1.kids.length ((eSol false).f a.1.kids)], i64 a.2] (lk []) (i64 r) (lk [])) := by
  refine loopN_ind (fun self hs a r h => ?_)
  have hself : ∀ (a : (Sol × Int)) (r : Int), self a = some r → Big Tryz.prog H Y (.call 70 [.agg [bl a.1.inn, i64 a.1.pl.A, i64 a.1.pl.B, i64 a.1.pl.C, i64 a.1.pl.D, .sl false 6 a.1.kids.length ((eSol false).f a.1.kids)], i64 a.2] (lk []) (i64 r) (lk [])) := fun a r h => hs a r h ()
  intro _
  obtain ⟨a0, a1⟩ := a
  unfold Dspec_l8Count_b at h
  refine x_call (fn := Tryz.f70) (c := bodyOf Tryz.f70) (bs0 := []) Tryz.func70 (by kernel_rfl) (by kernel_rfl) ?_
  obtain ⟨v0, hv0, h⟩ := bind_some h
  refine x_frk 11 [(3, .call [] [] (bl v0) [])] (ocons (Tspec_l8Leaf (Y := Y) a0 _ hv0) onil) h (by kernel_rfl) (fun h => ?_) (fun h => ?_)
  · replace h := Option.some.inj h; subst h
    exact x_end 9 [] [] onil onil (by kernel_rfl)
  · exact x_to 4 [] onil (Tspec_l8Count_0 n self hself a1 (decide (a1 ≤ 0)) a0.inn a0.pl.A a0.pl.B a0.pl.C a0.pl.D a0.kids r h) (by kernel_rfl)
theorem Tspec_l8Count {Y} (n : Nat) (a0 : Sol) (a1 r : Int) (h : Dspec_l8Count n a0 a1 = some r) : Big Tryz.prog H Y (.call 70 [.agg [bl a0.inn, i64 a0.pl.A, i64 a0.pl.B, i64 a0.pl.C, i64 a0.pl.D, .sl false 6 a0.kids.length ((eSol false).f a0.kids)], i64 a1] (lk []) (i64 r) (lk [])) := Tspec_l8Count_b n n (a0, a1) r h ()
/-! spec.l8Look -/
def Dspec_l8Look_0 (_n : Nat) (self : (Sol × (List Pl)) → Option Bool) (t1 : List Pl) (t42 _b2_0 : Bool) (b2_1 b2_2 b2_3 b2_4 : Int) (b2_5 : List Sol) : Option Bool :=
  frk t42 (some false) ((lget b2_5 0).bind fun v5 => (Dspec_l8Path t1 (Pl.mk b2_1 b2_2 b2_3 b2_4)).bind fun v6 => (self (v5, v6)).bind fun v7 => frk v7 ((lget b2_5 1).bind fun v8 => (Dspec_l3Flip (Pl.mk b2_1 b2_2 b2_3 b2_4)).bind fun v9 => (Dspec_l8Path t1 v9).bind fun v10 => (self (v8, v10)).bind fun v11 => some v11) (some false))
theorem Tspec_l8Look_0 {Y} (n : Nat) (self : (Sol × (List Pl)) → Option Bool) (hself : ∀ (a : (Sol × (List Pl))) (r : Bool), self a = some r → Big Tryz.prog H Y (.call 71 [.agg [bl a.1.inn, i64 a.1.pl.A, i64 a.1.pl.B, i64 a.1.pl.C, i64 a.1.pl.D, .sl false 6 a.1.kids.length ((eSol false).f a.1.kids)], .sl false 4 a.2.length ((ePl).f a.2)] (lk []) (bl r) (lk []))) (t1 : List Pl) (t42 b2_0 : Bool) (b2_1 b2_2 b2_3 b2_4 : Int) (b2_5 : List Sol) (r : Bool) (h : Dspec_l8Look_0 n self t1 t42 b2_0 b2_1 b2_2 b2_3 b2_4 b2_5 = some r) : Wk Tryz.prog H Y 71 [.code (cp [1, 1, 0, 1] (bodyOf Tryz.f71)), .code (cp [1, 1, 1] (bodyOf Tryz.f71))] (FinX Tryz.prog Tryz.f71 [] (bl r) []) ⟨[(1, .sl false 4 t1.length ((ePl).f t1)), (2, .ptr 2 0), (42, bl t42)], [(2, ⟨true, 0, [bl b2_0, i64 b2_1, i64 b2_2, i64 b2_3, i64 b2_4, .sl false 6 b2_5.length ((eSol false).f b2_5)]⟩)]⟩ := by
  unfold Dspec_l8Look_0 at h
  refine x_frk 0 [] onil h (by kernel_rfl) (fun h => ?_) (fun h => ?_)
  · replace h := Option.some.inj h; subst h
    exact x_end 4 [] [] onil onil (by kernel_rfl)
  · obtain ⟨v5, hv5, h⟩ := bind_some h
    obtain ⟨v6, hv6, h⟩ := bind_some h
    obtain ⟨v7, hv7, h⟩ := bind_some h
    refine x_frk 13 [(2, .val (.cptr ((eSol false).c v5 ++ (eSol false).f ((b2_5).drop (Int.toNat 0 + 1))))), (4, .call [] [] (.sl false 4 v6.length ((ePl).f v6)) []), (0, .call [] [] (bl v7) [])] (ocons (ix (eSol false) hv5) (ocons (shSl (L := v6) ePl ePl sPl (Tspec_l8Path (Y := Y) t1 (Pl.mk b2_1 b2_2 b2_3 b2_4) _ hv6)) (ocons (hself (v5, v6) _ hv7) onil))) h (by kernel_rfl) (fun h => ?_) (fun h => ?_)
    · obtain ⟨v8, hv8, h⟩ := bind_some h
      obtain ⟨v9, hv9, h⟩ := bind_some h
      obtain ⟨v10, hv10, h⟩ := bind_some h
      obtain ⟨v11, hv11, h⟩ := bind_some h
      replace h := Option.some.inj h; subst h
      exact x_end 13 [(2, .val (.cptr ((eSol false).c v8 ++ (eSol false).f ((b2_5).drop (Int.toNat 1 + 1))))), (4, .call [] [] (.agg [i64 v9.A, i64 v9.B, i64 v9.C, i64 v9.D]) []), (0, .call [] [] (.sl false 4 v10.length ((ePl).f v10)) []), (0, .call [] [] (bl v11) [])] [] (ocons (ix (eSol false) hv8) (ocons (Tspec_l3Flip (Y := Y) (Pl.mk b2_1 b2_2 b2_3 b2_4) _ hv9) (ocons (shSl (L := v10) ePl ePl sPl (Tspec_l8Path (Y := Y) t1 v9 _ hv10)) (ocons (hself (v8, v10) _ hv11) onil)))) onil (by kernel_rfl)
    · replace h := Option.some.inj h; subst h
      exact x_end 13 [] [] onil onil (by kernel_rfl)
def Dspec_l8Look_b (n : Nat) (self : (Sol × (List Pl)) → Option Bool) (a : (Sol × (List Pl))) : Option Bool :=
  match a with
  | (a0, a1) => (Dspec_l8Leaf a0).bind fun v0 => frk v0 (some (a0.pl.A == 0 && (a0.pl.B == 0 && (a0.pl.C == 0 && (a0.pl.D == 0 && true))))) (frk ((a0.kids.length : Int) != 2) (some false) (frk a0.inn (some false) ((Dspec_PlaneOk n a0.pl).bind fun v1 => frk (!v1) (some false) (frk ((a1.length : Int) == 24) (some false) ((Dspec_l6With n a1 a0.pl).bind fun v2 => frk v2 (some false) ((Dspec_l3Flip a0.pl).bind fun v3 => (Dspec_l6With n a1 v3).bind fun v4 => Dspec_l8Look_0 n self a1 v4 a0.inn a0.pl.A a0.pl.B a0.pl.C a0.pl.D a0.kids))))))
def Dspec_l8Look (n : Nat) (a0 : Sol) (a1 : (List Pl)) : Option Bool := loopN (Dspec_l8Look_b n) n (a0, a1)
theorem Tspec_l8Look_b {Y} (n : Nat) : ∀ (m : Nat) (a : (Sol × (List Pl))) (r : Bool), loopN (Dspec_l8Look_b n) m a = some r → ∀ (_ : Unit), Big Tryz.prog H Y (.call 71 [.agg [bl a.1.inn, i64 a.1.pl.A, i64 a.1.pl.B, i64 a.1.pl.C, i64 a.1.pl.D, .sl false 6 a.1.kids.length ((eSol false).f a.1.kids)], .sl false 4 a.2.length ((ePl).f a.2)] (lk []) (bl r) (lk [])) := by
  refine loopN_ind (fun self hs a r h => ?_)
  have hself : ∀ (a : (Sol × (List Pl))) (r : Bool), self a = some r → Big Tryz.prog H Y (.call 71 [.agg [bl a.1.inn, i64 a.1.pl.A, i64 a.1.pl.B, i64 a.1.pl.C, i64 a.1.pl.D, .sl false 6 a.1.kids.length ((eSol false).f a.1.kids)], .sl false 4 a.2.length ((ePl).f a.2)] (lk []) (bl r) (lk [])) := fun a r h => hs a r h ()
  intro _
  obtain ⟨a0, a1⟩ := a
  unfold Dspec_l8Look_b at h
  refine x_call (fn := Tryz.f71) (c := bodyOf Tryz.f71) (bs0 := []) Tryz.func71 (by kernel_rfl) (by kernel_rfl) ?_
  obtain ⟨v0, hv0, h⟩ := bind_some h
  refine x_frk 11 [(3, .call [] [] (bl v0) [])] (ocons (Tspec_l8Leaf (Y := Y) a0 _ hv0) onil) h (by kernel_rfl) (fun h => ?_) (fun h => ?_)
  · replace h := Option.some.inj h; subst h
    exact x_end 8 [] [] onil onil (by kernel_rfl)
  · refine x_frk 9 [] onil h (by kernel_rfl) (fun h => ?_) (fun h => ?_)
    · replace h := Option.some.inj h; subst h
      exact x_end 33 [] [] onil onil (by kernel_rfl)
    · refine x_frk 4 [] onil h (by kernel_rfl) (fun h => ?_) (fun h => ?_)
      · replace h := Option.some.inj h; subst h
        exact x_end 29 [] [] onil onil (by kernel_rfl)
      · obtain ⟨v1, hv1, h⟩ := bind_some h
        refine x_frk 6 [(2, .call [] [] (bl v1) [])] (ocons (Tspec_PlaneOk (Y := Y) n a0.pl _ hv1) onil) h (by kernel_rfl) (fun h => ?_) (fun h => ?_)
        · replace h := Option.some.inj h; subst h
          exact x_end 23 [] [] onil onil (by kernel_rfl)
        · refine x_frk 5 [] onil h (by kernel_rfl) (fun h => ?_) (fun h => ?_)
          · replace h := Option.some.inj h; subst h
            exact x_end 18 [] [] onil onil (by kernel_rfl)
          · obtain ⟨v2, hv2, h⟩ := bind_some h
            refine x_frk 6 [(3, .call [] [] (bl v2) [])] (ocons (Tspec_l6With (Y := Y) n a1 a0.pl _ hv2) onil) h (by kernel_rfl) (fun h => ?_) (fun h => ?_)
            · replace h := Option.some.inj h; subst h
              exact x_end 12 [] [] onil onil (by kernel_rfl)
            · obtain ⟨v3, hv3, h⟩ := bind_some h
              obtain ⟨v4, hv4, h⟩ := bind_some h
              exact x_to 7 [(3, .call [] [] (.agg [i64 v3.A, i64 v3.B, i64 v3.C, i64 v3.D]) []), (0, .call [] [] (bl v4) [])] (ocons (Tspec_l3Flip (Y := Y) a0.pl _ hv3) (ocons (Tspec_l6With (Y := Y) n a1 v3 _ hv4) onil)) (Tspec_l8Look_0 n self hself a1 v4 a0.inn a0.pl.A a0.pl.B a0.pl.C a0.pl.D a0.kids r h) (by kernel_rfl)
theorem Tspec_l8Look {Y} (n : Nat) (a0 : Sol) (a1 : (List Pl)) (r : Bool) (h : Dspec_l8Look n a0 a1 = some r) : Big Tryz.prog H Y (.call 71 [.agg [bl a0.inn, i64 a0.pl.A, i64 a0.pl.B, i64 a0.pl.C, i64 a0.pl.D, .sl false 6 a0.kids.length ((eSol false).f a0.kids)], .sl false 4 a1.length ((ePl).f a1)] (lk []) (bl r) (lk [])) := Tspec_l8Look_b n n (a0, a1) r h ()
/-! spec.SolidOk -/
def Dspec_SolidOk (n : Nat) (a0 : Sol) : Option Bool :=
  (Dspec_l8Count n a0 301).bind fun v0 => frk (decide (v0 ≤ 300)) ((Dspec_l8Look n a0 []).bind fun v1 => some v1) (some false)
theorem Tspec_SolidOk {Y} (n : Nat) (a0 : Sol) (r : Bool) (h : Dspec_SolidOk n a0 = some r) : Big Tryz.prog H Y (.call 14 [.agg [bl a0.inn, i64 a0.pl.A, i64 a0.pl.B, i64 a0.pl.C, i64 a0.pl.D, .sl false 6 a0.kids.length ((eSol false).f a0.kids)]] (lk []) (bl r) (lk [])) := by
  unfold Dspec_SolidOk at h
  refine x_call (fn := Tryz.f14) (c := bodyOf Tryz.f14) (bs0 := []) Tryz.func14 (by kernel_rfl) (by kernel_rfl) ?_
  obtain ⟨v0, hv0, h⟩ := bind_some h
  refine x_frk 11 [(3, .call [] [] (i64 v0) [])] (ocons (Tspec_l8Count (Y := Y) n a0 301 _ hv0) onil) h (by kernel_rfl) (fun h => ?_) (fun h => ?_)
  · obtain ⟨v1, hv1, h⟩ := bind_some h
    replace h := Option.some.inj h; subst h
    exact x_end 6 [(2, .call [] [(ePl).f []] (bl v1) [])] [] (ocons (Tspec_l8Look (Y := Y) n a0 [] _ hv1) (ocons (len_row (L := []) ePl) (ocons (Enc.share ePl ePl sPl []) onil))) onil (by kernel_rfl)
  · replace h := Option.some.inj h; subst h
    exact x_end 6 [] [] onil onil (by kernel_rfl)
/-! spec.l11In -/
def Dspec_l11In (a0 : Int) (a1 a2 : Bool) : Option Bool :=
  frk (a0 == 1) (frk a1 (some a2) (some false)) (frk (a0 == 2) (frk a1 (some true) (some a2)) (frk (a0 == 3) (frk a1 (some (!a2)) (some false)) (some (!(a1 == a2)))))
theorem Tspec_l11In {Y} (a0 : Int) (a1 a2 r : Bool) (h : Dspec_l11In a0 a1 a2 = some r) : Big Tryz.prog H Y (.call 185 [i64 a0, bl a1, bl a2] (lk []) (bl r) (lk [])) := by
  unfold Dspec_l11In at h
  refine x_call (fn := Tryz.f185) (c := bodyOf Tryz.f185) (bs0 := []) Tryz.func185 (by kernel_rfl) (by kernel_rfl) ?_
  refine x_frk 15 [] onil h (by kernel_rfl) (fun h => ?_) (fun h => ?_)
  · refine x_frk 4 [] onil h (by kernel_rfl) (fun h => ?_) (fun h => ?_)
    · replace h := Option.some.inj h; subst h
      exact x_end 4 [] [] onil onil (by kernel_rfl)
    · replace h := Option.some.inj h; subst h
      exact x_end 4 [] [] onil onil (by kernel_rfl)
  · refine x_frk 5 [] onil h (by kernel_rfl) (fun h => ?_) (fun h => ?_)
    · refine x_frk 4 [] onil h (by kernel_rfl) (fun h => ?_) (fun h => ?_)
      · replace h := Option.some.inj h; subst h
        exact x_end 4 [] [] onil onil (by kernel_rfl)
      · replace h := Option.some.inj h; subst h
        exact x_end 4 [] [] onil onil (by kernel_rfl)
    · refine x_frk 5 [] onil h (by kernel_rfl) (fun h => ?_) (fun h => ?_)
      · refine x_frk 4 [] onil h (by kernel_rfl) (fun h => ?_) (fun h => ?_)
        · replace h := Option.some.inj h; subst h
          exact x_end 5 [] [] onil onil (by kernel_rfl)
        · replace h := Option.some.inj h; subst h
          exact x_end 5 [] [] onil onil (by kernel_rfl)
      · replace h := Option.some.inj h; subst h
        exact x_end 9 [] [] onil onil (by kernel_rfl)
/-! spec.l11Node -/
def Dspec_l11Nodeo1o2_0 (t19 : Bool) (b3_0 b3_1 b3_2 b3_3 : Int) (b4_0 : Bool) (b4_1 b4_2 b4_3 b4_4 : Int) (b4_5 : List Sol) (b5_0 : Bool) (b5_1 b5_2 b5_3 b5_4 : Int) (b5_5 : List Sol) (_b6_0 : Bool) (_b6_1 _b6_2 _b6_3 _b6_4 : Int) : Option Sol :=
  frk t19 ((Dspec_Leaf b4_0).bind fun v2 => some v2) ((Dspec_l8Nodeo1o2 (Pl.mk b3_0 b3_1 b3_2 b3_3) (Sol.mk b4_0 (Pl.mk b4_1 b4_2 b4_3 b4_4) b4_5) (Sol.mk b5_0 (Pl.mk b5_1 b5_2 b5_3 b5_4) b5_5)).bind fun v3 => some v3)
theorem Tspec_l11Nodeo1o2_0 {Y} (t19 : Bool) (b3_0 b3_1 b3_2 b3_3 : Int) (b4_0 : Bool) (b4_1 b4_2 b4_3 b4_4 : Int) (b4_5 : List Sol) (b5_0 : Bool) (b5_1 b5_2 b5_3 b5_4 : Int) (b5_5 : List Sol) (b6_0 : Bool) (b6_1 b6_2 b6_3 b6_4 : Int) (r : Sol) (h : Dspec_l11Nodeo1o2_0 t19 b3_0 b3_1 b3_2 b3_3 b4_0 b4_1 b4_2 b4_3 b4_4 b4_5 b5_0 b5_1 b5_2 b5_3 b5_4 b5_5 b6_0 b6_1 b6_2 b6_3 b6_4 = some r) : Wk Tryz.prog H Y 149 [.code (cp [1, 0, 1] (bodyOf Tryz.f149)), .code (cp [1, 1] (bodyOf Tryz.f149))] (FinX Tryz.prog Tryz.f149 [] (.agg [bl r.inn, i64 r.pl.A, i64 r.pl.B, i64 r.pl.C, i64 r.pl.D, .sl true 6 r.kids.length ((eSol true).f r.kids)]) []) ⟨[(3, .ptr 3 0), (4, .ptr 4 0), (5, .ptr 5 0), (6, .ptr 6 0), (19, bl t19)], [(3, ⟨true, 0, [i64 b3_0, i64 b3_1, i64 b3_2, i64 b3_3]⟩), (4, ⟨true, 0, [bl b4_0, i64 b4_1, i64 b4_2, i64 b4_3, i64 b4_4, .sl true 6 b4_5.length ((eSol true).f b4_5)]⟩), (5, ⟨true, 0, [bl b5_0, i64 b5_1, i64 b5_2, i64 b5_3, i64 b5_4, .sl true 6 b5_5.length ((eSol true).f b5_5)]⟩), (6, ⟨true, 0, [bl b6_0, i64 b6_1, i64 b6_2, i64 b6_3, i64 b6_4, .nil]⟩)]⟩ := by
  unfold Dspec_l11Nodeo1o2_0 at h
  refine x_frk 0 [] onil h (by kernel_rfl) (fun h => ?_) (fun h => ?_)
  · obtain ⟨v2, hv2, h⟩ := bind_some h
    replace h := Option.some.inj h; subst h
    exact x_end 7 [(2, .call [] [] (.agg [bl v2.inn, i64 v2.pl.A, i64 v2.pl.B, i64 v2.pl.C, i64 v2.pl.D, .sl true 6 v2.kids.length ((eSol true).f v2.kids)]) [])] [] (ocons (Tspec_Leaf (Y := Y) b4_0 _ hv2) onil) onil (by kernel_rfl)
  · obtain ⟨v3, hv3, h⟩ := bind_some h
    replace h := Option.some.inj h; subst h
    exact x_end 9 [(3, .call [] [] (.agg [bl v3.inn, i64 v3.pl.A, i64 v3.pl.B, i64 v3.pl.C, i64 v3.pl.D, .sl true 6 v3.kids.length ((eSol true).f v3.kids)]) [])] [] (ocons (Tspec_l8Nodeo1o2 (Y := Y) (Pl.mk b3_0 b3_1 b3_2 b3_3) (Sol.mk b4_0 (Pl.mk b4_1 b4_2 b4_3 b4_4) b4_5) (Sol.mk b5_0 (Pl.mk b5_1 b5_2 b5_3 b5_4) b5_5) _ hv3) onil) onil (by kernel_rfl)
def Dspec_l11Nodeo1o2_1 (b3_0 b3_1 b3_2 b3_3 : Int) (b4_0 : Bool) (b4_1 b4_2 b4_3 b4_4 : Int) (b4_5 : List Sol) (b5_0 : Bool) (b5_1 b5_2 b5_3 b5_4 : Int) (b5_5 : List Sol) (_b6_0 : Bool) (_b6_1 _b6_2 _b6_3 _b6_4 : Int) : Option Sol :=
  (Dspec_l8Nodeo1o2 (Pl.mk b3_0 b3_1 b3_2 b3_3) (Sol.mk b4_0 (Pl.mk b4_1 b4_2 b4_3 b4_4) b4_5) (Sol.mk b5_0 (Pl.mk b5_1 b5_2 b5_3 b5_4) b5_5)).bind fun v4 => some v4
theorem Tspec_l11Nodeo1o2_1 {Y} (b3_0 b3_1 b3_2 b3_3 : Int) (b4_0 : Bool) (b4_1 b4_2 b4_3 b4_4 : Int) (b4_5 : List Sol) (b5_0 : Bool) (b5_1 b5_2 b5_3 b5_4 : Int) (b5_5 : List Sol) (b6_0 : Bool) (b6_1 b6_2 b6_3 b6_4 : Int) (r : Sol) (h : Dspec_l11Nodeo1o2_1 b3_0 b3_1 b3_2 b3_3 b4_0 b4_1 b4_2 b4_3 b4_4 b4_5 b5_0 b5_1 b5_2 b5_3 b5_4 b5_5 b6_0 b6_1 b6_2 b6_3 b6_4 = some r) : Wk Tryz.prog H Y 149 [.code (cp [1, 1, 0] (bodyOf Tryz.f149)), .code (cp [1, 1, 1] (bodyOf Tryz.f149))] (FinX Tryz.prog Tryz.f149 [] (.agg [bl r.inn, i64 r.pl.A, i64 r.pl.B, i64 r.pl.C, i64 r.pl.D, .sl true 6 r.kids.length ((eSol true).f r.kids)]) []) ⟨[(3, .ptr 3 0), (4, .ptr 4 0), (5, .ptr 5 0), (6, .ptr 6 0)], [(3, ⟨true, 0, [i64 b3_0, i64 b3_1, i64 b3_2, i64 b3_3]⟩), (4, ⟨true, 0, [bl b4_0, i64 b4_1, i64 b4_2, i64 b4_3, i64 b4_4, .sl true 6 b4_5.length ((eSol true).f b4_5)]⟩), (5, ⟨true, 0, [bl b5_0, i64 b5_1, i64 b5_2, i64 b5_3, i64 b5_4, .sl true 6 b5_5.length ((eSol true).f b5_5)]⟩), (6, ⟨true, 0, [bl b6_0, i64 b6_1, i64 b6_2, i64 b6_3, i64 b6_4, .nil]⟩)]⟩ := by
  unfold Dspec_l11Nodeo1o2_1 at h
  obtain ⟨v4, hv4, h⟩ := bind_some h
  replace h := Option.some.inj h; subst h
  exact x_end 7 [(3, .call [] [] (.agg [bl v4.inn, i64 v4.pl.A, i64 v4.pl.B, i64 v4.pl.C, i64 v4.pl.D, .sl true 6 v4.kids.length ((eSol true).f v4.kids)]) [])] [] (ocons (Tspec_l8Nodeo1o2 (Y := Y) (Pl.mk b3_0 b3_1 b3_2 b3_3) (Sol.mk b4_0 (Pl.mk b4_1 b4_2 b4_3 b4_4) b4_5) (Sol.mk b5_0 (Pl.mk b5_1 b5_2 b5_3 b5_4) b5_5) _ hv4) onil) onil (by kernel_rfl)
def Dspec_l11Nodeo1o2 (a0 : Pl) (a1 : Sol) (a2 : Sol) : Option Sol :=
  (Dspec_l8Leaf a1).bind fun v0 => frk v0 ((Dspec_l8Leaf a2).bind fun v1 => frk v1 (Dspec_l11Nodeo1o2_0 (a1.inn == a2.inn) a0.A a0.B a0.C a0.D a1.inn a1.pl.A a1.pl.B a1.pl.C a1.pl.D a1.kids a2.inn a2.pl.A a2.pl.B a2.pl.C a2.pl.D a2.kids false 0 0 0 0) (Dspec_l11Nodeo1o2_1 a0.A a0.B a0.C a0.D a1.inn a1.pl.A a1.pl.B a1.pl.C a1.pl.D a1.kids a2.inn a2.pl.A a2.pl.B a2.pl.C a2.pl.D a2.kids false 0 0 0 0)) (Dspec_l11Nodeo1o2_1 a0.A a0.B a0.C a0.D a1.inn a1.pl.A a1.pl.B a1.pl.C a1.pl.D a1.kids a2.inn a2.pl.A a2.pl.B a2.pl.C a2.pl.D a2.kids false 0 0 0 0)
theorem Tspec_l11Nodeo1o2 {Y} (a0 : Pl) (a1 : Sol) (a2 : Sol) (r : Sol) (h : Dspec_l11Nodeo1o2 a0 a1 a2 = some r) : Big Tryz.prog H Y (.call 149 [.agg [i64 a0.A, i64 a0.B, i64 a0.C, i64 a0.D], .agg [bl a1.inn, i64 a1.pl.A, i64 a1.pl.B, i64 a1.pl.C, i64 a1.pl.D, .sl true 6 a1.kids.length ((eSol true).f a1.kids)], .agg [bl a2.inn, i64 a2.pl.A, i64 a2.pl.B, i64 a2.pl.C, i64 a2.pl.D, .sl true 6 a2.kids.length ((eSol true).f a2.kids)]] (lk []) (.agg [bl r.inn, i64 r.pl.A, i64 r.pl.B, i64 r.pl.C, i64 r.pl.D, .sl true 6 r.kids.length ((eSol true).f r.kids)]) (lk [])) := by
  unfold Dspec_l11Nodeo1o2 at h
  refine x_call (fn := Tryz.f149) (c := bodyOf Tryz.f149) (bs0 := []) Tryz.func149 (by kernel_rfl) (by kernel_rfl) ?_
  obtain ⟨v0, hv0, h⟩ := bind_some h
  refine x_frk 13 [(4, .rows [(eSol false).f a1.kids]), (0, .call [] [] (bl v0) [])] (ocons (Enc.share (eSol true) (eSol false) (sSol true) a1.kids) (ocons (Tspec_l8Leaf (Y := Y) a1 _ hv0) onil)) h (by kernel_rfl) (fun h => ?_) (fun h => ?_)
  · obtain ⟨v1, hv1, h⟩ := bind_some h
    refine x_frk 4 [(0, .rows [(eSol false).f a2.kids]), (0, .call [] [] (bl v1) [])] (ocons (Enc.share (eSol true) (eSol false) (sSol true) a2.kids) (ocons (Tspec_l8Leaf (Y := Y) a2 _ hv1) onil)) h (by kernel_rfl) (fun h => ?_) (fun h => ?_)
    · exact x_to 7 [] onil (Tspec_l11Nodeo1o2_0 (a1.inn == a2.inn) a0.A a0.B a0.C a0.D a1.inn a1.pl.A a1.pl.B a1.pl.C a1.pl.D a1.kids a2.inn a2.pl.A a2.pl.B a2.pl.C a2.pl.D a2.kids false 0 0 0 0 r h) (by kernel_rfl)
    · exact x_to 10 [] onil (Tspec_l11Nodeo1o2_1 a0.A a0.B a0.C a0.D a1.inn a1.pl.A a1.pl.B a1.pl.C a1.pl.D a1.kids a2.inn a2.pl.A a2.pl.B a2.pl.C a2.pl.D a2.kids false 0 0 0 0 r h) (by kernel_rfl)
  · exact x_to 14 [] onil (Tspec_l11Nodeo1o2_1 a0.A a0.B a0.C a0.D a1.inn a1.pl.A a1.pl.B a1.pl.C a1.pl.D a1.kids a2.inn a2.pl.A a2.pl.B a2.pl.C a2.pl.D a2.kids false 0 0 0 0 r h) (by kernel_rfl)
/-! spec.l11Take -/
def Dspec_l11Take_2 (_n : Nat) (_self1 : ((Int × Bool) × Bool × Sol × (List Pl)) → Option (Sol × (Int × Bool))) (_b8_0 : Bool) (_b8_1 _b8_2 _b8_3 _b8_4 b1000_0 : Int) (b1000_1 : Bool) : Option (Sol × (Int × Bool)) :=
  (Dspec_Leaf false).bind fun v10 => some (v10, (b1000_0, b1000_1))
theorem Tspec_l11Take_2 {Y} (n : Nat) (self1 : ((Int × Bool) × Bool × Sol × (List Pl)) → Option (Sol × (Int × Bool))) (_hself1 : ∀ (a : ((Int × Bool) × Bool × Sol × (List Pl))) (r : (Sol × (Int × Bool))), self1 a = some r → Big Tryz.prog H Y (.call 148 [.ptr 1000 0, bl a.2.1, .agg [bl a.2.2.1.inn, i64 a.2.2.1.pl.A, i64 a.2.2.1.pl.B, i64 a.2.2.1.pl.C, i64 a.2.2.1.pl.D, .sl false 6 a.2.2.1.kids.length ((eSol false).f a.2.2.1.kids)], .sl false 4 a.2.2.2.length ((ePl).f a.2.2.2)] (lk [(1000, ⟨true, 0, [i64 a.1.1, bl a.1.2]⟩)]) (.agg [bl r.1.inn, i64 r.1.pl.A, i64 r.1.pl.B, i64 r.1.pl.C, i64 r.1.pl.D, .sl true 6 r.1.kids.length ((eSol true).f r.1.kids)]) (lk [(1000, ⟨true, 0, [i64 r.2.1, bl r.2.2]⟩)]))) (b8_0 : Bool) (b8_1 b8_2 b8_3 b8_4 b1000_0 : Int) (b1000_1 : Bool) (r : (Sol × (Int × Bool))) (h : Dspec_l11Take_2 n self1 b8_0 b8_1 b8_2 b8_3 b8_4 b1000_0 b1000_1 = some r) : Wk Tryz.prog H Y 148 [.code (cp [1, 1, 1, 1, 0, 0, 1, 1, 1, 1, 1, 0, 1, 0] (bodyOf Tryz.f148)), .code (cp [1, 1, 1, 1, 0, 0, 1, 1, 1, 1, 1, 0, 1, 1] (bodyOf Tryz.f148)), .blk 0, .code (cp [1, 1, 1, 1, 1] (bodyOf Tryz.f148))] (FinX Tryz.prog Tryz.f148 [(1000, ⟨true, 0, [.bad, .bad]⟩)] (.agg [bl r.1.inn, i64 r.1.pl.A, i64 r.1.pl.B, i64 r.1.pl.C, i64 r.1.pl.D, .sl true 6 r.1.kids.length ((eSol true).f r.1.kids)]) [(1000, ⟨true, 0, [i64 r.2.1, bl r.2.2]⟩)]) ⟨[(8, .ptr 8 0)], [(8, ⟨true, 0, [bl b8_0, i64 b8_1, i64 b8_2, i64 b8_3, i64 b8_4, .nil]⟩), (1000, ⟨true, 0, [i64 b1000_0, bl b1000_1]⟩)]⟩ := by
  unfold Dspec_l11Take_2 at h
  obtain ⟨v10, hv10, h⟩ := bind_some h
  replace h := Option.some.inj h; subst h
  exact x_end 4 [(0, .call [] [] (.agg [bl v10.inn, i64 v10.pl.A, i64 v10.pl.B, i64 v10.pl.C, i64 v10.pl.D, .sl true 6 v10.kids.length ((eSol true).f v10.kids)]) [])] [] (ocons (Tspec_Leaf (Y := Y) false _ hv10) onil) onil (by kernel_rfl)
def Dspec_l11Take_3 (_n : Nat) (self1 : ((Int × Bool) × Bool × Sol × (List Pl)) → Option (Sol × (Int × Bool))) (t1 : Bool) (t3 : List Pl) (t62 _b6_0 : Bool) (b6_1 b6_2 b6_3 b6_4 : Int) (b6_5 : List Sol) (_b8_0 : Bool) (_b8_1 _b8_2 _b8_3 _b8_4 b1000_0 : Int) (b1000_1 : Bool) : Option (Sol × (Int × Bool)) :=
  frk t62 ((Dspec_Leaf false).bind fun v11 => some (v11, (b1000_0, true))) ((lget b6_5 0).bind fun v12 => (Dspec_l8Path t3 (Pl.mk b6_1 b6_2 b6_3 b6_4)).bind fun v13 => (self1 ((b1000_0, b1000_1), t1, v12, v13)).bind fun v14 => (lget b6_5 1).bind fun v15 => (Dspec_l3Flip (Pl.mk b6_1 b6_2 b6_3 b6_4)).bind fun v16 => (Dspec_l8Path t3 v16).bind fun v17 => (self1 (v14.2, t1, v15, v17)).bind fun v18 => (Dspec_l11Nodeo1o2 (Pl.mk b6_1 b6_2 b6_3 b6_4) v14.1 v18.1).bind fun v19 => some (v19, v18.2))
theorem Tspec_l11Take_3 {Y} (n : Nat) (self1 : ((Int × Bool) × Bool × Sol × (List Pl)) → Option (Sol × (Int × Bool))) (hself1 : ∀ (a : ((Int × Bool) × Bool × Sol × (List Pl))) (r : (Sol × (Int × Bool))), self1 a = some r → Big Tryz.prog H Y (.call 148 [.ptr 1000 0, bl a.2.1, .agg [bl a.2.2.1.inn, i64 a.2.2.1.pl.A, i64 a.2.2.1.pl.B, i64 a.2.2.1.pl.C, i64 a.2.2.1.pl.D, .sl false 6 a.2.2.1.kids.length ((eSol false).f a.2.2.1.kids)], .sl false 4 a.2.2.2.length ((ePl).f a.2.2.2)] (lk [(1000, ⟨true, 0, [i64 a.1.1, bl a.1.2]⟩)]) (.agg [bl r.1.inn, i64 r.1.pl.A, i64 r.1.pl.B, i64 r.1.pl.C, i64 r.1.pl.D, .sl true 6 r.1.kids.length ((eSol true).f r.1.kids)]) (lk [(1000, ⟨true, 0, [i64 r.2.1, bl r.2.2]⟩)]))) (t1 : Bool) (t3 : List Pl) (t62 b6_0 : Bool) (b6_1 b6_2 b6_3 b6_4 : Int) (b6_5 : List Sol) (b8_0 : Bool) (b8_1 b8_2 b8_3 b8_4 b1000_0 : Int) (b1000_1 : Bool) (r : (Sol × (Int × Bool))) (h : Dspec_l11Take_3 n self1 t1 t3 t62 b6_0 b6_1 b6_2 b6_3 b6_4 b6_5 b8_0 b8_1 b8_2 b8_3 b8_4 b1000_0 b1000_1 = some r) : Wk Tryz.prog H Y 148 [.code (cp [1, 1, 1, 1, 0, 0, 1, 1, 1, 1, 1] (bodyOf Tryz.f148)), .blk 0, .code (cp [1, 1, 1, 1, 1] (bodyOf Tryz.f148))] (FinX Tryz.prog Tryz.f148 [(1000, ⟨true, 0, [.bad, .bad]⟩)] (.agg [bl r.1.inn, i64 r.1.pl.A, i64 r.1.pl.B, i64 r.1.pl.C, i64 r.1.pl.D, .sl true 6 r.1.kids.length ((eSol true).f r.1.kids)]) [(1000, ⟨true, 0, [i64 r.2.1, bl r.2.2]⟩)]) ⟨[(0, .ptr 1000 0), (1, bl t1), (3, .sl false 4 t3.length ((ePl).f t3)), (6, .ptr 6 0), (8, .ptr 8 0), (62, bl t62)], [(6, ⟨true, 0, [bl b6_0, i64 b6_1, i64 b6_2, i64 b6_3, i64 b6_4, .sl false 6 b6_5.length ((eSol false).f b6_5)]⟩), (8, ⟨true, 0, [bl b8_0, i64 b8_1, i64 b8_2, i64 b8_3, i64 b8_4, .nil]⟩), (1000, ⟨true, 0, [i64 b1000_0, bl b1000_1]⟩)]⟩ := by
  unfold Dspec_l11Take_3 at h
  refine x_frk 0 [] onil h (by kernel_rfl) (fun h => ?_) (fun h => ?_)
  · obtain ⟨v11, hv11, h⟩ := bind_some h
    replace h := Option.some.inj h; subst h
    exact x_end 12 [(4, .call [] [] (.agg [bl v11.inn, i64 v11.pl.A, i64 v11.pl.B, i64 v11.pl.C, i64 v11.pl.D, .sl true 6 v11.kids.length ((eSol true).f v11.kids)]) [])] [] (ocons (Tspec_Leaf (Y := Y) false _ hv11) onil) onil (by kernel_rfl)
  · obtain ⟨v12, hv12, h⟩ := bind_some h
    obtain ⟨v13, hv13, h⟩ := bind_some h
    obtain ⟨v14, hv14, h⟩ := bind_some h
    obtain ⟨v15, hv15, h⟩ := bind_some h
    obtain ⟨v16, hv16, h⟩ := bind_some h
    obtain ⟨v17, hv17, h⟩ := bind_some h
    obtain ⟨v18, hv18, h⟩ := bind_some h
    obtain ⟨v19, hv19, h⟩ := bind_some h
    replace h := Option.some.inj h; subst h
    exact x_end 38 [(4, .val (.cptr ((eSol false).c v12 ++ (eSol false).f ((b6_5).drop (Int.toNat 0 + 1))))), (4, .call [] [] (.sl false 4 v13.length ((ePl).f v13)) []), (0, .call [] [] (.agg [bl v14.1.inn, i64 v14.1.pl.A, i64 v14.1.pl.B, i64 v14.1.pl.C, i64 v14.1.pl.D, .sl true 6 v14.1.kids.length ((eSol true).f v14.1.kids)]) [(1000, ⟨true, 0, [i64 v14.2.1, bl v14.2.2]⟩)]), (9, .val (.cptr ((eSol false).c v15 ++ (eSol false).f ((b6_5).drop (Int.toNat 1 + 1))))), (4, .call [] [] (.agg [i64 v16.A, i64 v16.B, i64 v16.C, i64 v16.D]) []), (0, .call [] [] (.sl false 4 v17.length ((ePl).f v17)) []), (0, .call [] [] (.agg [bl v18.1.inn, i64 v18.1.pl.A, i64 v18.1.pl.B, i64 v18.1.pl.C, i64 v18.1.pl.D, .sl true 6 v18.1.kids.length ((eSol true).f v18.1.kids)]) [(1000, ⟨true, 0, [i64 v18.2.1, bl v18.2.2]⟩)]), (0, .call [] [] (.agg [bl v19.inn, i64 v19.pl.A, i64 v19.pl.B, i64 v19.pl.C, i64 v19.pl.D, .sl true 6 v19.kids.length ((eSol true).f v19.kids)]) [])] [] (ocons (ix (eSol false) hv12) (ocons (shSl (L := v13) ePl ePl sPl (Tspec_l8Path (Y := Y) t3 (Pl.mk b6_1 b6_2 b6_3 b6_4) _ hv13)) (ocons (hself1 ((b1000_0, b1000_1), t1, v12, v13) _ hv14) (ocons (ix (eSol false) hv15) (ocons (Tspec_l3Flip (Y := Y) (Pl.mk b6_1 b6_2 b6_3 b6_4) _ hv16) (ocons (shSl (L := v17) ePl ePl sPl (Tspec_l8Path (Y := Y) t3 v16 _ hv17)) (ocons (hself1 (v14.2, t1, v15, v17) _ hv18) (ocons (Tspec_l11Nodeo1o2 (Y := Y) (Pl.mk b6_1 b6_2 b6_3 b6_4) v14.1 v18.1 _ hv19) onil)))))))) onil (by kernel_rfl)
def Dspec_l11Take_1 (n : Nat) (self1 : ((Int × Bool) × Bool × Sol × (List Pl)) → Option (Sol × (Int × Bool))) (t1 : Bool) (t3 : List Pl) (t48 b6_0 : Bool) (b6_1 b6_2 b6_3 b6_4 : Int) (b6_5 : List Sol) (b8_0 : Bool) (b8_1 b8_2 b8_3 b8_4 b1000_0 : Int) (b1000_1 : Bool) : Option (Sol × (Int × Bool)) :=
  frk t48 ((lget b6_5 1).bind fun v8 => (self1 ((b1000_0, b1000_1), t1, v8, t3)).bind fun v9 => some v9) (frk b1000_1 (Dspec_l11Take_2 n self1 b8_0 b8_1 b8_2 b8_3 b8_4 b1000_0 true) (Dspec_l11Take_3 n self1 t1 t3 ((t3.length : Int) == 24) b6_0 b6_1 b6_2 b6_3 b6_4 b6_5 b8_0 b8_1 b8_2 b8_3 b8_4 b1000_0 b1000_1))
theorem Tspec_l11Take_1 {Y} (n : Nat) (self1 : ((Int × Bool) × Bool × Sol × (List Pl)) → Option (Sol × (Int × Bool))) (hself1 : ∀ (a : ((Int × Bool) × Bool × Sol × (List Pl))) (r : (Sol × (Int × Bool))), self1 a = some r → Big Tryz.prog H Y (.call 148 [.ptr 1000 0, bl a.2.1, .agg [bl a.2.2.1.inn, i64 a.2.2.1.pl.A, i64 a.2.2.1.pl.B, i64 a.2.2.1.pl.C, i64 a.2.2.1.pl.D, .sl false 6 a.2.2.1.kids.length ((eSol false).f a.2.2.1.kids)], .sl false 4 a.2.2.2.length ((ePl).f a.2.2.2)] (lk [(1000, ⟨true, 0, [i64 a.1.1, bl a.1.2]⟩)]) (.agg [bl r.1.inn, i64 r.1.pl.A, i64 r.1.pl.B, i64 r.1.pl.C, i64 r.1.pl.D, .sl true 6 r.1.kids.length ((eSol true).f r.1.kids)]) (lk [(1000, ⟨true, 0, [i64 r.2.1, bl r.2.2]⟩)]))) (t1 : Bool) (t3 : List Pl) (t48 b6_0 : Bool) (b6_1 b6_2 b6_3 b6_4 : Int) (b6_5 : List Sol) (b8_0 : Bool) (b8_1 b8_2 b8_3 b8_4 b1000_0 : Int) (b1000_1 : Bool) (r : (Sol × (Int × Bool))) (h : Dspec_l11Take_1 n self1 t1 t3 t48 b6_0 b6_1 b6_2 b6_3 b6_4 b6_5 b8_0 b8_1 b8_2 b8_3 b8_4 b1000_0 b1000_1 = some r) : Wk Tryz.prog H Y 148 [.code (cp [1, 1, 1, 1, 0, 0, 1, 1, 1] (bodyOf Tryz.f148)), .blk 0, .code (cp [1, 1, 1, 1, 1] (bodyOf Tryz.f148))] (FinX Tryz.prog Tryz.f148 [(1000, ⟨true, 0, [.bad, .bad]⟩)] (.agg [bl r.1.inn, i64 r.1.pl.A, i64 r.1.pl.B, i64 r.1.pl.C, i64 r.1.pl.D, .sl true 6 r.1.kids.length ((eSol true).f r.1.kids)]) [(1000, ⟨true, 0, [i64 r.2.1, bl r.2.2]⟩)]) ⟨[(0, .ptr 1000 0), (1, bl t1), (3, .sl false 4 t3.length ((ePl).f t3)), (6, .ptr 6 0), (8, .ptr 8 0), (48, bl t48)], [(6, ⟨true, 0, [bl b6_0, i64 b6_1, i64 b6_2, i64 b6_3, i64 b6_4, .sl false 6 b6_5.length ((eSol false).f b6_5)]⟩), (8, ⟨true, 0, [bl b8_0, i64 b8_1, i64 b8_2, i64 b8_3, i64 b8_4, .nil]⟩), (1000, ⟨true, 0, [i64 b1000_0, bl b1000_1]⟩)]⟩ := by
  unfold Dspec_l11Take_1 at h
  refine x_frk 0 [] onil h (by kernel_rfl) (fun h => ?_) (fun h => ?_)
  · obtain ⟨v8, hv8, h⟩ := bind_some h
    obtain ⟨v9, hv9, h⟩ := bind_some h
    replace h := Option.some.inj h; subst h
    exact x_end 12 [(4, .val (.cptr ((eSol false).c v8 ++ (eSol false).f ((b6_5).drop (Int.toNat 1 + 1))))), (2, .call [] [] (.agg [bl v9.1.inn, i64 v9.1.pl.A, i64 v9.1.pl.B, i64 v9.1.pl.C, i64 v9.1.pl.D, .sl true 6 v9.1.kids.length ((eSol true).f v9.1.kids)]) [(1000, ⟨true, 0, [i64 v9.2.1, bl v9.2.2]⟩)])] [] (ocons (ix (eSol false) hv8) (ocons (hself1 ((b1000_0, b1000_1), t1, v8, t3) _ hv9) onil)) onil (by kernel_rfl)
  · refine x_frk 7 [] onil h (by kernel_rfl) (fun h => ?_) (fun h => ?_)
    · exact x_to 15 [] onil (Tspec_l11Take_2 n self1 hself1 b8_0 b8_1 b8_2 b8_3 b8_4 b1000_0 true r h) (by kernel_rfl)
    · exact x_to 6 [] onil (Tspec_l11Take_3 n self1 hself1 t1 t3 ((t3.length : Int) == 24) b6_0 b6_1 b6_2 b6_3 b6_4 b6_5 b8_0 b8_1 b8_2 b8_3 b8_4 b1000_0 b1000_1 r h) (by kernel_rfl)
def Dspec_l11Take_4 (n : Nat) (self1 : ((Int × Bool) × Bool × Sol × (List Pl)) → Option (Sol × (Int × Bool))) (t1 : Bool) (t3 : List Pl) (b6_0 : Bool) (b6_1 b6_2 b6_3 b6_4 : Int) (b6_5 : List Sol) (b8_0 : Bool) (b8_1 b8_2 b8_3 b8_4 b1000_0 : Int) (b1000_1 : Bool) : Option (Sol × (Int × Bool)) :=
  frk b1000_1 (Dspec_l11Take_2 n self1 b8_0 b8_1 b8_2 b8_3 b8_4 b1000_0 true) (Dspec_l11Take_3 n self1 t1 t3 ((t3.length : Int) == 24) b6_0 b6_1 b6_2 b6_3 b6_4 b6_5 b8_0 b8_1 b8_2 b8_3 b8_4 b1000_0 b1000_1)
theorem Tspec_l11Take_4 {Y} (n : Nat) (self1 : ((Int × Bool) × Bool × Sol × (List Pl)) → Option (Sol × (Int × Bool))) (hself1 : ∀ (a : ((Int × Bool) × Bool × Sol × (List Pl))) (r : (Sol × (Int × Bool))), self1 a = some r → Big Tryz.prog H Y (.call 148 [.ptr 1000 0, bl a.2.1, .agg [bl a.2.2.1.inn, i64 a.2.2.1.pl.A, i64 a.2.2.1.pl.B, i64 a.2.2.1.pl.C, i64 a.2.2.1.pl.D, .sl false 6 a.2.2.1.kids.length ((eSol false).f a.2.2.1.kids)], .sl false 4 a.2.2.2.length ((ePl).f a.2.2.2)] (lk [(1000, ⟨true, 0, [i64 a.1.1, bl a.1.2]⟩)]) (.agg [bl r.1.inn, i64 r.1.pl.A, i64 r.1.pl.B, i64 r.1.pl.C, i64 r.1.pl.D, .sl true 6 r.1.kids.length ((eSol true).f r.1.kids)]) (lk [(1000, ⟨true, 0, [i64 r.2.1, bl r.2.2]⟩)]))) (t1 : Bool) (t3 : List Pl) (b6_0 : Bool) (b6_1 b6_2 b6_3 b6_4 : Int) (b6_5 : List Sol) (b8_0 : Bool) (b8_1 b8_2 b8_3 b8_4 b1000_0 : Int) (b1000_1 : Bool) (r : (Sol × (Int × Bool))) (h : Dspec_l11Take_4 n self1 t1 t3 b6_0 b6_1 b6_2 b6_3 b6_4 b6_5 b8_0 b8_1 b8_2 b8_3 b8_4 b1000_0 b1000_1 = some r) : Wk Tryz.prog H Y 148 [.code (cp [1, 1, 1, 1, 0, 0, 1, 1, 1, 1, 0] (bodyOf Tryz.f148)), .code (cp [1, 1, 1, 1, 0, 0, 1, 1, 1, 1, 1] (bodyOf Tryz.f148)), .blk 0, .code (cp [1, 1, 1, 1, 1] (bodyOf Tryz.f148))] (FinX Tryz.prog Tryz.f148 [(1000, ⟨true, 0, [.bad, .bad]⟩)] (.agg [bl r.1.inn, i64 r.1.pl.A, i64 r.1.pl.B, i64 r.1.pl.C, i64 r.1.pl.D, .sl true 6 r.1.kids.length ((eSol true).f r.1.kids)]) [(1000, ⟨true, 0, [i64 r.2.1, bl r.2.2]⟩)]) ⟨[(0, .ptr 1000 0), (1, bl t1), (3, .sl false 4 t3.length ((ePl).f t3)), (6, .ptr 6 0), (8, .ptr 8 0)], [(6, ⟨true, 0, [bl b6_0, i64 b6_1, i64 b6_2, i64 b6_3, i64 b6_4, .sl false 6 b6_5.length ((eSol false).f b6_5)]⟩), (8, ⟨true, 0, [bl b8_0, i64 b8_1, i64 b8_2, i64 b8_3, i64 b8_4, .nil]⟩), (1000, ⟨true, 0, [i64 b1000_0, bl b1000_1]⟩)]⟩ := by
  unfold Dspec_l11Take_4 at h
  refine x_frk 6 [] onil h (by kernel_rfl) (fun h => ?_) (fun h => ?_)
  · exact x_to 15 [] onil (Tspec_l11Take_2 n self1 hself1 b8_0 b8_1 b8_2 b8_3 b8_4 b1000_0 true r h) (by kernel_rfl)
  · exact x_to 6 [] onil (Tspec_l11Take_3 n self1 hself1 t1 t3 ((t3.length : Int) == 24) b6_0 b6_1 b6_2 b6_3 b6_4 b6_5 b8_0 b8_1 b8_2 b8_3 b8_4 b1000_0 b1000_1 r h) (by kernel_rfl)
def Dspec_l11Take_0 (n : Nat) (self1 : ((Int × Bool) × Bool × Sol × (List Pl)) → Option (Sol × (Int × Bool))) (t1 : Bool) (t3 : List Pl) (t9 t10 t34 b6_0 : Bool) (b6_1 b6_2 b6_3 b6_4 : Int) (b6_5 : List Sol) (b8_0 : Bool) (b8_1 b8_2 b8_3 b8_4 b1000_0 : Int) (b1000_1 : Bool) : Option (Sol × (Int × Bool)) :=
  frk t34 ((lget b6_5 0).bind fun v6 => (self1 ((b1000_0, b1000_1), t1, v6, t3)).bind fun v7 => some v7) (frk t10 (Dspec_l11Take_1 n self1 t1 t3 (!t9) b6_0 b6_1 b6_2 b6_3 b6_4 b6_5 b8_0 b8_1 b8_2 b8_3 b8_4 b1000_0 b1000_1) (Dspec_l11Take_4 n self1 t1 t3 b6_0 b6_1 b6_2 b6_3 b6_4 b6_5 b8_0 b8_1 b8_2 b8_3 b8_4 b1000_0 b1000_1))
theorem Tspec_l11Take_0 {Y} (n : Nat) (self1 : ((Int × Bool) × Bool × Sol × (List Pl)) → Option (Sol × (Int × Bool))) (hself1 : ∀ (a : ((Int × Bool) × Bool × Sol × (List Pl))) (r : (Sol × (Int × Bool))), self1 a = some r → Big Tryz.prog H Y (.call 148 [.ptr 1000 0, bl a.2.1, .agg [bl a.2.2.1.inn, i64 a.2.2.1.pl.A, i64 a.2.2.1.pl.B, i64 a.2.2.1.pl.C, i64 a.2.2.1.pl.D, .sl false 6 a.2.2.1.kids.length ((eSol false).f a.2.2.1.kids)], .sl false 4 a.2.2.2.length ((ePl).f a.2.2.2)] (lk [(1000, ⟨true, 0, [i64 a.1.1, bl a.1.2]⟩)]) (.agg [bl r.1.inn, i64 r.1.pl.A, i64 r.1.pl.B, i64 r.1.pl.C, i64 r.1.pl.D, .sl true 6 r.1.kids.length ((eSol true).f r.1.kids)]) (lk [(1000, ⟨true, 0, [i64 r.2.1, bl r.2.2]⟩)]))) (t1 : Bool) (t3 : List Pl) (t9 t10 t34 b6_0 : Bool) (b6_1 b6_2 b6_3 b6_4 : Int) (b6_5 : List Sol) (b8_0 : Bool) (b8_1 b8_2 b8_3 b8_4 b1000_0 : Int) (b1000_1 : Bool) (r : (Sol × (Int × Bool))) (h : Dspec_l11Take_0 n self1 t1 t3 t9 t10 t34 b6_0 b6_1 b6_2 b6_3 b6_4 b6_5 b8_0 b8_1 b8_2 b8_3 b8_4 b1000_0 b1000_1 = some r) : Wk Tryz.prog H Y 148 [.code (cp [1, 1, 1, 1, 0, 0, 1] (bodyOf Tryz.f148)), .blk 0, .code (cp [1, 1, 1, 1, 1] (bodyOf Tryz.f148))] (FinX Tryz.prog Tryz.f148 [(1000, ⟨true, 0, [.bad, .bad]⟩)] (.agg [bl r.1.inn, i64 r.1.pl.A, i64 r.1.pl.B, i64 r.1.pl.C, i64 r.1.pl.D, .sl true 6 r.1.kids.length ((eSol true).f r.1.kids)]) [(1000, ⟨true, 0, [i64 r.2.1, bl r.2.2]⟩)]) ⟨[(0, .ptr 1000 0), (1, bl t1), (3, .sl false 4 t3.length ((ePl).f t3)), (6, .ptr 6 0), (8, .ptr 8 0), (9, bl t9), (10, bl t10), (34, bl t34)], [(6, ⟨true, 0, [bl b6_0, i64 b6_1, i64 b6_2, i64 b6_3, i64 b6_4, .sl false 6 b6_5.length ((eSol false).f b6_5)]⟩), (8, ⟨true, 0, [bl b8_0, i64 b8_1, i64 b8_2, i64 b8_3, i64 b8_4, .nil]⟩), (1000, ⟨true, 0, [i64 b1000_0, bl b1000_1]⟩)]⟩ := by
  unfold Dspec_l11Take_0 at h
  refine x_frk 0 [] onil h (by kernel_rfl) (fun h => ?_) (fun h => ?_)
  · obtain ⟨v6, hv6, h⟩ := bind_some h
    obtain ⟨v7, hv7, h⟩ := bind_some h
    replace h := Option.some.inj h; subst h
    exact x_end 12 [(4, .val (.cptr ((eSol false).c v6 ++ (eSol false).f ((b6_5).drop (Int.toNat 0 + 1))))), (2, .call [] [] (.agg [bl v7.1.inn, i64 v7.1.pl.A, i64 v7.1.pl.B, i64 v7.1.pl.C, i64 v7.1.pl.D, .sl true 6 v7.1.kids.length ((eSol true).f v7.1.kids)]) [(1000, ⟨true, 0, [i64 v7.2.1, bl v7.2.2]⟩)])] [] (ocons (ix (eSol false) hv6) (ocons (hself1 ((b1000_0, b1000_1), t1, v6, t3) _ hv7) onil)) onil (by kernel_rfl)
  · refine x_frk 4 [] onil h (by kernel_rfl) (fun h => ?_) (fun h => ?_)
    · exact x_to 5 [] onil (Tspec_l11Take_1 n self1 hself1 t1 t3 (!t9) b6_0 b6_1 b6_2 b6_3 b6_4 b6_5 b8_0 b8_1 b8_2 b8_3 b8_4 b1000_0 b1000_1 r h) (by kernel_rfl)
    · exact x_to 7 [] onil (Tspec_l11Take_4 n self1 hself1 t1 t3 b6_0 b6_1 b6_2 b6_3 b6_4 b6_5 b8_0 b8_1 b8_2 b8_3 b8_4 b1000_0 b1000_1 r h) (by kernel_rfl)
def Dspec_l11Take_5 (n : Nat) (self1 : ((Int × Bool) × Bool × Sol × (List Pl)) → Option (Sol × (Int × Bool))) (t1 : Bool) (t3 : List Pl) (t9 t10 b6_0 : Bool) (b6_1 b6_2 b6_3 b6_4 : Int) (b6_5 : List Sol) (b8_0 : Bool) (b8_1 b8_2 b8_3 b8_4 b1000_0 : Int) (b1000_1 : Bool) : Option (Sol × (Int × Bool)) :=
  frk t10 (Dspec_l11Take_1 n self1 t1 t3 (!t9) b6_0 b6_1 b6_2 b6_3 b6_4 b6_5 b8_0 b8_1 b8_2 b8_3 b8_4 b1000_0 b1000_1) (Dspec_l11Take_4 n self1 t1 t3 b6_0 b6_1 b6_2 b6_3 b6_4 b6_5 b8_0 b8_1 b8_2 b8_3 b8_4 b1000_0 b1000_1)
theorem Tspec_l11Take_5 {Y} (n : Nat) (self1 : ((Int × Bool) × Bool × Sol × (List Pl)) → Option (Sol × (Int × Bool))) (hself1 : ∀ (a : ((Int × Bool) × Bool × Sol × (List Pl))) (r : (Sol × (Int × Bool))), self1 a = some r → Big Tryz.prog H Y (.call 148 [.ptr 1000 0, bl a.2.1, .agg [bl a.2.2.1.inn, i64 a.2.2.1.pl.A, i64 a.2.2.1.pl.B, i64 a.2.2.1.pl.C, i64 a.2.2.1.pl.D, .sl false 6 a.2.2.1.kids.length ((eSol false).f a.2.2.1.kids)], .sl false 4 a.2.2.2.length ((ePl).f a.2.2.2)] (lk [(1000, ⟨true, 0, [i64 a.1.1, bl a.1.2]⟩)]) (.agg [bl r.1.inn, i64 r.1.pl.A, i64 r.1.pl.B, i64 r.1.pl.C, i64 r.1.pl.D, .sl true 6 r.1.kids.length ((eSol true).f r.1.kids)]) (lk [(1000, ⟨true, 0, [i64 r.2.1, bl r.2.2]⟩)]))) (t1 : Bool) (t3 : List Pl) (t9 t10 b6_0 : Bool) (b6_1 b6_2 b6_3 b6_4 : Int) (b6_5 : List Sol) (b8_0 : Bool) (b8_1 b8_2 b8_3 b8_4 b1000_0 : Int) (b1000_1 : Bool) (r : (Sol × (Int × Bool))) (h : Dspec_l11Take_5 n self1 t1 t3 t9 t10 b6_0 b6_1 b6_2 b6_3 b6_4 b6_5 b8_0 b8_1 b8_2 b8_3 b8_4 b1000_0 b1000_1 = some r) : Wk Tryz.prog H Y 148 [.code (cp [1, 1, 1, 1, 0, 0, 1, 1, 0] (bodyOf Tryz.f148)), .code (cp [1, 1, 1, 1, 0, 0, 1, 1, 1] (bodyOf Tryz.f148)), .blk 0, .code (cp [1, 1, 1, 1, 1] (bodyOf Tryz.f148))] (FinX Tryz.prog Tryz.f148 [(1000, ⟨true, 0, [.bad, .bad]⟩)] (.agg [bl r.1.inn, i64 r.1.pl.A, i64 r.1.pl.B, i64 r.1.pl.C, i64 r.1.pl.D, .sl true 6 r.1.kids.length ((eSol true).f r.1.kids)]) [(1000, ⟨true, 0, [i64 r.2.1, bl r.2.2]⟩)]) ⟨[(0, .ptr 1000 0), (1, bl t1), (3, .sl false 4 t3.length ((ePl).f t3)), (6, .ptr 6 0), (8, .ptr 8 0), (9, bl t9), (10, bl t10)], [(6, ⟨true, 0, [bl b6_0, i64 b6_1, i64 b6_2, i64 b6_3, i64 b6_4, .sl false 6 b6_5.length ((eSol false).f b6_5)]⟩), (8, ⟨true, 0, [bl b8_0, i64 b8_1, i64 b8_2, i64 b8_3, i64 b8_4, .nil]⟩), (1000, ⟨true, 0, [i64 b1000_0, bl b1000_1]⟩)]⟩ := by
  unfold Dspec_l11Take_5 at h
  refine x_frk 3 [] onil h (by kernel_rfl) (fun h => ?_) (fun h => ?_)
  · exact x_to 5 [] onil (Tspec_l11Take_1 n self1 hself1 t1 t3 (!t9) b6_0 b6_1 b6_2 b6_3 b6_4 b6_5 b8_0 b8_1 b8_2 b8_3 b8_4 b1000_0 b1000_1 r h) (by kernel_rfl)
  · exact x_to 7 [] onil (Tspec_l11Take_4 n self1 hself1 t1 t3 b6_0 b6_1 b6_2 b6_3 b6_4 b6_5 b8_0 b8_1 b8_2 b8_3 b8_4 b1000_0 b1000_1 r h) (by kernel_rfl)
def Dspec_l11Take_b (n : Nat) (self1 : ((Int × Bool) × Bool × Sol × (List Pl)) → Option (Sol × (Int × Bool))) (a : ((Int × Bool) × Bool × Sol × (List Pl))) : Option (Sol × (Int × Bool)) :=
  match a with
  | (a0, a1, a2, a3) => (Dspec_l8Leaf a2).bind fun v0 => frk v0 ((Dspec_l11In a0.1 a1 a2.inn).bind fun v1 => (Dspec_Leaf v1).bind fun v2 => some (v2, a0)) ((Dspec_l6With n a3 a2.pl).bind fun v3 => (Dspec_l3Flip a2.pl).bind fun v4 => (Dspec_l6With n a3 v4).bind fun v5 => frk (!v3) (Dspec_l11Take_0 n self1 a1 a3 (!v3) (!v5) (!(!v5)) a2.inn a2.pl.A a2.pl.B a2.pl.C a2.pl.D a2.kids false 0 0 0 0 a0.1 a0.2) (Dspec_l11Take_5 n self1 a1 a3 (!v3) (!v5) a2.inn a2.pl.A a2.pl.B a2.pl.C a2.pl.D a2.kids false 0 0 0 0 a0.1 a0.2))
def Dspec_l11Take (n : Nat) (a0 : (Int × Bool)) (a1 : Bool) (a2 : Sol) (a3 : (List Pl)) : Option (Sol × (Int × Bool)) := loopN (Dspec_l11Take_b n) n (a0, a1, a2, a3)
theorem Tspec_l11Take_b {Y} (n : Nat) : ∀ (m : Nat) (a : ((Int × Bool) × Bool × Sol × (List Pl))) (r : (Sol × (Int × Bool))), loopN (Dspec_l11Take_b n) m a = some r → ∀ (_ : Unit), Big Tryz.prog H Y (.call 148 [.ptr 1000 0, bl a.2.1, .agg [bl a.2.2.1.inn, i64 a.2.2.1.pl.A, i64 a.2.2.1.pl.B, i64 a.2.2.1.pl.C, i64 a.2.2.1.pl.D, .sl false 6 a.2.2.1.kids.length ((eSol false).f a.2.2.1.kids)], .sl false 4 a.2.2.2.length ((ePl).f a.2.2.2)] (lk [(1000, ⟨true, 0, [i64 a.1.1, bl a.1.2]⟩)]) (.agg [bl r.1.inn, i64 r.1.pl.A, i64 r.1.pl.B, i64 r.1.pl.C, i64 r.1.pl.D, .sl true 6 r.1.kids.length ((eSol true).f r.1.kids)]) (lk [(1000, ⟨true, 0, [i64 r.2.1, bl r.2.2]⟩)])) := by
  refine loopN_ind (fun self1 hs a r h => ?_)
  have hself1 : ∀ (a : ((Int × Bool) × Bool × Sol × (List Pl))) (r : (Sol × (Int × Bool))), self1 a = some r → Big Tryz.prog H Y (.call 148 [.ptr 1000 0, bl a.2.1, .agg [bl a.2.2.1.inn, i64 a.2.2.1.pl.A, i64 a.2.2.1.pl.B, i64 a.2.2.1.pl.C, i64 a.2.2.1.pl.D, .sl false 6 a.2.2.1.kids.length ((eSol false).f a.2.2.1.kids)], .sl false 4 a.2.2.2.length ((ePl).f a.2.2.2)] (lk [(1000, ⟨true, 0, [i64 a.1.1, bl a.1.2]⟩)]) (.agg [bl r.1.inn, i64 r.1.pl.A, i64 r.1.pl.B, i64 r.1.pl.C, i64 r.1.pl.D, .sl true 6 r.1.kids.length ((eSol true).f r.1.kids)]) (lk [(1000, ⟨true, 0, [i64 r.2.1, bl r.2.2]⟩)])) := fun a r h => hs a r h ()
  intro _
  obtain ⟨a0, a1, a2, a3⟩ := a
  unfold Dspec_l11Take_b at h
  refine x_call (fn := Tryz.f148) (c := bodyOf Tryz.f148) (bs0 := [(1000, ⟨true, 0, [.bad, .bad]⟩)]) Tryz.func148 (by kernel_rfl) (by kernel_rfl) ?_
  obtain ⟨v0, hv0, h⟩ := bind_some h
  refine x_frk 11 [(3, .call [] [] (bl v0) [])] (ocons (Tspec_l8Leaf (Y := Y) a2 _ hv0) onil) h (by kernel_rfl) (fun h => ?_) (fun h => ?_)
  · obtain ⟨v1, hv1, h⟩ := bind_some h
    obtain ⟨v2, hv2, h⟩ := bind_some h
    replace h := Option.some.inj h; subst h
    exact x_end 13 [(7, .call [] [] (bl v1) []), (0, .call [] [] (.agg [bl v2.inn, i64 v2.pl.A, i64 v2.pl.B, i64 v2.pl.C, i64 v2.pl.D, .sl true 6 v2.kids.length ((eSol true).f v2.kids)]) [])] [] (ocons (Tspec_l11In (Y := Y) a0.1 a1 a2.inn _ hv1) (ocons (Tspec_Leaf (Y := Y) v1 _ hv2) onil)) onil (by kernel_rfl)
  · obtain ⟨v3, hv3, h⟩ := bind_some h
    obtain ⟨v4, hv4, h⟩ := bind_some h
    obtain ⟨v5, hv5, h⟩ := bind_some h
    refine x_frk 26 [(3, .call [] [] (bl v3) []), (5, .call [] [] (.agg [i64 v4.A, i64 v4.B, i64 v4.C, i64 v4.D]) []), (0, .call [] [] (bl v5) [])] (ocons (Tspec_l6With (Y := Y) n a3 a2.pl _ hv3) (ocons (Tspec_l3Flip (Y := Y) a2.pl _ hv4) (ocons (Tspec_l6With (Y := Y) n a3 v4 _ hv5) onil))) h (by kernel_rfl) (fun h => ?_) (fun h => ?_)
    · exact x_to 5 [] onil (Tspec_l11Take_0 n self1 hself1 a1 a3 (!v3) (!v5) (!(!v5)) a2.inn a2.pl.A a2.pl.B a2.pl.C a2.pl.D a2.kids false 0 0 0 0 a0.1 a0.2 r h) (by kernel_rfl)
    · exact x_to 7 [] onil (Tspec_l11Take_5 n self1 hself1 a1 a3 (!v3) (!v5) a2.inn a2.pl.A a2.pl.B a2.pl.C a2.pl.D a2.kids false 0 0 0 0 a0.1 a0.2 r h) (by kernel_rfl)
theorem Tspec_l11Take {Y} (n : Nat) (a0 : (Int × Bool)) (a1 : Bool) (a2 : Sol) (a3 : (List Pl)) (r : (Sol × (Int × Bool))) (h : Dspec_l11Take n a0 a1 a2 a3 = some r) : Big Tryz.prog H Y (.call 148 [.ptr 1000 0, bl a1, .agg [bl a2.inn, i64 a2.pl.A, i64 a2.pl.B, i64 a2.pl.C, i64 a2.pl.D, .sl false 6 a2.kids.length ((eSol false).f a2.kids)], .sl false 4 a3.length ((ePl).f a3)] (lk [(1000, ⟨true, 0, [i64 a0.1, bl a0.2]⟩)]) (.agg [bl r.1.inn, i64 r.1.pl.A, i64 r.1.pl.B, i64 r.1.pl.C, i64 r.1.pl.D, .sl true 6 r.1.kids.length ((eSol true).f r.1.kids)]) (lk [(1000, ⟨true, 0, [i64 r.2.1, bl r.2.2]⟩)])) := Tspec_l11Take_b n n (a0, a1, a2, a3) r h ()
/-! spec.l11Both -/
def Dspec_l11Both_b (n : Nat) (self : ((Int × Bool) × Sol × Sol × (List Pl)) → Option (Sol × (Int × Bool))) (a : ((Int × Bool) × Sol × Sol × (List Pl))) : Option (Sol × (Int × Bool)) :=
  match a with
  | (a0, a1, a2, a3) => (Dspec_l8Leaf a1).bind fun v0 => frk v0 ((Dspec_l11Take n a0 a1.inn a2 a3).bind fun v1 => some v1) ((lget a1.kids 0).bind fun v2 => (Dspec_l8Path a3 a1.pl).bind fun v3 => (self (a0, v2, a2, v3)).bind fun v4 => (lget a1.kids 1).bind fun v5 => (Dspec_l3Flip a1.pl).bind fun v6 => (Dspec_l8Path a3 v6).bind fun v7 => (self (v4.2, v5, a2, v7)).bind fun v8 => (Dspec_l11Nodeo1o2 a1.pl v4.1 v8.1).bind fun v9 => some (v9, v8.2))
def Dspec_l11Both (n : Nat) (a0 : (Int × Bool)) (a1 : Sol) (a2 : Sol) (a3 : (List Pl)) : Option (Sol × (Int × Bool)) := loopN (Dspec_l11Both_b n) n (a0, a1, a2, a3)
theorem Tspec_l11Both_b {Y} (n : Nat) : ∀ (m : Nat) (a : ((Int × Bool) × Sol × Sol × (List Pl))) (r : (Sol × (Int × Bool))), loopN (Dspec_l11Both_b n) m a = some r → ∀ (_ : Unit), Big Tryz.prog H Y (.call 88 [.ptr 1000 0, .agg [bl a.2.1.inn, i64 a.2.1.pl.A, i64 a.2.1.pl.B, i64 a.2.1.pl.C, i64 a.2.1.pl.D, .sl false 6 a.2.1.kids.length ((eSol false).f a.2.1.kids)], .agg [bl a.2.2.1.inn, i64 a.2.2.1.pl.A, i64 a.2.2.1.pl.B, i64 a.2.2.1.pl.C, i64 a.2.2.1.pl.D, .sl false 6 a.2.2.1.kids.length ((eSol false).f a.2.2.1.kids)], .sl false 4 a.2.2.2.length ((ePl).f a.2.2.2)] (lk [(1000, ⟨true, 0, [i64 a.1.1, bl a.1.2]⟩)]) (.agg [bl r.1.inn, i64 r.1.pl.A, i64 r.1.pl.B, i64 r.1.pl.C, i64 r.1.pl.D, .sl true 6 r.1.kids.length ((eSol true).f r.1.kids)]) (lk [(1000, ⟨true, 0, [i64 r.2.1, bl r.2.2]⟩)])) := by
  refine loopN_ind (fun self hs a r h => ?_)
  have hself : ∀ (a : ((Int × Bool) × Sol × Sol × (List Pl))) (r : (Sol × (Int × Bool))), self a = some r → Big Tryz.prog H Y (.call 88 [.ptr 1000 0, .agg [bl a.2.1.inn, i64 a.2.1.pl.A, i64 a.2.1.pl.B, i64 a.2.1.pl.C, i64 a.2.1.pl.D, .sl false 6 a.2.1.kids.length ((eSol false).f a.2.1.kids)], .agg [bl a.2.2.1.inn, i64 a.2.2.1.pl.A, i64 a.2.2.1.pl.B, i64 a.2.2.1.pl.C, i64 a.2.2.1.pl.D, .sl false 6 a.2.2.1.kids.length ((eSol false).f a.2.2.1.kids)], .sl false 4 a.2.2.2.length ((ePl).f a.2.2.2)] (lk [(1000, ⟨true, 0, [i64 a.1.1, bl a.1.2]⟩)]) (.agg [bl r.1.inn, i64 r.1.pl.A, i64 r.1.pl.B, i64 r.1.pl.C, i64 r.1.pl.D, .sl true 6 r.1.kids.length ((eSol true).f r.1.kids)]) (lk [(1000, ⟨true, 0, [i64 r.2.1, bl r.2.2]⟩)])) := fun a r h => hs a r h ()
  intro _
  obtain ⟨a0, a1, a2, a3⟩ := a
  unfold Dspec_l11Both_b at h
  refine x_call (fn := Tryz.f88) (c := bodyOf Tryz.f88) (bs0 := [(1000, ⟨true, 0, [.bad, .bad]⟩)]) Tryz.func88 (by kernel_rfl) (by kernel_rfl) ?_
  obtain ⟨v0, hv0, h⟩ := bind_some h
  refine x_frk 12 [(4, .call [] [] (bl v0) [])] (ocons (Tspec_l8Leaf (Y := Y) a1 _ hv0) onil) h (by kernel_rfl) (fun h => ?_) (fun h => ?_)
  · obtain ⟨v1, hv1, h⟩ := bind_some h
    replace h := Option.some.inj h; subst h
    exact x_end 10 [(5, .call [] [] (.agg [bl v1.1.inn, i64 v1.1.pl.A, i64 v1.1.pl.B, i64 v1.1.pl.C, i64 v1.1.pl.D, .sl true 6 v1.1.kids.length ((eSol true).f v1.1.kids)]) [(1000, ⟨true, 0, [i64 v1.2.1, bl v1.2.2]⟩)])] [] (ocons (Tspec_l11Take (Y := Y) n a0 a1.inn a2 a3 _ hv1) onil) onil (by kernel_rfl)
  · obtain ⟨v2, hv2, h⟩ := bind_some h
    obtain ⟨v3, hv3, h⟩ := bind_some h
    obtain ⟨v4, hv4, h⟩ := bind_some h
    obtain ⟨v5, hv5, h⟩ := bind_some h
    obtain ⟨v6, hv6, h⟩ := bind_some h
    obtain ⟨v7, hv7, h⟩ := bind_some h
    obtain ⟨v8, hv8, h⟩ := bind_some h
    obtain ⟨v9, hv9, h⟩ := bind_some h
    replace h := Option.some.inj h; subst h
    exact x_end 37 [(3, .val (.cptr ((eSol false).c v2 ++ (eSol false).f ((a1.kids).drop (Int.toNat 0 + 1))))), (5, .call [] [] (.sl false 4 v3.length ((ePl).f v3)) []), (0, .call [] [] (.agg [bl v4.1.inn, i64 v4.1.pl.A, i64 v4.1.pl.B, i64 v4.1.pl.C, i64 v4.1.pl.D, .sl true 6 v4.1.kids.length ((eSol true).f v4.1.kids)]) [(1000, ⟨true, 0, [i64 v4.2.1, bl v4.2.2]⟩)]), (8, .val (.cptr ((eSol false).c v5 ++ (eSol false).f ((a1.kids).drop (Int.toNat 1 + 1))))), (5, .call [] [] (.agg [i64 v6.A, i64 v6.B, i64 v6.C, i64 v6.D]) []), (0, .call [] [] (.sl false 4 v7.length ((ePl).f v7)) []), (0, .call [] [] (.agg [bl v8.1.inn, i64 v8.1.pl.A, i64 v8.1.pl.B, i64 v8.1.pl.C, i64 v8.1.pl.D, .sl true 6 v8.1.kids.length ((eSol true).f v8.1.kids)]) [(1000, ⟨true, 0, [i64 v8.2.1, bl v8.2.2]⟩)]), (0, .call [] [] (.agg [bl v9.inn, i64 v9.pl.A, i64 v9.pl.B, i64 v9.pl.C, i64 v9.pl.D, .sl true 6 v9.kids.length ((eSol true).f v9.kids)]) [])] [] (ocons (ix (eSol false) hv2) (ocons (shSl (L := v3) ePl ePl sPl (Tspec_l8Path (Y := Y) a3 a1.pl _ hv3)) (ocons (hself (a0, v2, a2, v3) _ hv4) (ocons (ix (eSol false) hv5) (ocons (Tspec_l3Flip (Y := Y) a1.pl _ hv6) (ocons (shSl (L := v7) ePl ePl sPl (Tspec_l8Path (Y := Y) a3 v6 _ hv7)) (ocons (hself (v4.2, v5, a2, v7) _ hv8) (ocons (Tspec_l11Nodeo1o2 (Y := Y) a1.pl v4.1 v8.1 _ hv9) onil)))))))) onil (by kernel_rfl)
theorem Tspec_l11Both {Y} (n : Nat) (a0 : (Int × Bool)) (a1 : Sol) (a2 : Sol) (a3 : (List Pl)) (r : (Sol × (Int × Bool))) (h : Dspec_l11Both n a0 a1 a2 a3 = some r) : Big Tryz.prog H Y (.call 88 [.ptr 1000 0, .agg [bl a1.inn, i64 a1.pl.A, i64 a1.pl.B, i64 a1.pl.C, i64 a1.pl.D, .sl false 6 a1.kids.length ((eSol false).f a1.kids)], .agg [bl a2.inn, i64 a2.pl.A, i64 a2.pl.B, i64 a2.pl.C, i64 a2.pl.D, .sl false 6 a2.kids.length ((eSol false).f a2.kids)], .sl false 4 a3.length ((ePl).f a3)] (lk [(1000, ⟨true, 0, [i64 a0.1, bl a0.2]⟩)]) (.agg [bl r.1.inn, i64 r.1.pl.A, i64 r.1.pl.B, i64 r.1.pl.C, i64 r.1.pl.D, .sl true 6 r.1.kids.length ((eSol true).f r.1.kids)]) (lk [(1000, ⟨true, 0, [i64 r.2.1, bl r.2.2]⟩)])) := Tspec_l11Both_b n n (a0, a1, a2, a3) r h ()
/-! spec.Put -/
def Dspec_Put_0 (_n : Nat) (_b6_0 : Bool) (_b6_1 _b6_2 _b6_3 _b6_4 : Int) : Option (Sol × Bool) :=
  (Dspec_Leaf false).bind fun v1 => some (v1, false)
theorem Tspec_Put_0 {Y} (n : Nat) (b6_0 : Bool) (b6_1 b6_2 b6_3 b6_4 : Int) (r : (Sol × Bool)) (h : Dspec_Put_0 n b6_0 b6_1 b6_2 b6_3 b6_4 = some r) : Wk Tryz.prog H Y 23 [.code (cp [1, 0, 1, 0, 0] (bodyOf Tryz.f23)), .code (cp [1, 0, 1, 0, 1] (bodyOf Tryz.f23)), .code (cp [1, 1] (bodyOf Tryz.f23))] (FinX Tryz.prog Tryz.f23 [] (.tup [.agg [bl r.1.inn, i64 r.1.pl.A, i64 r.1.pl.B, i64 r.1.pl.C, i64 r.1.pl.D, .sl true 6 r.1.kids.length ((eSol true).f r.1.kids)], bl r.2]) []) ⟨[(6, .ptr 6 0)], [(6, ⟨true, 0, [bl b6_0, i64 b6_1, i64 b6_2, i64 b6_3, i64 b6_4, .nil]⟩)]⟩ := by
  unfold Dspec_Put_0 at h
  obtain ⟨v1, hv1, h⟩ := bind_some h
  replace h := Option.some.inj h; subst h
  exact x_end 5 [(0, .call [] [] (.agg [bl v1.inn, i64 v1.pl.A, i64 v1.pl.B, i64 v1.pl.C, i64 v1.pl.D, .sl true 6 v1.kids.length ((eSol true).f v1.kids)]) [])] [] (ocons (Tspec_Leaf (Y := Y) false _ hv1) onil) onil (by kernel_rfl)
def Dspec_Put_2 (_n : Nat) (_b6_0 : Bool) (_b6_1 _b6_2 _b6_3 _b6_4 : Int) : Option (Sol × Bool) :=
  (Dspec_Leaf false).bind fun v6 => some (v6, false)
theorem Tspec_Put_2 {Y} (n : Nat) (b6_0 : Bool) (b6_1 b6_2 b6_3 b6_4 : Int) (r : (Sol × Bool)) (h : Dspec_Put_2 n b6_0 b6_1 b6_2 b6_3 b6_4 = some r) : Wk Tryz.prog H Y 23 [.code (cp [1, 1, 1, 1, 0, 1, 0, 0] (bodyOf Tryz.f23)), .code (cp [1, 1, 1, 1, 0, 1, 0, 1] (bodyOf Tryz.f23)), .code (cp [1, 1, 1, 1, 1] (bodyOf Tryz.f23))] (FinX Tryz.prog Tryz.f23 [] (.tup [.agg [bl r.1.inn, i64 r.1.pl.A, i64 r.1.pl.B, i64 r.1.pl.C, i64 r.1.pl.D, .sl true 6 r.1.kids.length ((eSol true).f r.1.kids)], bl r.2]) []) ⟨[(6, .ptr 6 0)], [(6, ⟨true, 0, [bl b6_0, i64 b6_1, i64 b6_2, i64 b6_3, i64 b6_4, .nil]⟩)]⟩ := by
  unfold Dspec_Put_2 at h
  obtain ⟨v6, hv6, h⟩ := bind_some h
  replace h := Option.some.inj h; subst h
  exact x_end 5 [(0, .call [] [] (.agg [bl v6.inn, i64 v6.pl.A, i64 v6.pl.B, i64 v6.pl.C, i64 v6.pl.D, .sl true 6 v6.kids.length ((eSol true).f v6.kids)]) [])] [] (ocons (Tspec_Leaf (Y := Y) false _ hv6) onil) onil (by kernel_rfl)
def Dspec_Put_3 (_n : Nat) (t40 _b6_0 : Bool) (_b6_1 _b6_2 _b6_3 _b6_4 : Int) (b9_0 : Bool) (b9_1 b9_2 b9_3 b9_4 : Int) (b9_5 : List Sol) : Option (Sol × Bool) :=
  frk t40 ((Dspec_Leaf false).bind fun v8 => some (v8, false)) (some ((Sol.mk b9_0 (Pl.mk b9_1 b9_2 b9_3 b9_4) b9_5), true))
theorem Tspec_Put_3 {Y} (n : Nat) (t40 b6_0 : Bool) (b6_1 b6_2 b6_3 b6_4 : Int) (b9_0 : Bool) (b9_1 b9_2 b9_3 b9_4 : Int) (b9_5 : List Sol) (r : (Sol × Bool)) (h : Dspec_Put_3 n t40 b6_0 b6_1 b6_2 b6_3 b6_4 b9_0 b9_1 b9_2 b9_3 b9_4 b9_5 = some r) : Wk Tryz.prog H Y 23 [.code (cp [1, 1, 1, 1, 0, 1] (bodyOf Tryz.f23)), .code (cp [1, 1, 1, 1, 1] (bodyOf Tryz.f23))] (FinX Tryz.prog Tryz.f23 [] (.tup [.agg [bl r.1.inn, i64 r.1.pl.A, i64 r.1.pl.B, i64 r.1.pl.C, i64 r.1.pl.D, .sl true 6 r.1.kids.length ((eSol true).f r.1.kids)], bl r.2]) []) ⟨[(6, .ptr 6 0), (9, .ptr 9 0), (40, bl t40)], [(6, ⟨true, 0, [bl b6_0, i64 b6_1, i64 b6_2, i64 b6_3, i64 b6_4, .nil]⟩), (9, ⟨true, 0, [bl b9_0, i64 b9_1, i64 b9_2, i64 b9_3, i64 b9_4, .sl true 6 b9_5.length ((eSol true).f b9_5)]⟩)]⟩ := by
  unfold Dspec_Put_3 at h
  refine x_frk 0 [] onil h (by kernel_rfl) (fun h => ?_) (fun h => ?_)
  · obtain ⟨v8, hv8, h⟩ := bind_some h
    replace h := Option.some.inj h; subst h
    exact x_end 6 [(0, .call [] [] (.agg [bl v8.inn, i64 v8.pl.A, i64 v8.pl.B, i64 v8.pl.C, i64 v8.pl.D, .sl true 6 v8.kids.length ((eSol true).f v8.kids)]) [])] [] (ocons (Tspec_Leaf (Y := Y) false _ hv8) onil) onil (by kernel_rfl)
  · replace h := Option.some.inj h; subst h
    exact x_end 7 [] [] onil onil (by kernel_rfl)
def Dspec_Put_1 (n : Nat) (t2 : Int) (t22 b3_0 : Bool) (b3_1 b3_2 b3_3 b3_4 : Int) (b3_5 : List Sol) (b4_0 : Bool) (b4_1 b4_2 b4_3 b4_4 : Int) (b4_5 : List Sol) (b6_0 : Bool) (b6_1 b6_2 b6_3 b6_4 : Int) : Option (Sol × Bool) :=
  frk t22 ((Dspec_Leaf false).bind fun v4 => some (v4, false)) ((Dspec_l11Both n (t2, false) (Sol.mk b3_0 (Pl.mk b3_1 b3_2 b3_3 b3_4) b3_5) (Sol.mk b4_0 (Pl.mk b4_1 b4_2 b4_3 b4_4) b4_5) []).bind fun v5 => frk v5.2.2 (Dspec_Put_2 n b6_0 b6_1 b6_2 b6_3 b6_4) ((Dspec_l8Count n v5.1 301).bind fun v7 => Dspec_Put_3 n (decide (v7 > 300)) b6_0 b6_1 b6_2 b6_3 b6_4 v5.1.inn v5.1.pl.A v5.1.pl.B v5.1.pl.C v5.1.pl.D v5.1.kids))
theorem Tspec_Put_1 {Y} (n : Nat) (t2 : Int) (t22 b3_0 : Bool) (b3_1 b3_2 b3_3 b3_4 : Int) (b3_5 : List Sol) (b4_0 : Bool) (b4_1 b4_2 b4_3 b4_4 : Int) (b4_5 : List Sol) (b6_0 : Bool) (b6_1 b6_2 b6_3 b6_4 : Int) (r : (Sol × Bool)) (h : Dspec_Put_1 n t2 t22 b3_0 b3_1 b3_2 b3_3 b3_4 b3_5 b4_0 b4_1 b4_2 b4_3 b4_4 b4_5 b6_0 b6_1 b6_2 b6_3 b6_4 = some r) : Wk Tryz.prog H Y 23 [.code (cp [1, 0, 1] (bodyOf Tryz.f23)), .code (cp [1, 1] (bodyOf Tryz.f23))] (FinX Tryz.prog Tryz.f23 [] (.tup [.agg [bl r.1.inn, i64 r.1.pl.A, i64 r.1.pl.B, i64 r.1.pl.C, i64 r.1.pl.D, .sl true 6 r.1.kids.length ((eSol true).f r.1.kids)], bl r.2]) []) ⟨[(2, i64 t2), (3, .ptr 3 0), (4, .ptr 4 0), (6, .ptr 6 0), (22, bl t22)], [(3, ⟨true, 0, [bl b3_0, i64 b3_1, i64 b3_2, i64 b3_3, i64 b3_4, .sl false 6 b3_5.length ((eSol false).f b3_5)]⟩), (4, ⟨true, 0, [bl b4_0, i64 b4_1, i64 b4_2, i64 b4_3, i64 b4_4, .sl false 6 b4_5.length ((eSol false).f b4_5)]⟩), (6, ⟨true, 0, [bl b6_0, i64 b6_1, i64 b6_2, i64 b6_3, i64 b6_4, .nil]⟩)]⟩ := by
  unfold Dspec_Put_1 at h
  refine x_frk 0 [] onil h (by kernel_rfl) (fun h => ?_) (fun h => ?_)
  · obtain ⟨v4, hv4, h⟩ := bind_some h
    replace h := Option.some.inj h; subst h
    exact x_end 6 [(0, .call [] [] (.agg [bl v4.inn, i64 v4.pl.A, i64 v4.pl.B, i64 v4.pl.C, i64 v4.pl.D, .sl true 6 v4.kids.length ((eSol true).f v4.kids)]) [])] [] (ocons (Tspec_Leaf (Y := Y) false _ hv4) onil) onil (by kernel_rfl)
  · obtain ⟨v5, hv5, h⟩ := bind_some h
    refine x_frk 26 [(8, .call [] [(ePl).f []] (.agg [bl v5.1.inn, i64 v5.1.pl.A, i64 v5.1.pl.B, i64 v5.1.pl.C, i64 v5.1.pl.D, .sl true 6 v5.1.kids.length ((eSol true).f v5.1.kids)]) [(1000, ⟨true, 0, [i64 v5.2.1, bl v5.2.2]⟩)])] (ocons (Tspec_l11Both (Y := Y) n (t2, false) (Sol.mk b3_0 (Pl.mk b3_1 b3_2 b3_3 b3_4) b3_5) (Sol.mk b4_0 (Pl.mk b4_1 b4_2 b4_3 b4_4) b4_5) [] _ hv5) (ocons (len_row (L := []) ePl) (ocons (Enc.share ePl ePl sPl []) (ocons (show hasSh (.agg [bl v5.1.inn, i64 v5.1.pl.A, i64 v5.1.pl.B, i64 v5.1.pl.C, i64 v5.1.pl.D, .sl true 6 v5.1.kids.length ((eSol true).f v5.1.kids)]) = false by simp [hasSh, hasShL, nSh, nShI, nShB, nShP, nShT, nShN, nShPs]) onil)))) h (by kernel_rfl) (fun h => ?_) (fun h => ?_)
    · exact x_to 7 [] onil (Tspec_Put_2 n b6_0 b6_1 b6_2 b6_3 b6_4 r h) (by kernel_rfl)
    · obtain ⟨v7, hv7, h⟩ := bind_some h
      exact x_to 5 [(0, .rows [(eSol false).f v5.1.kids]), (0, .call [] [] (i64 v7) [])] (ocons (Enc.share (eSol true) (eSol false) (sSol true) v5.1.kids) (ocons (Tspec_l8Count (Y := Y) n v5.1 301 _ hv7) onil)) (Tspec_Put_3 n (decide (v7 > 300)) b6_0 b6_1 b6_2 b6_3 b6_4 v5.1.inn v5.1.pl.A v5.1.pl.B v5.1.pl.C v5.1.pl.D v5.1.kids r h) (by kernel_rfl)
def Dspec_Put (n : Nat) (a0 : Sol) (a1 : Sol) (a2 : Int) : Option (Sol × Bool) :=
  (Dspec_SolidOk n a0).bind fun v0 => frk (!v0) (Dspec_Put_0 n false 0 0 0 0) ((Dspec_SolidOk n a1).bind fun v2 => frk (!v2) (Dspec_Put_0 n false 0 0 0 0) ((Dspec_l1In a2 1 4).bind fun v3 => Dspec_Put_1 n a2 (!v3) a0.inn a0.pl.A a0.pl.B a0.pl.C a0.pl.D a0.kids a1.inn a1.pl.A a1.pl.B a1.pl.C a1.pl.D a1.kids false 0 0 0 0))
theorem Tspec_Put {Y} (n : Nat) (a0 : Sol) (a1 : Sol) (a2 : Int) (r : (Sol × Bool)) (h : Dspec_Put n a0 a1 a2 = some r) : Big Tryz.prog H Y (.call 23 [.agg [bl a0.inn, i64 a0.pl.A, i64 a0.pl.B, i64 a0.pl.C, i64 a0.pl.D, .sl false 6 a0.kids.length ((eSol false).f a0.kids)], .agg [bl a1.inn, i64 a1.pl.A, i64 a1.pl.B, i64 a1.pl.C, i64 a1.pl.D, .sl false 6 a1.kids.length ((eSol false).f a1.kids)], i64 a2] (lk []) (.tup [.agg [bl r.1.inn, i64 r.1.pl.A, i64 r.1.pl.B, i64 r.1.pl.C, i64 r.1.pl.D, .sl true 6 r.1.kids.length ((eSol true).f r.1.kids)], bl r.2]) (lk [])) := by
  unfold Dspec_Put at h
  refine x_call (fn := Tryz.f23) (c := bodyOf Tryz.f23) (bs0 := []) Tryz.func23 (by kernel_rfl) (by kernel_rfl) ?_
  obtain ⟨v0, hv0, h⟩ := bind_some h
  refine x_frk 14 [(5, .call [] [] (bl v0) [])] (ocons (Tspec_SolidOk (Y := Y) n a0 _ hv0) onil) h (by kernel_rfl) (fun h => ?_) (fun h => ?_)
  · exact x_to 12 [] onil (Tspec_Put_0 n false 0 0 0 0 r h) (by kernel_rfl)
  · obtain ⟨v2, hv2, h⟩ := bind_some h
    refine x_frk 5 [(1, .call [] [] (bl v2) [])] (ocons (Tspec_SolidOk (Y := Y) n a1 _ hv2) onil) h (by kernel_rfl) (fun h => ?_) (fun h => ?_)
    · exact x_to 7 [] onil (Tspec_Put_0 n false 0 0 0 0 r h) (by kernel_rfl)
    · obtain ⟨v3, hv3, h⟩ := bind_some h
      exact x_to 5 [(1, .call [] [] (bl v3) [])] (ocons (Tspec_l1In (Y := Y) a2 1 4 _ hv3) onil) (Tspec_Put_1 n a2 (!v3) a0.inn a0.pl.A a0.pl.B a0.pl.C a0.pl.D a0.kids a1.inn a1.pl.A a1.pl.B a1.pl.C a1.pl.D a1.kids false 0 0 0 0 r h) (by kernel_rfl)
/-! spec.Shell -/
def Dspec_Shell_0 (n : Nat) (_b4_0 : Bool) (_b4_1 _b4_2 _b4_3 _b4_4 : Int) (b6_0 : Bool) (b6_1 b6_2 b6_3 b6_4 : Int) (b6_5 : List Sol) (l28 : List Pl) : Option (Sol × Int) :=
  (Dspec_Convex n l28).bind fun v6 => (Dspec_Put n (Sol.mk b6_0 (Pl.mk b6_1 b6_2 b6_3 b6_4) b6_5) v6.1 3).bind fun v7 => frk (!v7.2) (some ((Sol.mk false (Pl.mk 0 0 0 0) []), 3)) (some (v7.1, 0))
theorem Tspec_Shell_0 {Y} (n : Nat) (b4_0 : Bool) (b4_1 b4_2 b4_3 b4_4 : Int) (b6_0 : Bool) (b6_1 b6_2 b6_3 b6_4 : Int) (b6_5 : List Sol) (l28 : List Pl) (r : (Sol × Int)) (h : Dspec_Shell_0 n b4_0 b4_1 b4_2 b4_3 b4_4 b6_0 b6_1 b6_2 b6_3 b6_4 b6_5 l28 = some r) : Wk Tryz.prog H Y 44 [.code (cp [1, 1, 1, 1, 1, 1, 0] (bodyOf Tryz.f44)), .code (cp [1, 1, 1, 1, 1, 1, 1] (bodyOf Tryz.f44))] (FinX Tryz.prog Tryz.f44 [] (.tup [.agg [bl r.1.inn, i64 r.1.pl.A, i64 r.1.pl.B, i64 r.1.pl.C, i64 r.1.pl.D, .sl true 6 r.1.kids.length ((eSol true).f r.1.kids)], i64 r.2]) []) ⟨[(4, .ptr 4 0), (6, .ptr 6 0), (8, .msl 28 l28.length)], [(4, ⟨true, 0, [bl b4_0, i64 b4_1, i64 b4_2, i64 b4_3, i64 b4_4, .nil]⟩), (6, ⟨true, 0, [bl b6_0, i64 b6_1, i64 b6_2, i64 b6_3, i64 b6_4, .sl true 6 b6_5.length ((eSol true).f b6_5)]⟩), (28, ⟨true, 4, (ePl).f l28⟩)]⟩ := by
  unfold Dspec_Shell_0 at h
  obtain ⟨v6, hv6, h⟩ := bind_some h
  obtain ⟨v7, hv7, h⟩ := bind_some h
  refine x_frk 28 [(1, .call [] [(ePl).f l28] (.tup [.agg [bl v6.1.inn, i64 v6.1.pl.A, i64 v6.1.pl.B, i64 v6.1.pl.C, i64 v6.1.pl.D, .sl true 6 v6.1.kids.length ((eSol true).f v6.1.kids)], i64 v6.2]) []), (6, .rows [(eSol false).f b6_5]), (0, .rows [(eSol false).f v6.1.kids]), (0, .call [] [] (.tup [.agg [bl v7.1.inn, i64 v7.1.pl.A, i64 v7.1.pl.B, i64 v7.1.pl.C, i64 v7.1.pl.D, .sl true 6 v7.1.kids.length ((eSol true).f v7.1.kids)], bl v7.2]) [])] (ocons (Tspec_Convex (Y := Y) n l28 _ hv6) (ocons (len_row (L := l28) ePl) (ocons (Enc.share ePl ePl sPl l28) (ocons (show hasSh (.tup [.agg [bl v6.1.inn, i64 v6.1.pl.A, i64 v6.1.pl.B, i64 v6.1.pl.C, i64 v6.1.pl.D, .sl true 6 v6.1.kids.length ((eSol true).f v6.1.kids)], i64 v6.2]) = false by simp [hasSh, hasShL, nSh, nShI, nShB, nShP, nShT, nShN, nShPs]) (ocons (Enc.share (eSol true) (eSol false) (sSol true) b6_5) (ocons (Enc.share (eSol true) (eSol false) (sSol true) v6.1.kids) (ocons (Tspec_Put (Y := Y) n (Sol.mk b6_0 (Pl.mk b6_1 b6_2 b6_3 b6_4) b6_5) v6.1 3 _ hv7) onil))))))) h (by kernel_rfl) (fun h => ?_) (fun h => ?_)
  · replace h := Option.some.inj h; subst h
    exact x_end 6 [] [(true, 6)] onil onil (by kernel_rfl)
  · replace h := Option.some.inj h; subst h
    exact x_end 7 [] [] onil onil (by kernel_rfl)
def Dspec_Shell_1 (n : Nat) (t0 : List Pl) (t1 : Int) (b4_0 : Bool) (b4_1 b4_2 b4_3 b4_4 : Int) (b6_0 : Bool) (b6_1 b6_2 b6_3 b6_4 : Int) (b6_5 : List Sol) (rec0 : (Int × List Pl) → Option (Sol × Int)) (a : (Int × List Pl)) : Option (Sol × Int) :=
  match a with
  | (t9, l28) => frk (decide (t9 < (t0.length : Int))) ((lget t0 t9).bind fun v2 => (Dspec_l9Greatest v2).bind fun v3 => (Dspec_PlaneOk n (Pl.mk v2.A v2.B v2.C (w64 (v2.D - (w64 (t1 * v3)))))).bind fun v4 => frk (!v4) (some ((Sol.mk false (Pl.mk 0 0 0 0) []), 3)) (chk (apB 32 (l28.length + 1)) (rec0 (w64 (t9 + 1), (l28 ++ [(Pl.mk v2.A v2.B v2.C (w64 (v2.D - (w64 (t1 * v3)))))]))))) (Dspec_Shell_0 n b4_0 b4_1 b4_2 b4_3 b4_4 b6_0 b6_1 b6_2 b6_3 b6_4 b6_5 l28)
theorem Tspec_Shell_1 {Y} (n : Nat) (t0 : List Pl) (t1 : Int) (b4_0 : Bool) (b4_1 b4_2 b4_3 b4_4 : Int) (b6_0 : Bool) (b6_1 b6_2 b6_3 b6_4 : Int) (b6_5 : List Sol) : ∀ (m : Nat) (a : (Int × List Pl)) (r : (Sol × Int)), loopN (Dspec_Shell_1 n t0 t1 b4_0 b4_1 b4_2 b4_3 b4_4 b6_0 b6_1 b6_2 b6_3 b6_4 b6_5) m a = some r → Wk Tryz.prog H Y 44 [.code (cp [1, 1, 1, 1, 1, 0, 1, 0] (bodyOf Tryz.f44)), .blk 0, .code (cp [1, 1, 1, 1, 1, 1] (bodyOf Tryz.f44))] (FinX Tryz.prog Tryz.f44 [] (.tup [.agg [bl r.1.inn, i64 r.1.pl.A, i64 r.1.pl.B, i64 r.1.pl.C, i64 r.1.pl.D, .sl true 6 r.1.kids.length ((eSol true).f r.1.kids)], i64 r.2]) []) ⟨[(0, .sl false 4 t0.length ((ePl).f t0)), (1, i64 t1), (4, .ptr 4 0), (6, .ptr 6 0), (8, .msl 28 a.2.length), (9, i64 a.1)], [(4, ⟨true, 0, [bl b4_0, i64 b4_1, i64 b4_2, i64 b4_3, i64 b4_4, .nil]⟩), (6, ⟨true, 0, [bl b6_0, i64 b6_1, i64 b6_2, i64 b6_3, i64 b6_4, .sl true 6 b6_5.length ((eSol true).f b6_5)]⟩), (28, ⟨true, 4, (ePl).f a.2⟩)]⟩ := by
  refine loopN_ind (fun _rec0 hrec0 a r h => ?_)
  obtain ⟨t9, l28⟩ := a
  unfold Dspec_Shell_1 at h
  refine x_frk 9 [] onil h (by kernel_rfl) (fun h => ?_) (fun h => ?_)
  · obtain ⟨v2, hv2, h⟩ := bind_some h
    obtain ⟨v3, hv3, h⟩ := bind_some h
    obtain ⟨v4, hv4, h⟩ := bind_some h
    refine x_frk 31 [(2, .val (.cptr (ePl.c v2 ++ (ePl).f ((t0).drop (Int.toNat t9 + 1))))), (7, .call [] [] (i64 v3) []), (5, .call [] [] (bl v4) [])] (ocons (ix ePl hv2) (ocons (Tspec_l9Greatest (Y := Y) v2 _ hv3) (ocons (Tspec_PlaneOk (Y := Y) n (Pl.mk v2.A v2.B v2.C (w64 (v2.D - (w64 (t1 * v3))))) _ hv4) onil))) h (by kernel_rfl) (fun h => ?_) (fun h => ?_)
    · replace h := Option.some.inj h; subst h
      exact x_end 6 [] [(true, 6)] onil onil (by kernel_rfl)
    · obtain ⟨c5, h⟩ := chk_some h
      exact x_to 16 [(3, .app false (List.length (l28 ++ [(Pl.mk v2.A v2.B v2.C (w64 (v2.D - (w64 (t1 * v3)))))])) ((ePl).f (l28 ++ [(Pl.mk v2.A v2.B v2.C (w64 (v2.D - (w64 (t1 * v3)))))]))), (4, .ren 54 28)] (ocons (len_row' (L := l28) ePl) (ocons (app_one (L := l28) (M := [(Pl.mk v2.A v2.B v2.C (w64 (v2.D - (w64 (t1 * v3)))))]) ePl c5) (ocons (app_new (L := l28) (M := [(Pl.mk v2.A v2.B v2.C (w64 (v2.D - (w64 (t1 * v3)))))]) ePl) (ocons (app_m (L := l28) (M := [(Pl.mk v2.A v2.B v2.C (w64 (v2.D - (w64 (t1 * v3)))))]) ePl rfl) (ocons (len_row' (L := [(Pl.mk v2.A v2.B v2.C (w64 (v2.D - (w64 (t1 * v3)))))]) ePl) (ocons (Enc.noOwn ePl (fun _ => rfl) [(Pl.mk v2.A v2.B v2.C (w64 (v2.D - (w64 (t1 * v3)))))]) (ocons (show 54 < 1000 ∧ 28 < 1000 by decide) onil))))))) (hrec0 (w64 (t9 + 1), (l28 ++ [(Pl.mk v2.A v2.B v2.C (w64 (v2.D - (w64 (t1 * v3)))))])) r h) (by kernel_rfl)
  · exact x_to 2 [] onil (Tspec_Shell_0 n b4_0 b4_1 b4_2 b4_3 b4_4 b6_0 b6_1 b6_2 b6_3 b6_4 b6_5 l28 r h) (by kernel_rfl)
def Dspec_Shell (n : Nat) (a0 : (List Pl)) (a1 : Int) : Option (Sol × Int) :=
  (Dspec_Convex n a0).bind fun v0 => frk (v0.2 != 0) (some ((Sol.mk false (Pl.mk 0 0 0 0) []), v0.2)) ((Dspec_l1In a1 1 500).bind fun v1 => frk (!v1) (some ((Sol.mk false (Pl.mk 0 0 0 0) []), 1)) (loopN (Dspec_Shell_1 n a0 a1 false 0 0 0 0 v0.1.inn v0.1.pl.A v0.1.pl.B v0.1.pl.C v0.1.pl.D v0.1.kids) n (0, [])))
theorem Tspec_Shell {Y} (n : Nat) (a0 : (List Pl)) (a1 : Int) (r : (Sol × Int)) (h : Dspec_Shell n a0 a1 = some r) : Big Tryz.prog H Y (.call 44 [.sl false 4 a0.length ((ePl).f a0), i64 a1] (lk []) (.tup [.agg [bl r.1.inn, i64 r.1.pl.A, i64 r.1.pl.B, i64 r.1.pl.C, i64 r.1.pl.D, .sl true 6 r.1.kids.length ((eSol true).f r.1.kids)], i64 r.2]) (lk [])) := by
  unfold Dspec_Shell at h
  refine x_call (fn := Tryz.f44) (c := bodyOf Tryz.f44) (bs0 := []) Tryz.func44 (by kernel_rfl) (by kernel_rfl) ?_
  obtain ⟨v0, hv0, h⟩ := bind_some h
  refine x_frk 22 [(3, .call [] [] (.tup [.agg [bl v0.1.inn, i64 v0.1.pl.A, i64 v0.1.pl.B, i64 v0.1.pl.C, i64 v0.1.pl.D, .sl true 6 v0.1.kids.length ((eSol true).f v0.1.kids)], i64 v0.2]) [])] (ocons (Tspec_Convex (Y := Y) n a0 _ hv0) onil) h (by kernel_rfl) (fun h => ?_) (fun h => ?_)
  · replace h := Option.some.inj h; subst h
    exact x_end 7 [] [(true, 6)] onil onil (by kernel_rfl)
  · obtain ⟨v1, hv1, h⟩ := bind_some h
    refine x_frk 8 [(1, .call [] [] (bl v1) [])] (ocons (Tspec_l1In (Y := Y) a1 1 500 _ hv1) onil) h (by kernel_rfl) (fun h => ?_) (fun h => ?_)
    · replace h := Option.some.inj h; subst h
      exact x_end 6 [] [(true, 6)] onil onil (by kernel_rfl)
    · exact x_to 12 [] onil (Tspec_Shell_1 n a0 a1 false 0 0 0 0 v0.1.inn v0.1.pl.A v0.1.pl.B v0.1.pl.C v0.1.pl.D v0.1.kids n (0, []) r h) (by kernel_rfl)
/-! impl.isOp -/
def Dimpl_isOp (a0 : Int) : Option Bool :=
  (Dimpl_inRange a0 1 4).bind fun v0 => some v0
theorem Timpl_isOp {Y} (a0 : Int) (r : Bool) (h : Dimpl_isOp a0 = some r) : Big Tryz.prog H Y (.call 84 [i64 a0] (lk []) (bl r) (lk [])) := by
  unfold Dimpl_isOp at h
  refine x_call (fn := Tryz.f84) (c := bodyOf Tryz.f84) (bs0 := []) Tryz.func84 (by kernel_rfl) (by kernel_rfl) ?_
  obtain ⟨v0, hv0, h⟩ := bind_some h
  replace h := Option.some.inj h; subst h
  exact x_end 10 [(2, .call [] [] (bl v0) [])] [] (ocons (Timpl_inRange (Y := Y) a0 1 4 _ hv0) onil) onil (by kernel_rfl)
/-! impl.checker).right -/
def Dimpl_checker_right_1 (_n : Nat) (self : (Int × Sol × (List Pl)) → Option (Bool × Int)) (t2 : List Pl) (t59 _b4_0 : Bool) (b4_1 b4_2 b4_3 b4_4 : Int) (b4_5 : List Sol) (b7_0 b7_1 b7_2 b7_3 b1000_0 : Int) : Option (Bool × Int) :=
  frk t59 (some (false, b1000_0)) ((lget b4_5 0).bind fun v5 => (Dimpl_with t2 (Pl.mk b4_1 b4_2 b4_3 b4_4)).bind fun v6 => (self (b1000_0, v5, v6)).bind fun v7 => frk v7.1 ((lget b4_5 1).bind fun v8 => (Dimpl_with t2 (Pl.mk b7_0 b7_1 b7_2 b7_3)).bind fun v9 => (self (v7.2, v8, v9)).bind fun v10 => some v10) (some (false, v7.2)))
theorem Timpl_checker_right_1 {Y} (n : Nat) (self : (Int × Sol × (List Pl)) → Option (Bool × Int)) (hself : ∀ (a : (Int × Sol × (List Pl))) (r : (Bool × Int)), self a = some r → Big Tryz.prog H Y (.call 74 [.ptr 1000 0, .agg [bl a.2.1.inn, i64 a.2.1.pl.A, i64 a.2.1.pl.B, i64 a.2.1.pl.C, i64 a.2.1.pl.D, .sl false 6 a.2.1.kids.length ((eSol false).f a.2.1.kids)], .sl false 4 a.2.2.length ((ePl).f a.2.2)] (lk [(1000, ⟨true, 0, [i64 a.1]⟩)]) (bl r.1) (lk [(1000, ⟨true, 0, [i64 r.2]⟩)]))) (t2 : List Pl) (t59 b4_0 : Bool) (b4_1 b4_2 b4_3 b4_4 : Int) (b4_5 : List Sol) (b7_0 b7_1 b7_2 b7_3 b1000_0 : Int) (r : (Bool × Int)) (h : Dimpl_checker_right_1 n self t2 t59 b4_0 b4_1 b4_2 b4_3 b4_4 b4_5 b7_0 b7_1 b7_2 b7_3 b1000_0 = some r) : Wk Tryz.prog H Y 74 [.code (cp [1, 1, 1, 1, 1, 0, 1] (bodyOf Tryz.f74)), .code (cp [1, 1, 1, 1, 1, 1] (bodyOf Tryz.f74))] (FinX Tryz.prog Tryz.f74 [(1000, ⟨true, 0, [.bad]⟩)] (bl r.1) [(1000, ⟨true, 0, [i64 r.2]⟩)]) ⟨[(0, .ptr 1000 0), (2, .sl false 4 t2.length ((ePl).f t2)), (4, .ptr 4 0), (7, .ptr 7 0), (59, bl t59)], [(4, ⟨true, 0, [bl b4_0, i64 b4_1, i64 b4_2, i64 b4_3, i64 b4_4, .sl false 6 b4_5.length ((eSol false).f b4_5)]⟩), (7, ⟨true, 0, [i64 b7_0, i64 b7_1, i64 b7_2, i64 b7_3]⟩), (1000, ⟨true, 0, [i64 b1000_0]⟩)]⟩ := by
  unfold Dimpl_checker_right_1 at h
  refine x_frk 0 [] onil h (by kernel_rfl) (fun h => ?_) (fun h => ?_)
  · replace h := Option.some.inj h; subst h
    exact x_end 4 [] [] onil onil (by kernel_rfl)
  · obtain ⟨v5, hv5, h⟩ := bind_some h
    obtain ⟨v6, hv6, h⟩ := bind_some h
    obtain ⟨v7, hv7, h⟩ := bind_some h
    refine x_frk 14 [(3, .val (.cptr ((eSol false).c v5 ++ (eSol false).f ((b4_5).drop (Int.toNat 0 + 1))))), (4, .call [] [] (.sl false 4 v6.length ((ePl).f v6)) []), (0, .call [] [] (bl v7.1) [(1000, ⟨true, 0, [i64 v7.2]⟩)])] (ocons (ix (eSol false) hv5) (ocons (shSl (L := v6) ePl ePl sPl (Timpl_with (Y := Y) t2 (Pl.mk b4_1 b4_2 b4_3 b4_4) _ hv6)) (ocons (hself (b1000_0, v5, v6) _ hv7) onil))) h (by kernel_rfl) (fun h => ?_) (fun h => ?_)
    · obtain ⟨v8, hv8, h⟩ := bind_some h
      obtain ⟨v9, hv9, h⟩ := bind_some h
      obtain ⟨v10, hv10, h⟩ := bind_some h
      replace h := Option.some.inj h; subst h
      exact x_end 12 [(3, .val (.cptr ((eSol false).c v8 ++ (eSol false).f ((b4_5).drop (Int.toNat 1 + 1))))), (3, .call [] [] (.sl false 4 v9.length ((ePl).f v9)) []), (0, .call [] [] (bl v10.1) [(1000, ⟨true, 0, [i64 v10.2]⟩)])] [] (ocons (ix (eSol false) hv8) (ocons (shSl (L := v9) ePl ePl sPl (Timpl_with (Y := Y) t2 (Pl.mk b7_0 b7_1 b7_2 b7_3) _ hv9)) (ocons (hself (v7.2, v8, v9) _ hv10) onil))) onil (by kernel_rfl)
    · replace h := Option.some.inj h; subst h
      exact x_end 12 [] [] onil onil (by kernel_rfl)
def Dimpl_checker_right_0 (n : Nat) (self : (Int × Sol × (List Pl)) → Option (Bool × Int)) (t2 : List Pl) (t45 b4_0 : Bool) (b4_1 b4_2 b4_3 b4_4 : Int) (b4_5 : List Sol) (b1000_0 : Int) : Option (Bool × Int) :=
  frk t45 (some (false, b1000_0)) ((Dimpl_flip (Pl.mk b4_1 b4_2 b4_3 b4_4)).bind fun v2 => (Dimpl_room n t2 (Pl.mk b4_1 b4_2 b4_3 b4_4)).bind fun v3 => frk (!v3) (some (false, b1000_0)) ((Dimpl_room n t2 v2).bind fun v4 => Dimpl_checker_right_1 n self t2 (!v4) b4_0 b4_1 b4_2 b4_3 b4_4 b4_5 v2.A v2.B v2.C v2.D b1000_0))
theorem Timpl_checker_right_0 {Y} (n : Nat) (self : (Int × Sol × (List Pl)) → Option (Bool × Int)) (hself : ∀ (a : (Int × Sol × (List Pl))) (r : (Bool × Int)), self a = some r → Big Tryz.prog H Y (.call 74 [.ptr 1000 0, .agg [bl a.2.1.inn, i64 a.2.1.pl.A, i64 a.2.1.pl.B, i64 a.2.1.pl.C, i64 a.2.1.pl.D, .sl false 6 a.2.1.kids.length ((eSol false).f a.2.1.kids)], .sl false 4 a.2.2.length ((ePl).f a.2.2)] (lk [(1000, ⟨true, 0, [i64 a.1]⟩)]) (bl r.1) (lk [(1000, ⟨true, 0, [i64 r.2]⟩)]))) (t2 : List Pl) (t45 b4_0 : Bool) (b4_1 b4_2 b4_3 b4_4 : Int) (b4_5 : List Sol) (b1000_0 : Int) (r : (Bool × Int)) (h : Dimpl_checker_right_0 n self t2 t45 b4_0 b4_1 b4_2 b4_3 b4_4 b4_5 b1000_0 = some r) : Wk Tryz.prog H Y 74 [.code (cp [1, 1, 1, 0, 1] (bodyOf Tryz.f74)), .code (cp [1, 1, 1, 1] (bodyOf Tryz.f74))] (FinX Tryz.prog Tryz.f74 [(1000, ⟨true, 0, [.bad]⟩)] (bl r.1) [(1000, ⟨true, 0, [i64 r.2]⟩)]) ⟨[(0, .ptr 1000 0), (2, .sl false 4 t2.length ((ePl).f t2)), (4, .ptr 4 0), (45, bl t45)], [(4, ⟨true, 0, [bl b4_0, i64 b4_1, i64 b4_2, i64 b4_3, i64 b4_4, .sl false 6 b4_5.length ((eSol false).f b4_5)]⟩), (1000, ⟨true, 0, [i64 b1000_0]⟩)]⟩ := by
  unfold Dimpl_checker_right_0 at h
  refine x_frk 0 [] onil h (by kernel_rfl) (fun h => ?_) (fun h => ?_)
  · replace h := Option.some.inj h; subst h
    exact x_end 4 [] [] onil onil (by kernel_rfl)
  · obtain ⟨v2, hv2, h⟩ := bind_some h
    obtain ⟨v3, hv3, h⟩ := bind_some h
    refine x_frk 18 [(2, .call [] [] (.agg [i64 v2.A, i64 v2.B, i64 v2.C, i64 v2.D]) []), (5, .call [] [] (bl v3) [])] (ocons (Timpl_flip (Y := Y) (Pl.mk b4_1 b4_2 b4_3 b4_4) _ hv2) (ocons (Timpl_room (Y := Y) n t2 (Pl.mk b4_1 b4_2 b4_3 b4_4) _ hv3) onil)) h (by kernel_rfl) (fun h => ?_) (fun h => ?_)
    · replace h := Option.some.inj h; subst h
      exact x_end 11 [] [] onil onil (by kernel_rfl)
    · obtain ⟨v4, hv4, h⟩ := bind_some h
      exact x_to 6 [(2, .call [] [] (bl v4) [])] (ocons (Timpl_room (Y := Y) n t2 v2 _ hv4) onil) (Timpl_checker_right_1 n self hself t2 (!v4) b4_0 b4_1 b4_2 b4_3 b4_4 b4_5 v2.A v2.B v2.C v2.D b1000_0 r h) (by kernel_rfl)
def Dimpl_checker_right_b (n : Nat) (self : (Int × Sol × (List Pl)) → Option (Bool × Int)) (a : (Int × Sol × (List Pl))) : Option (Bool × Int) :=
  match a with
  | (a0, a1, a2) => (Dimpl_Solid_isLeaf a1).bind fun v0 => frk v0 (some ((a1.pl.A == 0 && (a1.pl.B == 0 && (a1.pl.C == 0 && (a1.pl.D == 0 && true)))), a0)) (frk a1.inn (some (false, w64 (a0 + 1))) (frk ((a1.kids.length : Int) != 2) (some (false, w64 (a0 + 1))) (frk (decide ((w64 (a0 + 1)) > 300)) (some (false, w64 (a0 + 1))) (frk (decide ((a2.length : Int) ≥ 24)) (some (false, w64 (a0 + 1))) ((Dimpl_PlaneOk n a1.pl).bind fun v1 => Dimpl_checker_right_0 n self a2 (!v1) a1.inn a1.pl.A a1.pl.B a1.pl.C a1.pl.D a1.kids (w64 (a0 + 1)))))))
def Dimpl_checker_right (n : Nat) (a0 : Int) (a1 : Sol) (a2 : (List Pl)) : Option (Bool × Int) := loopN (Dimpl_checker_right_b n) n (a0, a1, a2)
theorem Timpl_checker_right_b {Y} (n : Nat) : ∀ (m : Nat) (a : (Int × Sol × (List Pl))) (r : (Bool × Int)), loopN (Dimpl_checker_right_b n) m a = some r → ∀ (_ : Unit), Big Tryz.prog H Y (.call 74 [.ptr 1000 0, .agg [bl a.2.1.inn, i64 a.2.1.pl.A, i64 a.2.1.pl.B, i64 a.2.1.pl.C, i64 a.2.1.pl.D, .sl false 6 a.2.1.kids.length ((eSol false).f a.2.1.kids)], .sl false 4 a.2.2.length ((ePl).f a.2.2)] (lk [(1000, ⟨true, 0, [i64 a.1]⟩)]) (bl r.1) (lk [(1000, ⟨true, 0, [i64 r.2]⟩)])) := by
  refine loopN_ind (fun self hs a r h => ?_)
  have hself : ∀ (a : (Int × Sol × (List Pl))) (r : (Bool × Int)), self a = some r → Big Tryz.prog H Y (.call 74 [.ptr 1000 0, .agg [bl a.2.1.inn, i64 a.2.1.pl.A, i64 a.2.1.pl.B, i64 a.2.1.pl.C, i64 a.2.1.pl.D, .sl false 6 a.2.1.kids.length ((eSol false).f a.2.1.kids)], .sl false 4 a.2.2.length ((ePl).f a.2.2)] (lk [(1000, ⟨true, 0, [i64 a.1]⟩)]) (bl r.1) (lk [(1000, ⟨true, 0, [i64 r.2]⟩)])) := fun a r h => hs a r h ()
  intro _
  obtain ⟨a0, a1, a2⟩ := a
  unfold Dimpl_checker_right_b at h
  refine x_call (fn := Tryz.f74) (c := bodyOf Tryz.f74) (bs0 := [(1000, ⟨true, 0, [.bad]⟩)]) Tryz.func74 (by kernel_rfl) (by kernel_rfl) ?_
  obtain ⟨v0, hv0, h⟩ := bind_some h
  refine x_frk 10 [(2, .call [] [] (bl v0) [])] (ocons (Timpl_Solid_isLeaf (Y := Y) a1 [] _ hv0) onil) h (by kernel_rfl) (fun h => ?_) (fun h => ?_)
  · replace h := Option.some.inj h; subst h
    exact x_end 8 [] [] onil onil (by kernel_rfl)
  · refine x_frk 18 [] onil h (by kernel_rfl) (fun h => ?_) (fun h => ?_)
    · replace h := Option.some.inj h; subst h
      exact x_end 29 [] [] onil onil (by kernel_rfl)
    · refine x_frk 6 [] onil h (by kernel_rfl) (fun h => ?_) (fun h => ?_)
      · replace h := Option.some.inj h; subst h
        exact x_end 23 [] [] onil onil (by kernel_rfl)
      · refine x_frk 7 [] onil h (by kernel_rfl) (fun h => ?_) (fun h => ?_)
        · replace h := Option.some.inj h; subst h
          exact x_end 16 [] [] onil onil (by kernel_rfl)
        · refine x_frk 5 [] onil h (by kernel_rfl) (fun h => ?_) (fun h => ?_)
          · replace h := Option.some.inj h; subst h
            exact x_end 11 [] [] onil onil (by kernel_rfl)
          · obtain ⟨v1, hv1, h⟩ := bind_some h
            exact x_to 6 [(2, .call [] [] (bl v1) [])] (ocons (Timpl_PlaneOk (Y := Y) n a1.pl _ hv1) onil) (Timpl_checker_right_0 n self hself a2 (!v1) a1.inn a1.pl.A a1.pl.B a1.pl.C a1.pl.D a1.kids (w64 (a0 + 1)) r h) (by kernel_rfl)
theorem Timpl_checker_right {Y} (n : Nat) (a0 : Int) (a1 : Sol) (a2 : (List Pl)) (r : (Bool × Int)) (h : Dimpl_checker_right n a0 a1 a2 = some r) : Big Tryz.prog H Y (.call 74 [.ptr 1000 0, .agg [bl a1.inn, i64 a1.pl.A, i64 a1.pl.B, i64 a1.pl.C, i64 a1.pl.D, .sl false 6 a1.kids.length ((eSol false).f a1.kids)], .sl false 4 a2.length ((ePl).f a2)] (lk [(1000, ⟨true, 0, [i64 a0]⟩)]) (bl r.1) (lk [(1000, ⟨true, 0, [i64 r.2]⟩)])) := Timpl_checker_right_b n n (a0, a1, a2) r h ()
/-! impl.SolidOk -/
def Dimpl_SolidOk (n : Nat) (a0 : Sol) : Option Bool :=
  (Dimpl_checker_right n 0 a0 []).bind fun v0 => some v0.1
theorem Timpl_SolidOk {Y} (n : Nat) (a0 : Sol) (r : Bool) (h : Dimpl_SolidOk n a0 = some r) : Big Tryz.prog H Y (.call 18 [.agg [bl a0.inn, i64 a0.pl.A, i64 a0.pl.B, i64 a0.pl.C, i64 a0.pl.D, .sl false 6 a0.kids.length ((eSol false).f a0.kids)]] (lk []) (bl r) (lk [])) := by
  unfold Dimpl_SolidOk at h
  refine x_call (fn := Tryz.f18) (c := bodyOf Tryz.f18) (bs0 := []) Tryz.func18 (by kernel_rfl) (by kernel_rfl) ?_
  obtain ⟨v0, hv0, h⟩ := bind_some h
  replace h := Option.some.inj h; subst h
  exact x_end 15 [(4, .call [(false, 4)] [] (bl v0.1) [(1000, ⟨true, 0, [i64 v0.2]⟩)])] [] (ocons (Timpl_checker_right (Y := Y) n 0 a0 [] _ hv0) onil) onil (by kernel_rfl)
/-! impl.Put -/
def Dimpl_Put_0 (_n : Nat) (_b6_0 : Bool) (_b6_1 _b6_2 _b6_3 _b6_4 : Int) : Option (Sol × Bool) :=
  (Dimpl_Leaf false).bind fun v1 => some (v1, false)
theorem Timpl_Put_0 {Y} (n : Nat) (b6_0 : Bool) (b6_1 b6_2 b6_3 b6_4 : Int) (r : (Sol × Bool)) (h : Dimpl_Put_0 n b6_0 b6_1 b6_2 b6_3 b6_4 = some r) : Wk Tryz.prog H Y 22 [.code (cp [1, 0, 1, 0, 0] (bodyOf Tryz.f22)), .code (cp [1, 0, 1, 0, 1] (bodyOf Tryz.f22)), .code (cp [1, 1] (bodyOf Tryz.f22))] (FinX Tryz.prog Tryz.f22 [] (.tup [.agg [bl r.1.inn, i64 r.1.pl.A, i64 r.1.pl.B, i64 r.1.pl.C, i64 r.1.pl.D, .sl true 6 r.1.kids.length ((eSol true).f r.1.kids)], bl r.2]) []) ⟨[(6, .ptr 6 0)], [(6, ⟨true, 0, [bl b6_0, i64 b6_1, i64 b6_2, i64 b6_3, i64 b6_4, .nil]⟩)]⟩ := by
  unfold Dimpl_Put_0 at h
  obtain ⟨v1, hv1, h⟩ := bind_some h
  replace h := Option.some.inj h; subst h
  exact x_end 5 [(0, .call [] [] (.agg [bl v1.inn, i64 v1.pl.A, i64 v1.pl.B, i64 v1.pl.C, i64 v1.pl.D, .sl true 6 v1.kids.length ((eSol true).f v1.kids)]) [])] [] (ocons (Timpl_Leaf (Y := Y) false _ hv1) onil) onil (by kernel_rfl)
def Dimpl_Put_1 (n : Nat) (t2 : Int) (t20 b3_0 : Bool) (b3_1 b3_2 b3_3 b3_4 : Int) (b3_5 : List Sol) (b4_0 : Bool) (b4_1 b4_2 b4_3 b4_4 : Int) (b4_5 : List Sol) (_b6_0 : Bool) (_b6_1 _b6_2 _b6_3 _b6_4 : Int) : Option (Sol × Bool) :=
  frk t20 ((Dimpl_Leaf false).bind fun v4 => some (v4, false)) ((Dimpl_put n (Sol.mk b3_0 (Pl.mk b3_1 b3_2 b3_3 b3_4) b3_5) (Sol.mk b4_0 (Pl.mk b4_1 b4_2 b4_3 b4_4) b4_5) t2).bind fun v5 => some v5)
theorem Timpl_Put_1 {Y} (n : Nat) (t2 : Int) (t20 b3_0 : Bool) (b3_1 b3_2 b3_3 b3_4 : Int) (b3_5 : List Sol) (b4_0 : Bool) (b4_1 b4_2 b4_3 b4_4 : Int) (b4_5 : List Sol) (b6_0 : Bool) (b6_1 b6_2 b6_3 b6_4 : Int) (r : (Sol × Bool)) (h : Dimpl_Put_1 n t2 t20 b3_0 b3_1 b3_2 b3_3 b3_4 b3_5 b4_0 b4_1 b4_2 b4_3 b4_4 b4_5 b6_0 b6_1 b6_2 b6_3 b6_4 = some r) : Wk Tryz.prog H Y 22 [.code (cp [1, 0, 1] (bodyOf Tryz.f22)), .code (cp [1, 1] (bodyOf Tryz.f22))] (FinX Tryz.prog Tryz.f22 [] (.tup [.agg [bl r.1.inn, i64 r.1.pl.A, i64 r.1.pl.B, i64 r.1.pl.C, i64 r.1.pl.D, .sl true 6 r.1.kids.length ((eSol true).f r.1.kids)], bl r.2]) []) ⟨[(2, i64 t2), (3, .ptr 3 0), (4, .ptr 4 0), (6, .ptr 6 0), (20, bl t20)], [(3, ⟨true, 0, [bl b3_0, i64 b3_1, i64 b3_2, i64 b3_3, i64 b3_4, .sl false 6 b3_5.length ((eSol false).f b3_5)]⟩), (4, ⟨true, 0, [bl b4_0, i64 b4_1, i64 b4_2, i64 b4_3, i64 b4_4, .sl false 6 b4_5.length ((eSol false).f b4_5)]⟩), (6, ⟨true, 0, [bl b6_0, i64 b6_1, i64 b6_2, i64 b6_3, i64 b6_4, .nil]⟩)]⟩ := by
  unfold Dimpl_Put_1 at h
  refine x_frk 0 [] onil h (by kernel_rfl) (fun h => ?_) (fun h => ?_)
  · obtain ⟨v4, hv4, h⟩ := bind_some h
    replace h := Option.some.inj h; subst h
    exact x_end 6 [(0, .call [] [] (.agg [bl v4.inn, i64 v4.pl.A, i64 v4.pl.B, i64 v4.pl.C, i64 v4.pl.D, .sl true 6 v4.kids.length ((eSol true).f v4.kids)]) [])] [] (ocons (Timpl_Leaf (Y := Y) false _ hv4) onil) onil (by kernel_rfl)
  · obtain ⟨v5, hv5, h⟩ := bind_some h
    replace h := Option.some.inj h; subst h
    exact x_end 12 [(3, .call [] [] (.tup [.agg [bl v5.1.inn, i64 v5.1.pl.A, i64 v5.1.pl.B, i64 v5.1.pl.C, i64 v5.1.pl.D, .sl true 6 v5.1.kids.length ((eSol true).f v5.1.kids)], bl v5.2]) [])] [] (ocons (Timpl_put (Y := Y) n (Sol.mk b3_0 (Pl.mk b3_1 b3_2 b3_3 b3_4) b3_5) (Sol.mk b4_0 (Pl.mk b4_1 b4_2 b4_3 b4_4) b4_5) t2 _ hv5) onil) onil (by kernel_rfl)
def Dimpl_Put (n : Nat) (a0 : Sol) (a1 : Sol) (a2 : Int) : Option (Sol × Bool) :=
  (Dimpl_isOp a2).bind fun v0 => frk (!v0) (Dimpl_Put_0 n false 0 0 0 0) ((Dimpl_SolidOk n a0).bind fun v2 => frk (!v2) (Dimpl_Put_0 n false 0 0 0 0) ((Dimpl_SolidOk n a1).bind fun v3 => Dimpl_Put_1 n a2 (!v3) a0.inn a0.pl.A a0.pl.B a0.pl.C a0.pl.D a0.kids a1.inn a1.pl.A a1.pl.B a1.pl.C a1.pl.D a1.kids false 0 0 0 0))
theorem Timpl_Put {Y} (n : Nat) (a0 : Sol) (a1 : Sol) (a2 : Int) (r : (Sol × Bool)) (h : Dimpl_Put n a0 a1 a2 = some r) : Big Tryz.prog H Y (.call 22 [.agg [bl a0.inn, i64 a0.pl.A, i64 a0.pl.B, i64 a0.pl.C, i64 a0.pl.D, .sl false 6 a0.kids.length ((eSol false).f a0.kids)], .agg [bl a1.inn, i64 a1.pl.A, i64 a1.pl.B, i64 a1.pl.C, i64 a1.pl.D, .sl false 6 a1.kids.length ((eSol false).f a1.kids)], i64 a2] (lk []) (.tup [.agg [bl r.1.inn, i64 r.1.pl.A, i64 r.1.pl.B, i64 r.1.pl.C, i64 r.1.pl.D, .sl true 6 r.1.kids.length ((eSol true).f r.1.kids)], bl r.2]) (lk [])) := by
  unfold Dimpl_Put at h
  refine x_call (fn := Tryz.f22) (c := bodyOf Tryz.f22) (bs0 := []) Tryz.func22 (by kernel_rfl) (by kernel_rfl) ?_
  obtain ⟨v0, hv0, h⟩ := bind_some h
  refine x_frk 14 [(5, .call [] [] (bl v0) [])] (ocons (Timpl_isOp (Y := Y) a2 _ hv0) onil) h (by kernel_rfl) (fun h => ?_) (fun h => ?_)
  · exact x_to 12 [] onil (Timpl_Put_0 n false 0 0 0 0 r h) (by kernel_rfl)
  · obtain ⟨v2, hv2, h⟩ := bind_some h
    refine x_frk 5 [(1, .call [] [] (bl v2) [])] (ocons (Timpl_SolidOk (Y := Y) n a0 _ hv2) onil) h (by kernel_rfl) (fun h => ?_) (fun h => ?_)
    · exact x_to 7 [] onil (Timpl_Put_0 n false 0 0 0 0 r h) (by kernel_rfl)
    · obtain ⟨v3, hv3, h⟩ := bind_some h
      exact x_to 5 [(1, .call [] [] (bl v3) [])] (ocons (Timpl_SolidOk (Y := Y) n a1 _ hv3) onil) (Timpl_Put_1 n a2 (!v3) a0.inn a0.pl.A a0.pl.B a0.pl.C a0.pl.D a0.kids a1.inn a1.pl.A a1.pl.B a1.pl.C a1.pl.D a1.kids false 0 0 0 0 r h) (by kernel_rfl)
/-! impl.Solid).has -/
def Dimpl_Solid_has_b (_n : Nat) (self : (Sol × Bool) → Option Bool) (a : (Sol × Bool)) : Option Bool :=
  match a with
  | (a0, a1) => (Dimpl_Solid_isLeaf a0).bind fun v0 => frk v0 (some (a0.inn == a1)) ((lget a0.kids 0).bind fun v1 => (self (v1, a1)).bind fun v2 => frk v2 (some true) ((lget a0.kids 1).bind fun v3 => (self (v3, a1)).bind fun v4 => some v4))
def Dimpl_Solid_has (n : Nat) (a0 : Sol) (a1 : Bool) : Option Bool := loopN (Dimpl_Solid_has_b n) n (a0, a1)
theorem Timpl_Solid_has_b {Y} (n : Nat) : ∀ (m : Nat) (a : (Sol × Bool)) (r : Bool), loopN (Dimpl_Solid_has_b n) m a = some r → ∀ (q0 : List AV), Big Tryz.prog H Y (.call 90 [.cptr ([bl a.1.inn, i64 a.1.pl.A, i64 a.1.pl.B, i64 a.1.pl.C, i64 a.1.pl.D, .sl false 6 a.1.kids.length ((eSol false).f a.1.kids)] ++ q0), bl a.2] (lk []) (bl r) (lk [])) := by
  refine loopN_ind (fun self hs a r h => ?_)
  have hself : ∀ (a : (Sol × Bool)) (q0 : List AV) (r : Bool), self a = some r → Big Tryz.prog H Y (.call 90 [.cptr ([bl a.1.inn, i64 a.1.pl.A, i64 a.1.pl.B, i64 a.1.pl.C, i64 a.1.pl.D, .sl false 6 a.1.kids.length ((eSol false).f a.1.kids)] ++ q0), bl a.2] (lk []) (bl r) (lk [])) := fun a q0 r h => hs a r h q0
  intro q0
  obtain ⟨a0, a1⟩ := a
  unfold Dimpl_Solid_has_b at h
  refine x_call (fn := Tryz.f90) (c := bodyOf Tryz.f90) (bs0 := []) Tryz.func90 (by kernel_rfl) (by kernel_rfl) ?_
  obtain ⟨v0, hv0, h⟩ := bind_some h
  refine x_frk 10 [(2, .call [] [] (bl v0) [])] (ocons (Timpl_Solid_isLeaf (Y := Y) a0 q0 _ hv0) onil) h (by kernel_rfl) (fun h => ?_) (fun h => ?_)
  · replace h := Option.some.inj h; subst h
    exact x_end 10 [] [] onil onil (by kernel_rfl)
  · obtain ⟨v1, hv1, h⟩ := bind_some h
    obtain ⟨v2, hv2, h⟩ := bind_some h
    refine x_frk 11 [(4, .val (.cptr ((eSol false).c v1 ++ (eSol false).f ((a0.kids).drop (Int.toNat 0 + 1))))), (1, .call [] [] (bl v2) [])] (ocons (ix (eSol false) hv1) (ocons (hself (v1, a1) ((eSol false).f ((a0.kids).drop (Int.toNat 0 + 1))) _ hv2) onil)) h (by kernel_rfl) (fun h => ?_) (fun h => ?_)
    · replace h := Option.some.inj h; subst h
      exact x_end 10 [] [] onil onil (by kernel_rfl)
    · obtain ⟨v3, hv3, h⟩ := bind_some h
      obtain ⟨v4, hv4, h⟩ := bind_some h
      replace h := Option.some.inj h; subst h
      exact x_end 10 [(4, .val (.cptr ((eSol false).c v3 ++ (eSol false).f ((a0.kids).drop (Int.toNat 1 + 1))))), (1, .call [] [] (bl v4) [])] [] (ocons (ix (eSol false) hv3) (ocons (hself (v3, a1) ((eSol false).f ((a0.kids).drop (Int.toNat 1 + 1))) _ hv4) onil)) onil (by kernel_rfl)
theorem Timpl_Solid_has {Y} (n : Nat) (a0 : Sol) (a1 : Bool) (q0 : List AV) (r : Bool) (h : Dimpl_Solid_has n a0 a1 = some r) : Big Tryz.prog H Y (.call 90 [.cptr ([bl a0.inn, i64 a0.pl.A, i64 a0.pl.B, i64 a0.pl.C, i64 a0.pl.D, .sl false 6 a0.kids.length ((eSol false).f a0.kids)] ++ q0), bl a1] (lk []) (bl r) (lk [])) := Timpl_Solid_has_b n n (a0, a1) r h q0
/-! impl.isNothing -/
def Dimpl_isNothing (n : Nat) (a0 : Sol) (a1 : Sol) (a2 : Int) : Option Bool :=
  (Dimpl_Put n a0 a1 a2).bind fun v0 => frk v0.2 ((Dimpl_Solid_has n v0.1 true).bind fun v1 => some (!v1)) (some false)
theorem Timpl_isNothing {Y} (n : Nat) (a0 : Sol) (a1 : Sol) (a2 : Int) (r : Bool) (h : Dimpl_isNothing n a0 a1 a2 = some r) : Big Tryz.prog H Y (.call 89 [.agg [bl a0.inn, i64 a0.pl.A, i64 a0.pl.B, i64 a0.pl.C, i64 a0.pl.D, .sl false 6 a0.kids.length ((eSol false).f a0.kids)], .agg [bl a1.inn, i64 a1.pl.A, i64 a1.pl.B, i64 a1.pl.C, i64 a1.pl.D, .sl false 6 a1.kids.length ((eSol false).f a1.kids)], i64 a2] (lk []) (bl r) (lk [])) := by
  unfold Dimpl_isNothing at h
  refine x_call (fn := Tryz.f89) (c := bodyOf Tryz.f89) (bs0 := []) Tryz.func89 (by kernel_rfl) (by kernel_rfl) ?_
  obtain ⟨v0, hv0, h⟩ := bind_some h
  refine x_frk 23 [(6, .call [] [] (.tup [.agg [bl v0.1.inn, i64 v0.1.pl.A, i64 v0.1.pl.B, i64 v0.1.pl.C, i64 v0.1.pl.D, .sl true 6 v0.1.kids.length ((eSol true).f v0.1.kids)], bl v0.2]) [])] (ocons (Timpl_Put (Y := Y) n a0 a1 a2 _ hv0) onil) h (by kernel_rfl) (fun h => ?_) (fun h => ?_)
  · obtain ⟨v1, hv1, h⟩ := bind_some h
    replace h := Option.some.inj h; subst h
    exact x_end 5 [(0, .call [] [(eSol false).f v0.1.kids] (bl v1) [])] [] (ocons (Timpl_Solid_has (Y := Y) n v0.1 true [] _ hv1) (ocons (Enc.share (eSol true) (eSol false) (sSol true) v0.1.kids) onil)) onil (by kernel_rfl)
  · replace h := Option.some.inj h; subst h
    exact x_end 5 [] [] onil onil (by kernel_rfl)
/-! impl.Inside -/
def Dimpl_Inside (n : Nat) (a0 : Sol) (a1 : Sol) : Option Bool :=
  (Dimpl_isNothing n a0 a1 3).bind fun v0 => some v0
theorem Timpl_Inside {Y} (n : Nat) (a0 : Sol) (a1 : Sol) (r : Bool) (h : Dimpl_Inside n a0 a1 = some r) : Big Tryz.prog H Y (.call 25 [.agg [bl a0.inn, i64 a0.pl.A, i64 a0.pl.B, i64 a0.pl.C, i64 a0.pl.D, .sl false 6 a0.kids.length ((eSol false).f a0.kids)], .agg [bl a1.inn, i64 a1.pl.A, i64 a1.pl.B, i64 a1.pl.C, i64 a1.pl.D, .sl false 6 a1.kids.length ((eSol false).f a1.kids)]] (lk []) (bl r) (lk [])) := by
  unfold Dimpl_Inside at h
  refine x_call (fn := Tryz.f25) (c := bodyOf Tryz.f25) (bs0 := []) Tryz.func25 (by kernel_rfl) (by kernel_rfl) ?_
  obtain ⟨v0, hv0, h⟩ := bind_some h
  replace h := Option.some.inj h; subst h
  exact x_end 13 [(5, .call [] [] (bl v0) [])] [] (ocons (Timpl_isNothing (Y := Y) n a0 a1 3 _ hv0) onil) onil (by kernel_rfl)
/-! impl.Apart -/
def Dimpl_Apart (n : Nat) (a0 : Sol) (a1 : Sol) : Option Bool :=
  (Dimpl_isNothing n a0 a1 1).bind fun v0 => some v0
theorem Timpl_Apart {Y} (n : Nat) (a0 : Sol) (a1 : Sol) (r : Bool) (h : Dimpl_Apart n a0 a1 = some r) : Big Tryz.prog H Y (.call 26 [.agg [bl a0.inn, i64 a0.pl.A, i64 a0.pl.B, i64 a0.pl.C, i64 a0.pl.D, .sl false 6 a0.kids.length ((eSol false).f a0.kids)], .agg [bl a1.inn, i64 a1.pl.A, i64 a1.pl.B, i64 a1.pl.C, i64 a1.pl.D, .sl false 6 a1.kids.length ((eSol false).f a1.kids)]] (lk []) (bl r) (lk [])) := by
  unfold Dimpl_Apart at h
  refine x_call (fn := Tryz.f26) (c := bodyOf Tryz.f26) (bs0 := []) Tryz.func26 (by kernel_rfl) (by kernel_rfl) ?_
  obtain ⟨v0, hv0, h⟩ := bind_some h
  replace h := Option.some.inj h; subst h
  exact x_end 13 [(5, .call [] [] (bl v0) [])] [] (ocons (Timpl_isNothing (Y := Y) n a0 a1 1 _ hv0) onil) onil (by kernel_rfl)
/-! laws.FnShelled -/
def Dlaws_FnShelled_0 (n : Nat) (t3 : List Pl) (t6 t8 : Int) (t38 b5_0 : Bool) (b5_1 b5_2 b5_3 b5_4 : Int) (b5_5 : List Sol) : Option Bool :=
  frk t38 (some (t6 == t8)) ((Dimpl_Convex n t3).bind fun v4 => (Dimpl_Put n v4.1 (Sol.mk b5_0 (Pl.mk b5_1 b5_2 b5_3 b5_4) b5_5) 3).bind fun v5 => (Dimpl_Inside n (Sol.mk b5_0 (Pl.mk b5_1 b5_2 b5_3 b5_4) b5_5) v4.1).bind fun v6 => frk v6 ((Dimpl_SolidOk n (Sol.mk b5_0 (Pl.mk b5_1 b5_2 b5_3 b5_4) b5_5)).bind fun v7 => frk v7 (frk (!v5.2) (some true) ((Dimpl_Inside n v5.1 v4.1).bind fun v8 => frk v8 ((Dimpl_Apart n v5.1 (Sol.mk b5_0 (Pl.mk b5_1 b5_2 b5_3 b5_4) b5_5)).bind fun v9 => some v9) (some false))) (some false)) (some false))
theorem Tlaws_FnShelled_0 {Y} (n : Nat) (t3 : List Pl) (t6 t8 : Int) (t38 b5_0 : Bool) (b5_1 b5_2 b5_3 b5_4 : Int) (b5_5 : List Sol) (r : Bool) (h : Dlaws_FnShelled_0 n t3 t6 t8 t38 b5_0 b5_1 b5_2 b5_3 b5_4 b5_5 = some r) : Wk Tryz.prog H Y 7 [.code (cp [1, 1, 1, 1, 1, 0, 1] (bodyOf Tryz.f7)), .code (cp [1, 1, 1, 1, 1, 1] (bodyOf Tryz.f7))] (FinX Tryz.prog Tryz.f7 [] (bl r) []) ⟨[(3, .sl false 4 t3.length ((ePl).f t3)), (5, .ptr 5 0), (6, i64 t6), (8, i64 t8), (38, bl t38)], [(5, ⟨true, 0, [bl b5_0, i64 b5_1, i64 b5_2, i64 b5_3, i64 b5_4, .sl true 6 b5_5.length ((eSol true).f b5_5)]⟩)]⟩ := by
  unfold Dlaws_FnShelled_0 at h
  refine x_frk 0 [] onil h (by kernel_rfl) (fun h => ?_) (fun h => ?_)
  · replace h := Option.some.inj h; subst h
    exact x_end 7 [] [] onil onil (by kernel_rfl)
  · obtain ⟨v4, hv4, h⟩ := bind_some h
    obtain ⟨v5, hv5, h⟩ := bind_some h
    obtain ⟨v6, hv6, h⟩ := bind_some h
    refine x_frk 30 [(1, .call [] [] (.tup [.agg [bl v4.1.inn, i64 v4.1.pl.A, i64 v4.1.pl.B, i64 v4.1.pl.C, i64 v4.1.pl.D, .sl true 6 v4.1.kids.length ((eSol true).f v4.1.kids)], i64 v4.2]) []), (6, .rows [(eSol false).f v4.1.kids]), (0, .rows [(eSol false).f b5_5]), (0, .call [] [] (.tup [.agg [bl v5.1.inn, i64 v5.1.pl.A, i64 v5.1.pl.B, i64 v5.1.pl.C, i64 v5.1.pl.D, .sl true 6 v5.1.kids.length ((eSol true).f v5.1.kids)], bl v5.2]) []), (6, .rows [(eSol false).f b5_5]), (0, .rows [(eSol false).f v4.1.kids]), (0, .call [] [] (bl v6) [])] (ocons (Timpl_Convex (Y := Y) n t3 _ hv4) (ocons (Enc.share (eSol true) (eSol false) (sSol true) v4.1.kids) (ocons (Enc.share (eSol true) (eSol false) (sSol true) b5_5) (ocons (Timpl_Put (Y := Y) n v4.1 (Sol.mk b5_0 (Pl.mk b5_1 b5_2 b5_3 b5_4) b5_5) 3 _ hv5) (ocons (Enc.share (eSol true) (eSol false) (sSol true) b5_5) (ocons (Enc.share (eSol true) (eSol false) (sSol true) v4.1.kids) (ocons (Timpl_Inside (Y := Y) n (Sol.mk b5_0 (Pl.mk b5_1 b5_2 b5_3 b5_4) b5_5) v4.1 _ hv6) onil))))))) h (by kernel_rfl) (fun h => ?_) (fun h => ?_)
    · obtain ⟨v7, hv7, h⟩ := bind_some h
      refine x_frk 4 [(0, .rows [(eSol false).f b5_5]), (0, .call [] [] (bl v7) [])] (ocons (Enc.share (eSol true) (eSol false) (sSol true) b5_5) (ocons (Timpl_SolidOk (Y := Y) n (Sol.mk b5_0 (Pl.mk b5_1 b5_2 b5_3 b5_4) b5_5) _ hv7) onil)) h (by kernel_rfl) (fun h => ?_) (fun h => ?_)
      · refine x_frk 3 [] onil h (by kernel_rfl) (fun h => ?_) (fun h => ?_)
        · replace h := Option.some.inj h; subst h
          exact x_end 12 [] [] onil onil (by kernel_rfl)
        · obtain ⟨v8, hv8, h⟩ := bind_some h
          refine x_frk 4 [(0, .rows [(eSol false).f v5.1.kids]), (0, .rows [(eSol false).f v4.1.kids]), (0, .call [] [] (bl v8) [])] (ocons (Enc.share (eSol true) (eSol false) (sSol true) v5.1.kids) (ocons (Enc.share (eSol true) (eSol false) (sSol true) v4.1.kids) (ocons (Timpl_Inside (Y := Y) n v5.1 v4.1 _ hv8) onil))) h (by kernel_rfl) (fun h => ?_) (fun h => ?_)
          · obtain ⟨v9, hv9, h⟩ := bind_some h
            replace h := Option.some.inj h; subst h
            exact x_end 8 [(0, .rows [(eSol false).f v5.1.kids]), (0, .rows [(eSol false).f b5_5]), (0, .call [] [] (bl v9) [])] [] (ocons (Enc.share (eSol true) (eSol false) (sSol true) v5.1.kids) (ocons (Enc.share (eSol true) (eSol false) (sSol true) b5_5) (ocons (Timpl_Apart (Y := Y) n v5.1 (Sol.mk b5_0 (Pl.mk b5_1 b5_2 b5_3 b5_4) b5_5) _ hv9) onil))) onil (by kernel_rfl)
          · replace h := Option.some.inj h; subst h
            exact x_end 8 [] [] onil onil (by kernel_rfl)
      · replace h := Option.some.inj h; subst h
        exact x_end 15 [] [] onil onil (by kernel_rfl)
    · replace h := Option.some.inj h; subst h
      exact x_end 19 [] [] onil onil (by kernel_rfl)
def Dlaws_FnShelled (n : Nat) (a0 : (List Int)) : Option Bool :=
  (Dlaws_big a0).bind fun v0 => frk v0 (some true) ((Dspec_DrawShell n a0).bind fun v1 => (Dimpl_Shell n v1.1 v1.2).bind fun v2 => (Dspec_Shell n v1.1 v1.2).bind fun v3 => frk (v2.2 != v3.2) (some (v2.2 == v3.2)) (Dlaws_FnShelled_0 n v1.1 v2.2 v3.2 (v2.2 != 0) v2.1.inn v2.1.pl.A v2.1.pl.B v2.1.pl.C v2.1.pl.D v2.1.kids))
theorem Tlaws_FnShelled {Y} (n : Nat) (a0 : (List Int)) (r : Bool) (h : Dlaws_FnShelled n a0 = some r) : Big Tryz.prog H Y (.call 7 [.sl false 1 a0.length ((eU8).f a0)] (lk []) (bl r) (lk [])) := by
  unfold Dlaws_FnShelled at h
  refine x_call (fn := Tryz.f7) (c := bodyOf Tryz.f7) (bs0 := []) Tryz.func7 (by kernel_rfl) (by kernel_rfl) ?_
  obtain ⟨v0, hv0, h⟩ := bind_some h
  refine x_frk 10 [(2, .call [] [] (bl v0) [])] (ocons (Tlaws_big (Y := Y) a0 _ hv0) onil) h (by kernel_rfl) (fun h => ?_) (fun h => ?_)
  · replace h := Option.some.inj h; subst h
    exact x_end 4 [] [] onil onil (by kernel_rfl)
  · obtain ⟨v1, hv1, h⟩ := bind_some h
    obtain ⟨v2, hv2, h⟩ := bind_some h
    obtain ⟨v3, hv3, h⟩ := bind_some h
    refine x_frk 42 [(1, .call [] [] (.tup [.sl false 4 v1.1.length ((ePl).f v1.1), i64 v1.2]) []), (7, .call [] [] (.tup [.agg [bl v2.1.inn, i64 v2.1.pl.A, i64 v2.1.pl.B, i64 v2.1.pl.C, i64 v2.1.pl.D, .sl true 6 v2.1.kids.length ((eSol true).f v2.1.kids)], i64 v2.2]) []), (8, .call [] [] (.tup [.agg [bl v3.1.inn, i64 v3.1.pl.A, i64 v3.1.pl.B, i64 v3.1.pl.C, i64 v3.1.pl.D, .sl true 6 v3.1.kids.length ((eSol true).f v3.1.kids)], i64 v3.2]) [])] (ocons (Big.wkr (Tspec_DrawShell (Y := Y) n a0 _ hv1) (show WkV (.tup [.sl true 4 v1.1.length ((ePl).f v1.1), i64 v1.2]) (.tup [.sl false 4 v1.1.length ((ePl).f v1.1), i64 v1.2]) from .inr ⟨_, _, rfl, rfl, ⟨wkShareU (L := v1.1) ePl ePl sPl, wkSameU _, trivial⟩⟩)) (ocons (Timpl_Shell (Y := Y) n v1.1 v1.2 _ hv2) (ocons (Tspec_Shell (Y := Y) n v1.1 v1.2 _ hv3) onil))) h (by kernel_rfl) (fun h => ?_) (fun h => ?_)
    · replace h := Option.some.inj h; subst h
      exact x_end 12 [] [] onil onil (by kernel_rfl)
    · exact x_to 4 [] onil (Tlaws_FnShelled_0 n v1.1 v2.2 v3.2 (v2.2 != 0) v2.1.inn v2.1.pl.A v2.1.pl.B v2.1.pl.C v2.1.pl.D v2.1.kids r h) (by kernel_rfl)
end Evl.T
