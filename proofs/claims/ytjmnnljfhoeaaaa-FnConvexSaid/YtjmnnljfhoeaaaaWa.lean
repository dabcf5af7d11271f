/- Walks. No condition. -/
import Derived.Test.YtjmnnljfhoeaaaaWy
namespace Evl.T
open Go Evl Go.Proofs
set_option maxRecDepth 100000
/-! impl.clash3 -/
def Dimpl_clash3 (n : Nat) (a0 : Pl) (a1 : Pl) (a2 : Pl) : Option Bool :=
  (Dimpl_normal a0).bind fun v0 => (Dimpl_normal a1).bind fun v1 => (Dimpl_normal a2).bind fun v2 => (Dimpl_det v0 v1 v2).bind fun v3 => frk (v3 != 0) (some false) ((Dimpl_crossOf v0 v1).bind fun v4 => (Dimpl_crossOf v1 v2).bind fun v5 => (Dimpl_dot v5 v4).bind fun v6 => (Dimpl_crossOf v2 v0).bind fun v7 => (Dimpl_dot v7 v4).bind fun v8 => (Dimpl_dot v4 v4).bind fun v9 => (Dimpl_weighs n [v6, v8, v9] [a0.D, a1.D, a2.D]).bind fun v10 => some v10)
theorem Timpl_clash3 {Y} (n : Nat) (a0 : Pl) (a1 : Pl) (a2 : Pl) (r : Bool) (h : Dimpl_clash3 n a0 a1 a2 = some r) : Big Try.prog H Y (.call 123 [.agg [i64 a0.A, i64 a0.B, i64 a0.C, i64 a0.D], .agg [i64 a1.A, i64 a1.B, i64 a1.C, i64 a1.D], .agg [i64 a2.A, i64 a2.B, i64 a2.C, i64 a2.D]] (lk []) (bl r) (lk [])) := by
  unfold Dimpl_clash3 at h
  refine x_call (fn := Try.f123) (c := bodyOf Try.f123) (bs0 := []) Try.func123 (by kernel_rfl) (by kernel_rfl) ?_
  obtain ⟨v0, hv0, h⟩ := bind_some h
  obtain ⟨v1, hv1, h⟩ := bind_some h
  obtain ⟨v2, hv2, h⟩ := bind_some h
  obtain ⟨v3, hv3, h⟩ := bind_some h
  refine x_frk 31 [(5, .call [] [] (.agg [i64 v0.1, i64 v0.2.1, i64 v0.2.2]) []), (1, .call [] [] (.agg [i64 v1.1, i64 v1.2.1, i64 v1.2.2]) []), (1, .call [] [] (.agg [i64 v2.1, i64 v2.2.1, i64 v2.2.2]) []), (9, .call [] [] (i64 v3) [])] (ocons (Timpl_normal (Y := Y) a0 _ hv0) (ocons (Timpl_normal (Y := Y) a1 _ hv1) (ocons (Timpl_normal (Y := Y) a2 _ hv2) (ocons (Timpl_det (Y := Y) v0 v1 v2 _ hv3) onil)))) h (by kernel_rfl) (fun h => ?_) (fun h => ?_)
  · replace h := Option.some.inj h; subst h
    exact x_end 4 [] [] onil onil (by kernel_rfl)
  · obtain ⟨v4, hv4, h⟩ := bind_some h
    obtain ⟨v5, hv5, h⟩ := bind_some h
    obtain ⟨v6, hv6, h⟩ := bind_some h
    obtain ⟨v7, hv7, h⟩ := bind_some h
    obtain ⟨v8, hv8, h⟩ := bind_some h
    obtain ⟨v9, hv9, h⟩ := bind_some h
    obtain ⟨v10, hv10, h⟩ := bind_some h
    replace h := Option.some.inj h; subst h
    exact x_end 35 [(2, .call [] [] (.agg [i64 v4.1, i64 v4.2.1, i64 v4.2.2]) []), (4, .call [] [] (.agg [i64 v5.1, i64 v5.2.1, i64 v5.2.2]) []), (1, .call [] [] (i64 v6) []), (2, .call [] [] (.agg [i64 v7.1, i64 v7.2.1, i64 v7.2.2]) []), (1, .call [] [] (i64 v8) []), (2, .call [] [] (i64 v9) []), (8, .call [] [(eInt).f [a0.D, a1.D, a2.D], (eInt).f [v6, v8, v9]] (bl v10) [])] [] (ocons (Timpl_crossOf (Y := Y) v0 v1 _ hv4) (ocons (Timpl_crossOf (Y := Y) v1 v2 _ hv5) (ocons (Timpl_dot (Y := Y) v5 v4 _ hv6) (ocons (Timpl_crossOf (Y := Y) v2 v0 _ hv7) (ocons (Timpl_dot (Y := Y) v7 v4 _ hv8) (ocons (Timpl_dot (Y := Y) v4 v4 _ hv9) (ocons (Timpl_weighs (Y := Y) n [v6, v8, v9] [a0.D, a1.D, a2.D] _ hv10) (ocons (len_row (L := [v6, v8, v9]) eInt) (ocons (Enc.share eInt eInt sInt [v6, v8, v9]) (ocons (len_row (L := [a0.D, a1.D, a2.D]) eInt) (ocons (Enc.share eInt eInt sInt [a0.D, a1.D, a2.D]) onil))))))))))) onil (by kernel_rfl)
/-! impl.det3 -/
def Dimpl_det3 (a0 : Pl) (a1 : Pl) (a2 : Pl) : Option Int :=
  (Dimpl_normal a0).bind fun v0 => (Dimpl_normal a1).bind fun v1 => (Dimpl_normal a2).bind fun v2 => (Dimpl_det v0 v1 v2).bind fun v3 => some v3
theorem Timpl_det3 {Y} (a0 : Pl) (a1 : Pl) (a2 : Pl) (r : Int) (h : Dimpl_det3 a0 a1 a2 = some r) : Big Try.prog H Y (.call 140 [.agg [i64 a0.A, i64 a0.B, i64 a0.C, i64 a0.D], .agg [i64 a1.A, i64 a1.B, i64 a1.C, i64 a1.D], .agg [i64 a2.A, i64 a2.B, i64 a2.C, i64 a2.D]] (lk []) (i64 r) (lk [])) := by
  unfold Dimpl_det3 at h
  refine x_call (fn := Try.f140) (c := bodyOf Try.f140) (bs0 := []) Try.func140 (by kernel_rfl) (by kernel_rfl) ?_
  obtain ⟨v0, hv0, h⟩ := bind_some h
  obtain ⟨v1, hv1, h⟩ := bind_some h
  obtain ⟨v2, hv2, h⟩ := bind_some h
  obtain ⟨v3, hv3, h⟩ := bind_some h
  replace h := Option.some.inj h; subst h
  exact x_end 18 [(5, .call [] [] (.agg [i64 v0.1, i64 v0.2.1, i64 v0.2.2]) []), (1, .call [] [] (.agg [i64 v1.1, i64 v1.2.1, i64 v1.2.2]) []), (1, .call [] [] (.agg [i64 v2.1, i64 v2.2.1, i64 v2.2.2]) []), (0, .call [] [] (i64 v3) [])] [] (ocons (Timpl_normal (Y := Y) a0 _ hv0) (ocons (Timpl_normal (Y := Y) a1 _ hv1) (ocons (Timpl_normal (Y := Y) a2 _ hv2) (ocons (Timpl_det (Y := Y) v0 v1 v2 _ hv3) onil)))) onil (by kernel_rfl)
/-! impl.clash4 -/
def Dimpl_clash4 (n : Nat) (a0 : Pl) (a1 : Pl) (a2 : Pl) (a3 : Pl) : Option Bool :=
  (Dimpl_det3 a1 a2 a3).bind fun v0 => (Dimpl_det3 a0 a2 a3).bind fun v1 => (Dimpl_det3 a0 a1 a3).bind fun v2 => (Dimpl_det3 a0 a1 a2).bind fun v3 => (Dimpl_weighs n [v0, w64 (0 - v1), v2, w64 (0 - v3)] [a0.D, a1.D, a2.D, a3.D]).bind fun v4 => some v4
theorem Timpl_clash4 {Y} (n : Nat) (a0 : Pl) (a1 : Pl) (a2 : Pl) (a3 : Pl) (r : Bool) (h : Dimpl_clash4 n a0 a1 a2 a3 = some r) : Big Try.prog H Y (.call 124 [.agg [i64 a0.A, i64 a0.B, i64 a0.C, i64 a0.D], .agg [i64 a1.A, i64 a1.B, i64 a1.C, i64 a1.D], .agg [i64 a2.A, i64 a2.B, i64 a2.C, i64 a2.D], .agg [i64 a3.A, i64 a3.B, i64 a3.C, i64 a3.D]] (lk []) (bl r) (lk [])) := by
  unfold Dimpl_clash4 at h
  refine x_call (fn := Try.f124) (c := bodyOf Try.f124) (bs0 := []) Try.func124 (by kernel_rfl) (by kernel_rfl) ?_
  obtain ⟨v0, hv0, h⟩ := bind_some h
  obtain ⟨v1, hv1, h⟩ := bind_some h
  obtain ⟨v2, hv2, h⟩ := bind_some h
  obtain ⟨v3, hv3, h⟩ := bind_some h
  obtain ⟨v4, hv4, h⟩ := bind_some h
  replace h := Option.some.inj h; subst h
  exact x_end 46 [(8, .call [] [] (i64 v0) []), (3, .call [] [] (i64 v1) []), (4, .call [] [] (i64 v2) []), (3, .call [] [] (i64 v3) []), (13, .call [] [(eInt).f [a0.D, a1.D, a2.D, a3.D], (eInt).f [v0, w64 (0 - v1), v2, w64 (0 - v3)]] (bl v4) [])] [] (ocons (Timpl_det3 (Y := Y) a1 a2 a3 _ hv0) (ocons (Timpl_det3 (Y := Y) a0 a2 a3 _ hv1) (ocons (Timpl_det3 (Y := Y) a0 a1 a3 _ hv2) (ocons (Timpl_det3 (Y := Y) a0 a1 a2 _ hv3) (ocons (Timpl_weighs (Y := Y) n [v0, w64 (0 - v1), v2, w64 (0 - v3)] [a0.D, a1.D, a2.D, a3.D] _ hv4) (ocons (len_row (L := [v0, w64 (0 - v1), v2, w64 (0 - v3)]) eInt) (ocons (Enc.share eInt eInt sInt [v0, w64 (0 - v1), v2, w64 (0 - v3)]) (ocons (len_row (L := [a0.D, a1.D, a2.D, a3.D]) eInt) (ocons (Enc.share eInt eInt sInt [a0.D, a1.D, a2.D, a3.D]) onil))))))))) onil (by kernel_rfl)
/-! impl.room -/
def Dimpl_room_0 (n : Nat) (rec1 : Int → Option Bool) (_rec0 : Int → Option Bool) (_t13 : Int) (_t23 : List Pl) (_t24 b6_0 b6_1 b6_2 b6_3 : Int) (_t0 : List Pl) (_t11 : List Pl) (_t12 b3_0 b3_1 b3_2 b3_3 t25 : Int) (t36 : List Pl) (t37 b8_0 b8_1 b8_2 b8_3 : Int) (rec2 : Int → Option Bool) (a : Int) : Option Bool :=
  match a with
  | t38 => frk (decide (t38 < t37)) ((lget t36 t38).bind fun v6 => (Dimpl_clash4 n v6 (Pl.mk b8_0 b8_1 b8_2 b8_3) (Pl.mk b6_0 b6_1 b6_2 b6_3) (Pl.mk b3_0 b3_1 b3_2 b3_3)).bind fun v7 => frk v7 (some false) (rec2 (w64 (t38 + 1)))) (rec1 (w64 (t25 + 1)))
theorem Timpl_room_0 {Y} (n : Nat) (rec1 : Int → Option Bool) (rec0 : Int → Option Bool) (t13 : Int) (t23 : List Pl) (t24 b6_0 b6_1 b6_2 b6_3 : Int) (t0 : List Pl) (t11 : List Pl) (t12 b3_0 b3_1 b3_2 b3_3 : Int) (hrec1 : ∀ (a : Int) (r : Bool), rec1 a = some r → Wk Try.prog H Y 99 [.code (cp [1, 0, 1, 0, 0, 1, 1, 0, 0, 1, 1, 1, 0] (bodyOf Try.f99)), .blk 2, .blk 1, .code (cp [1, 0, 1, 0, 0, 1, 1, 1] (bodyOf Try.f99)), .lp (cp [1, 0, 1, 0] (bodyOf Try.f99)), .blk 0, .code (cp [1, 1] (bodyOf Try.f99))] (FinX Try.prog Try.f99 [] (bl r) []) ⟨[(0, .sl false 4 t0.length ((ePl).f t0)), (3, .ptr 3 0), (6, .ptr 6 0), (11, .sl false 4 t11.length ((ePl).f t11)), (12, i64 t12), (13, i64 t13), (23, .sl false 4 t23.length ((ePl).f t23)), (24, i64 t24), (25, i64 a)], [(3, ⟨true, 0, [i64 b3_0, i64 b3_1, i64 b3_2, i64 b3_3]⟩), (6, ⟨true, 0, [i64 b6_0, i64 b6_1, i64 b6_2, i64 b6_3]⟩)]⟩) (_hrec0 : ∀ (a : Int) (r : Bool), rec0 a = some r → Wk Try.prog H Y 99 [.code (cp [1, 0, 1, 0] (bodyOf Try.f99)), .blk 0, .code (cp [1, 1] (bodyOf Try.f99))] (FinX Try.prog Try.f99 [] (bl r) []) ⟨[(0, .sl false 4 t0.length ((ePl).f t0)), (3, .ptr 3 0), (11, .sl false 4 t11.length ((ePl).f t11)), (12, i64 t12), (13, i64 a)], [(3, ⟨true, 0, [i64 b3_0, i64 b3_1, i64 b3_2, i64 b3_3]⟩)]⟩) (t25 : Int) (t36 : List Pl) (t37 b8_0 b8_1 b8_2 b8_3 : Int) : ∀ (m : Nat) (a : Int) (r : Bool), loopN (Dimpl_room_0 n rec1 rec0 t13 t23 t24 b6_0 b6_1 b6_2 b6_3 t0 t11 t12 b3_0 b3_1 b3_2 b3_3 t25 t36 t37 b8_0 b8_1 b8_2 b8_3) m a = some r → Wk Try.prog H Y 99 [.code (cp [1, 0, 1, 0, 0, 1, 1, 0, 0, 1, 1, 1, 0, 0, 1, 1, 0, 0, 1, 1, 1, 0] (bodyOf Try.f99)), .blk 4, .blk 3, .code (cp [1, 0, 1, 0, 0, 1, 1, 0, 0, 1, 1, 1, 0, 0, 1, 1, 1] (bodyOf Try.f99)), .lp (cp [1, 0, 1, 0, 0, 1, 1, 0, 0, 1, 1, 1, 0] (bodyOf Try.f99)), .blk 2, .blk 1, .code (cp [1, 0, 1, 0, 0, 1, 1, 1] (bodyOf Try.f99)), .lp (cp [1, 0, 1, 0] (bodyOf Try.f99)), .blk 0, .code (cp [1, 1] (bodyOf Try.f99))] (FinX Try.prog Try.f99 [] (bl r) []) ⟨[(0, .sl false 4 t0.length ((ePl).f t0)), (3, .ptr 3 0), (6, .ptr 6 0), (8, .ptr 8 0), (11, .sl false 4 t11.length ((ePl).f t11)), (12, i64 t12), (13, i64 t13), (23, .sl false 4 t23.length ((ePl).f t23)), (24, i64 t24), (25, i64 t25), (36, .sl false 4 t36.length ((ePl).f t36)), (37, i64 t37), (38, i64 a)], [(3, ⟨true, 0, [i64 b3_0, i64 b3_1, i64 b3_2, i64 b3_3]⟩), (6, ⟨true, 0, [i64 b6_0, i64 b6_1, i64 b6_2, i64 b6_3]⟩), (8, ⟨true, 0, [i64 b8_0, i64 b8_1, i64 b8_2, i64 b8_3]⟩)]⟩ := by
  refine loopN_ind (fun _rec2 hrec2 a r h => ?_)
  obtain ⟨t38, rfl⟩ : ∃ x, x = a := ⟨a, rfl⟩
  unfold Dimpl_room_0 at h
  refine x_frk 6 [] onil h (by kernel_rfl) (fun h => ?_) (fun h => ?_)
  · obtain ⟨v6, hv6, h⟩ := bind_some h
    obtain ⟨v7, hv7, h⟩ := bind_some h
    refine x_frk 18 [(0, .val (.cptr (ePl.c v6 ++ (ePl).f ((t36).drop (Int.toNat t38 + 1))))), (7, .call [] [] (bl v7) [])] (ocons (ix ePl hv6) (ocons (Timpl_clash4 (Y := Y) n v6 (Pl.mk b8_0 b8_1 b8_2 b8_3) (Pl.mk b6_0 b6_1 b6_2 b6_3) (Pl.mk b3_0 b3_1 b3_2 b3_3) _ hv7) onil)) h (by kernel_rfl) (fun h => ?_) (fun h => ?_)
    · replace h := Option.some.inj h; subst h
      exact x_end 4 [] [] onil onil (by kernel_rfl)
    · exact x_to 7 [] onil (hrec2 (w64 (t38 + 1)) r h) (by kernel_rfl)
  · exact x_to 7 [] onil (hrec1 (w64 (t25 + 1)) r h) (by kernel_rfl)
def Dimpl_room_1 (n : Nat) (rec0 : Int → Option Bool) (t0 : List Pl) (t11 : List Pl) (t12 b3_0 b3_1 b3_2 b3_3 t13 : Int) (t23 : List Pl) (t24 b6_0 b6_1 b6_2 b6_3 : Int) (rec1 : Int → Option Bool) (a : Int) : Option Bool :=
  match a with
  | t25 => frk (decide (t25 < t24)) ((lget t23 t25).bind fun v3 => (Dimpl_clash3 n v3 (Pl.mk b6_0 b6_1 b6_2 b6_3) (Pl.mk b3_0 b3_1 b3_2 b3_3)).bind fun v4 => frk v4 (some false) ((lsl t0 0 t25).bind fun v5 => loopN (Dimpl_room_0 n rec1 rec0 t13 t23 t24 b6_0 b6_1 b6_2 b6_3 t0 t11 t12 b3_0 b3_1 b3_2 b3_3 t25 v5 (v5.length : Int) v3.A v3.B v3.C v3.D) n 0)) (rec0 (w64 (t13 + 1)))
theorem Timpl_room_1 {Y} (n : Nat) (rec0 : Int → Option Bool) (t0 : List Pl) (t11 : List Pl) (t12 b3_0 b3_1 b3_2 b3_3 : Int) (hrec0 : ∀ (a : Int) (r : Bool), rec0 a = some r → Wk Try.prog H Y 99 [.code (cp [1, 0, 1, 0] (bodyOf Try.f99)), .blk 0, .code (cp [1, 1] (bodyOf Try.f99))] (FinX Try.prog Try.f99 [] (bl r) []) ⟨[(0, .sl false 4 t0.length ((ePl).f t0)), (3, .ptr 3 0), (11, .sl false 4 t11.length ((ePl).f t11)), (12, i64 t12), (13, i64 a)], [(3, ⟨true, 0, [i64 b3_0, i64 b3_1, i64 b3_2, i64 b3_3]⟩)]⟩) (t13 : Int) (t23 : List Pl) (t24 b6_0 b6_1 b6_2 b6_3 : Int) : ∀ (m : Nat) (a : Int) (r : Bool), loopN (Dimpl_room_1 n rec0 t0 t11 t12 b3_0 b3_1 b3_2 b3_3 t13 t23 t24 b6_0 b6_1 b6_2 b6_3) m a = some r → Wk Try.prog H Y 99 [.code (cp [1, 0, 1, 0, 0, 1, 1, 0, 0, 1, 1, 1, 0] (bodyOf Try.f99)), .blk 2, .blk 1, .code (cp [1, 0, 1, 0, 0, 1, 1, 1] (bodyOf Try.f99)), .lp (cp [1, 0, 1, 0] (bodyOf Try.f99)), .blk 0, .code (cp [1, 1] (bodyOf Try.f99))] (FinX Try.prog Try.f99 [] (bl r) []) ⟨[(0, .sl false 4 t0.length ((ePl).f t0)), (3, .ptr 3 0), (6, .ptr 6 0), (11, .sl false 4 t11.length ((ePl).f t11)), (12, i64 t12), (13, i64 t13), (23, .sl false 4 t23.length ((ePl).f t23)), (24, i64 t24), (25, i64 a)], [(3, ⟨true, 0, [i64 b3_0, i64 b3_1, i64 b3_2, i64 b3_3]⟩), (6, ⟨true, 0, [i64 b6_0, i64 b6_1, i64 b6_2, i64 b6_3]⟩)]⟩ := by
  refine loopN_ind (fun rec1 hrec1 a r h => ?_)
  obtain ⟨t25, rfl⟩ : ∃ x, x = a := ⟨a, rfl⟩
  unfold Dimpl_room_1 at h
  refine x_frk 6 [] onil h (by kernel_rfl) (fun h => ?_) (fun h => ?_)
  · obtain ⟨v3, hv3, h⟩ := bind_some h
    obtain ⟨v4, hv4, h⟩ := bind_some h
    refine x_frk 20 [(1, .val (.cptr (ePl.c v3 ++ (ePl).f ((t23).drop (Int.toNat t25 + 1))))), (7, .call [] [] (bl v4) [])] (ocons (ix ePl hv3) (ocons (Timpl_clash3 (Y := Y) n v3 (Pl.mk b6_0 b6_1 b6_2 b6_3) (Pl.mk b3_0 b3_1 b3_2 b3_3) _ hv4) onil)) h (by kernel_rfl) (fun h => ?_) (fun h => ?_)
    · replace h := Option.some.inj h; subst h
      exact x_end 4 [] [] onil onil (by kernel_rfl)
    · obtain ⟨v5, hv5, h⟩ := bind_some h
      exact x_to 10 [(2, .val (.sl false 4 v5.length ((ePl).f v5)))] (ocons (slF ePl hv5) onil) (Timpl_room_0 n rec1 rec0 t13 t23 t24 b6_0 b6_1 b6_2 b6_3 t0 t11 t12 b3_0 b3_1 b3_2 b3_3 hrec1 hrec0 t25 v5 (v5.length : Int) v3.A v3.B v3.C v3.D n 0 r h) (by kernel_rfl)
  · exact x_to 7 [] onil (hrec0 (w64 (t13 + 1)) r h) (by kernel_rfl)
def Dimpl_room_2 (n : Nat) (t0 : List Pl) (t11 : List Pl) (t12 b3_0 b3_1 b3_2 b3_3 : Int) (rec0 : Int → Option Bool) (a : Int) : Option Bool :=
  match a with
  | t13 => frk (decide (t13 < t12)) ((lget t11 t13).bind fun v0 => (Dimpl_clash2 n v0 (Pl.mk b3_0 b3_1 b3_2 b3_3)).bind fun v1 => frk v1 (some false) ((lsl t0 0 t13).bind fun v2 => loopN (Dimpl_room_1 n rec0 t0 t11 t12 b3_0 b3_1 b3_2 b3_3 t13 v2 (v2.length : Int) v0.A v0.B v0.C v0.D) n 0)) (some true)
theorem Timpl_room_2 {Y} (n : Nat) (t0 : List Pl) (t11 : List Pl) (t12 b3_0 b3_1 b3_2 b3_3 : Int) : ∀ (m : Nat) (a : Int) (r : Bool), loopN (Dimpl_room_2 n t0 t11 t12 b3_0 b3_1 b3_2 b3_3) m a = some r → Wk Try.prog H Y 99 [.code (cp [1, 0, 1, 0] (bodyOf Try.f99)), .blk 0, .code (cp [1, 1] (bodyOf Try.f99))] (FinX Try.prog Try.f99 [] (bl r) []) ⟨[(0, .sl false 4 t0.length ((ePl).f t0)), (3, .ptr 3 0), (11, .sl false 4 t11.length ((ePl).f t11)), (12, i64 t12), (13, i64 a)], [(3, ⟨true, 0, [i64 b3_0, i64 b3_1, i64 b3_2, i64 b3_3]⟩)]⟩ := by
  refine loopN_ind (fun rec0 hrec0 a r h => ?_)
  obtain ⟨t13, rfl⟩ : ∃ x, x = a := ⟨a, rfl⟩
  unfold Dimpl_room_2 at h
  refine x_frk 6 [] onil h (by kernel_rfl) (fun h => ?_) (fun h => ?_)
  · obtain ⟨v0, hv0, h⟩ := bind_some h
    obtain ⟨v1, hv1, h⟩ := bind_some h
    refine x_frk 19 [(1, .val (.cptr (ePl.c v0 ++ (ePl).f ((t11).drop (Int.toNat t13 + 1))))), (6, .call [] [] (bl v1) [])] (ocons (ix ePl hv0) (ocons (Timpl_clash2 (Y := Y) n v0 (Pl.mk b3_0 b3_1 b3_2 b3_3) _ hv1) onil)) h (by kernel_rfl) (fun h => ?_) (fun h => ?_)
    · replace h := Option.some.inj h; subst h
      exact x_end 4 [] [] onil onil (by kernel_rfl)
    · obtain ⟨v2, hv2, h⟩ := bind_some h
      exact x_to 10 [(2, .val (.sl false 4 v2.length ((ePl).f v2)))] (ocons (slF ePl hv2) onil) (Timpl_room_1 n rec0 t0 t11 t12 b3_0 b3_1 b3_2 b3_3 hrec0 t13 v2 (v2.length : Int) v0.A v0.B v0.C v0.D n 0 r h) (by kernel_rfl)
  · replace h := Option.some.inj h; subst h
    exact x_end 5 [] [] onil onil (by kernel_rfl)
def Dimpl_room (n : Nat) (a0 : (List Pl)) (a1 : Pl) : Option Bool :=
  loopN (Dimpl_room_2 n a0 a0 (a0.length : Int) a1.A a1.B a1.C a1.D) n 0
theorem Timpl_room {Y} (n : Nat) (a0 : (List Pl)) (a1 : Pl) (r : Bool) (h : Dimpl_room n a0 a1 = some r) : Big Try.prog H Y (.call 99 [.sl false 4 a0.length ((ePl).f a0), .agg [i64 a1.A, i64 a1.B, i64 a1.C, i64 a1.D]] (lk []) (bl r) (lk [])) := by
  unfold Dimpl_room at h
  refine x_call (fn := Try.f99) (c := bodyOf Try.f99) (bs0 := []) Try.func99 (by kernel_rfl) (by kernel_rfl) ?_
  exact x_to 13 [] onil (Timpl_room_2 n a0 a0 (a0.length : Int) a1.A a1.B a1.C a1.D n 0 r h) (by kernel_rfl)
/-! impl.open -/
def Dimpl_open_0 (n : Nat) (t0 : List Pl) (t5 : List Pl) (t6 : Int) (rec0 : Int → Option Bool) (a : Int) : Option Bool :=
  match a with
  | t7 => frk (decide (t7 < t6)) ((lget t5 t7).bind fun v0 => (lsl t0 0 t7).bind fun v1 => (Dimpl_room n v1 v0).bind fun v2 => frk (!v2) (some false) (rec0 (w64 (t7 + 1)))) (some true)
theorem Timpl_open_0 {Y} (n : Nat) (t0 : List Pl) (t5 : List Pl) (t6 : Int) : ∀ (m : Nat) (a : Int) (r : Bool), loopN (Dimpl_open_0 n t0 t5 t6) m a = some r → Wk Try.prog H Y 65 [.code (cp [1, 0, 1, 0] (bodyOf Try.f65)), .blk 0, .code (cp [1, 1] (bodyOf Try.f65))] (FinX Try.prog Try.f65 [] (bl r) []) ⟨[(0, .sl false 4 t0.length ((ePl).f t0)), (5, .sl false 4 t5.length ((ePl).f t5)), (6, i64 t6), (7, i64 a)], []⟩ := by
  refine loopN_ind (fun _rec0 hrec0 a r h => ?_)
  obtain ⟨t7, rfl⟩ : ∃ x, x = a := ⟨a, rfl⟩
  unfold Dimpl_open_0 at h
  refine x_frk 6 [] onil h (by kernel_rfl) (fun h => ?_) (fun h => ?_)
  · obtain ⟨v0, hv0, h⟩ := bind_some h
    obtain ⟨v1, hv1, h⟩ := bind_some h
    obtain ⟨v2, hv2, h⟩ := bind_some h
    refine x_frk 21 [(1, .val (.cptr (ePl.c v0 ++ (ePl).f ((t5).drop (Int.toNat t7 + 1))))), (6, .val (.sl false 4 v1.length ((ePl).f v1))), (1, .call [] [] (bl v2) [])] (ocons (ix ePl hv0) (ocons (slF ePl hv1) (ocons (Timpl_room (Y := Y) n v1 v0 _ hv2) onil))) h (by kernel_rfl) (fun h => ?_) (fun h => ?_)
    · replace h := Option.some.inj h; subst h
      exact x_end 4 [] [] onil onil (by kernel_rfl)
    · exact x_to 7 [] onil (hrec0 (w64 (t7 + 1)) r h) (by kernel_rfl)
  · replace h := Option.some.inj h; subst h
    exact x_end 5 [] [] onil onil (by kernel_rfl)
def Dimpl_open (n : Nat) (a0 : (List Pl)) : Option Bool :=
  loopN (Dimpl_open_0 n a0 a0 (a0.length : Int)) n 0
theorem Timpl_open {Y} (n : Nat) (a0 : (List Pl)) (r : Bool) (h : Dimpl_open n a0 = some r) : Big Try.prog H Y (.call 65 [.sl false 4 a0.length ((ePl).f a0)] (lk []) (bl r) (lk [])) := by
  unfold Dimpl_open at h
  refine x_call (fn := Try.f65) (c := bodyOf Try.f65) (bs0 := []) Try.func65 (by kernel_rfl) (by kernel_rfl) ?_
  exact x_to 12 [] onil (Timpl_open_0 n a0 a0 (a0.length : Int) n 0 r h) (by kernel_rfl)
/-! impl.flip -/
def Dimpl_flip (a0 : Pl) : Option Pl :=
  some (Pl.mk (w64 (0 - a0.A)) (w64 (0 - a0.B)) (w64 (0 - a0.C)) (w64 (0 - a0.D)))
theorem Timpl_flip {Y} (a0 : Pl) (r : Pl) (h : Dimpl_flip a0 = some r) : Big Try.prog H Y (.call 100 [.agg [i64 a0.A, i64 a0.B, i64 a0.C, i64 a0.D]] (lk []) (.agg [i64 r.A, i64 r.B, i64 r.C, i64 r.D]) (lk [])) := by
  unfold Dimpl_flip at h
  refine x_call (fn := Try.f100) (c := bodyOf Try.f100) (bs0 := []) Try.func100 (by kernel_rfl) (by kernel_rfl) ?_
  replace h := Option.some.inj h; subst h
  exact x_end 22 [] [] onil onil (by kernel_rfl)
/-! impl.Leaf -/
def Dimpl_Leaf (a0 : Bool) : Option Sol :=
  some (Sol.mk a0 (Pl.mk 0 0 0 0) [])
theorem Timpl_Leaf {Y} (a0 : Bool) (r : Sol) (h : Dimpl_Leaf a0 = some r) : Big Try.prog H Y (.call 57 [bl a0] (lk []) (.agg [bl r.inn, i64 r.pl.A, i64 r.pl.B, i64 r.pl.C, i64 r.pl.D, .sl true 6 r.kids.length ((eSol true).f r.kids)]) (lk [])) := by
  unfold Dimpl_Leaf at h
  refine x_call (fn := Try.f57) (c := bodyOf Try.f57) (bs0 := []) Try.func57 (by kernel_rfl) (by kernel_rfl) ?_
  replace h := Option.some.inj h; subst h
  exact x_end 10 [] [(true, 6)] onil onil (by kernel_rfl)
/-! impl.node -/
def Dimpl_nodeo1o2 (a0 : Pl) (a1 : Sol) (a2 : Sol) : Option Sol :=
  some (Sol.mk false a0 [a1, a2])
theorem Timpl_nodeo1o2 {Y} (a0 : Pl) (a1 : Sol) (a2 : Sol) (r : Sol) (h : Dimpl_nodeo1o2 a0 a1 a2 = some r) : Big Try.prog H Y (.call 90 [.agg [i64 a0.A, i64 a0.B, i64 a0.C, i64 a0.D], .agg [bl a1.inn, i64 a1.pl.A, i64 a1.pl.B, i64 a1.pl.C, i64 a1.pl.D, .sl true 6 a1.kids.length ((eSol true).f a1.kids)], .agg [bl a2.inn, i64 a2.pl.A, i64 a2.pl.B, i64 a2.pl.C, i64 a2.pl.D, .sl true 6 a2.kids.length ((eSol true).f a2.kids)]] (lk []) (.agg [bl r.inn, i64 r.pl.A, i64 r.pl.B, i64 r.pl.C, i64 r.pl.D, .sl true 6 r.kids.length ((eSol true).f r.kids)]) (lk [])) := by
  unfold Dimpl_nodeo1o2 at h
  refine x_call (fn := Try.f90) (c := bodyOf Try.f90) (bs0 := []) Try.func90 (by kernel_rfl) (by kernel_rfl) ?_
  replace h := Option.some.inj h; subst h
  exact x_end 17 [(8, .fixb 10 ⟨true, 6, (eSol true).f [a1, a2]⟩)] [] (ocons (boxSol true true [a1, a2]) onil) (ocons (len_row (L := [a1, a2]) (eSol true)) onil) (by kernel_rfl)
/-! impl.convex -/
def Dimpl_convex_1 (_n : Nat) (_b2_0 : Bool) (_b2_1 _b2_2 _b2_3 _b2_4 : Int) (l503 : List Pl) (rec1 : (Int × Bool × Int × Int × Int × Int × List Sol) → Option Sol) (a : (Int × Bool × Int × Int × Int × Int × List Sol)) : Option Sol :=
  match a with
  | (t7, b6_0, b6_1, b6_2, b6_3, b6_4, b6_5) => frk (decide (t7 ≥ 0)) ((lget l503 t7).bind fun v5 => (Dimpl_Leaf false).bind fun v6 => (Dimpl_nodeo1o2 v5 (Sol.mk b6_0 (Pl.mk b6_1 b6_2 b6_3 b6_4) b6_5) v6).bind fun v7 => rec1 (w64 (t7 - 1), v7.inn, v7.pl.A, v7.pl.B, v7.pl.C, v7.pl.D, v7.kids)) (some (Sol.mk b6_0 (Pl.mk b6_1 b6_2 b6_3 b6_4) b6_5))
theorem Timpl_convex_1 {Y} (n : Nat) (b2_0 : Bool) (b2_1 b2_2 b2_3 b2_4 : Int) (l503 : List Pl) : ∀ (m : Nat) (a : (Int × Bool × Int × Int × Int × Int × List Sol)) (r : Sol), loopN (Dimpl_convex_1 n b2_0 b2_1 b2_2 b2_3 b2_4 l503) m a = some r → Wk Try.prog H Y 66 [.code (cp [1, 1, 1, 1, 0, 1, 0] (bodyOf Try.f66)), .blk 2, .code (cp [1, 1, 1, 1, 1] (bodyOf Try.f66))] (FinX Try.prog Try.f66 [] (.agg [bl r.inn, i64 r.pl.A, i64 r.pl.B, i64 r.pl.C, i64 r.pl.D, .sl true 6 r.kids.length ((eSol true).f r.kids)]) []) ⟨[(2, .ptr 2 0), (3, .msl 503 l503.length), (6, .ptr 6 0), (7, i64 a.1)], [(2, ⟨true, 0, [bl b2_0, i64 b2_1, i64 b2_2, i64 b2_3, i64 b2_4, .nil]⟩), (6, ⟨true, 0, [bl a.2.1, i64 a.2.2.1, i64 a.2.2.2.1, i64 a.2.2.2.2.1, i64 a.2.2.2.2.2.1, .sl true 6 a.2.2.2.2.2.2.length ((eSol true).f a.2.2.2.2.2.2)]⟩), (503, ⟨true, 4, (ePl).f l503⟩)]⟩ := by
  refine loopN_ind (fun _rec1 hrec1 a r h => ?_)
  obtain ⟨t7, b6_0, b6_1, b6_2, b6_3, b6_4, b6_5⟩ := a
  unfold Dimpl_convex_1 at h
  refine x_frk 7 [] onil h (by kernel_rfl) (fun h => ?_) (fun h => ?_)
  · obtain ⟨v5, hv5, h⟩ := bind_some h
    obtain ⟨v6, hv6, h⟩ := bind_some h
    obtain ⟨v7, hv7, h⟩ := bind_some h
    exact x_to 20 [(2, .unit), (0, .cells [i64 v5.A, i64 v5.B, i64 v5.C, i64 v5.D]), (1, .call [] [] (.agg [bl v6.inn, i64 v6.pl.A, i64 v6.pl.B, i64 v6.pl.C, i64 v6.pl.D, .sl true 6 v6.kids.length ((eSol true).f v6.kids)]) []), (0, .call [] [] (.agg [bl v7.inn, i64 v7.pl.A, i64 v7.pl.B, i64 v7.pl.C, i64 v7.pl.D, .sl true 6 v7.kids.length ((eSol true).f v7.kids)]) [])] (ocons (inr hv5) (ocons (ldA ePl hv5 0 4 rfl rfl) (ocons (Timpl_Leaf (Y := Y) false _ hv6) (ocons (Timpl_nodeo1o2 (Y := Y) v5 (Sol.mk b6_0 (Pl.mk b6_1 b6_2 b6_3 b6_4) b6_5) v6 _ hv7) onil)))) (hrec1 (w64 (t7 - 1), v7.inn, v7.pl.A, v7.pl.B, v7.pl.C, v7.pl.D, v7.kids) r h) (by kernel_rfl)
  · replace h := Option.some.inj h; subst h
    exact x_end 6 [] [] onil onil (by kernel_rfl)
def Dimpl_convex_0 (n : Nat) (b2_0 : Bool) (b2_1 b2_2 b2_3 b2_4 : Int) (l503 : List Pl) : Option Sol :=
  (Dimpl_Leaf true).bind fun v4 => loopN (Dimpl_convex_1 n b2_0 b2_1 b2_2 b2_3 b2_4 l503) n (w64 ((l503.length : Int) - 1), v4.inn, v4.pl.A, v4.pl.B, v4.pl.C, v4.pl.D, v4.kids)
theorem Timpl_convex_0 {Y} (n : Nat) (b2_0 : Bool) (b2_1 b2_2 b2_3 b2_4 : Int) (l503 : List Pl) (r : Sol) (h : Dimpl_convex_0 n b2_0 b2_1 b2_2 b2_3 b2_4 l503 = some r) : Wk Try.prog H Y 66 [.code (cp [1, 1, 1, 0] (bodyOf Try.f66)), .code (cp [1, 1, 1, 1] (bodyOf Try.f66))] (FinX Try.prog Try.f66 [] (.agg [bl r.inn, i64 r.pl.A, i64 r.pl.B, i64 r.pl.C, i64 r.pl.D, .sl true 6 r.kids.length ((eSol true).f r.kids)]) []) ⟨[(2, .ptr 2 0), (3, .msl 503 l503.length)], [(2, ⟨true, 0, [bl b2_0, i64 b2_1, i64 b2_2, i64 b2_3, i64 b2_4, .nil]⟩), (503, ⟨true, 4, (ePl).f l503⟩)]⟩ := by
  unfold Dimpl_convex_0 at h
  obtain ⟨v4, hv4, h⟩ := bind_some h
  exact x_to 14 [(0, .call [] [] (.agg [bl v4.inn, i64 v4.pl.A, i64 v4.pl.B, i64 v4.pl.C, i64 v4.pl.D, .sl true 6 v4.kids.length ((eSol true).f v4.kids)]) [])] (ocons (Timpl_Leaf (Y := Y) true _ hv4) onil) (Timpl_convex_1 n b2_0 b2_1 b2_2 b2_3 b2_4 l503 n (w64 ((l503.length : Int) - 1), v4.inn, v4.pl.A, v4.pl.B, v4.pl.C, v4.pl.D, v4.kids) r h) (by kernel_rfl)
def Dimpl_convex_2 (n : Nat) (t8 : List Pl) (t9 : Int) (b2_0 : Bool) (b2_1 b2_2 b2_3 b2_4 : Int) (rec0 : (Int × List Pl) → Option Sol) (a : (Int × List Pl)) : Option Sol :=
  match a with
  | (t10, l503) => frk (decide (t10 < t9)) ((lget t8 t10).bind fun v0 => (Dimpl_flip v0).bind fun v1 => (Dimpl_room n l503 v1).bind fun v2 => frk v2 (chk (apB 32 (l503.length + 1)) (rec0 (w64 (t10 + 1), (l503 ++ [v0])))) (rec0 (w64 (t10 + 1), l503))) (Dimpl_convex_0 n b2_0 b2_1 b2_2 b2_3 b2_4 l503)
theorem Timpl_convex_2 {Y} (n : Nat) (t8 : List Pl) (t9 : Int) (b2_0 : Bool) (b2_1 b2_2 b2_3 b2_4 : Int) : ∀ (m : Nat) (a : (Int × List Pl)) (r : Sol), loopN (Dimpl_convex_2 n t8 t9 b2_0 b2_1 b2_2 b2_3 b2_4) m a = some r → Wk Try.prog H Y 66 [.code (cp [1, 1, 0, 1, 0] (bodyOf Try.f66)), .blk 0, .code (cp [1, 1, 1] (bodyOf Try.f66))] (FinX Try.prog Try.f66 [] (.agg [bl r.inn, i64 r.pl.A, i64 r.pl.B, i64 r.pl.C, i64 r.pl.D, .sl true 6 r.kids.length ((eSol true).f r.kids)]) []) ⟨[(2, .ptr 2 0), (3, .msl 503 a.2.length), (8, .sl false 4 t8.length ((ePl).f t8)), (9, i64 t9), (10, i64 a.1)], [(2, ⟨true, 0, [bl b2_0, i64 b2_1, i64 b2_2, i64 b2_3, i64 b2_4, .nil]⟩), (503, ⟨true, 4, (ePl).f a.2⟩)]⟩ := by
  refine loopN_ind (fun _rec0 hrec0 a r h => ?_)
  obtain ⟨t10, l503⟩ := a
  unfold Dimpl_convex_2 at h
  refine x_frk 6 [] onil h (by kernel_rfl) (fun h => ?_) (fun h => ?_)
  · obtain ⟨v0, hv0, h⟩ := bind_some h
    obtain ⟨v1, hv1, h⟩ := bind_some h
    obtain ⟨v2, hv2, h⟩ := bind_some h
    refine x_frk 17 [(0, .val (.cptr (ePl.c v0 ++ (ePl).f ((t8).drop (Int.toNat t10 + 1))))), (5, .call [] [] (.agg [i64 v1.A, i64 v1.B, i64 v1.C, i64 v1.D]) []), (0, .call [] [(ePl).f l503] (bl v2) [])] (ocons (ix ePl hv0) (ocons (Timpl_flip (Y := Y) v0 _ hv1) (ocons (Timpl_room (Y := Y) n l503 v1 _ hv2) (ocons (len_row (L := l503) ePl) (ocons (Enc.share ePl ePl sPl l503) onil))))) h (by kernel_rfl) (fun h => ?_) (fun h => ?_)
    · obtain ⟨c3, h⟩ := chk_some h
      exact x_to 14 [(3, .app false (List.length (l503 ++ [v0])) ((ePl).f (l503 ++ [v0]))), (3, .ren 21 503)] (ocons (len_row' (L := l503) ePl) (ocons (app_one (L := l503) (M := [v0]) ePl c3) (ocons (app_new (L := l503) (M := [v0]) ePl) (ocons (app_m (L := l503) (M := [v0]) ePl rfl) (ocons (len_row' (L := [v0]) ePl) (ocons (Enc.noOwn ePl (fun _ => rfl) [v0]) (ocons (show 21 < 1000 ∧ 503 < 1000 by decide) onil))))))) (hrec0 (w64 (t10 + 1), (l503 ++ [v0])) r h) (by kernel_rfl)
    · exact x_to 7 [] onil (hrec0 (w64 (t10 + 1), l503) r h) (by kernel_rfl)
  · exact x_to 2 [] onil (Timpl_convex_0 n b2_0 b2_1 b2_2 b2_3 b2_4 l503 r h) (by kernel_rfl)
def Dimpl_convex (n : Nat) (a0 : (List Pl)) : Option Sol :=
  loopN (Dimpl_convex_2 n a0 (a0.length : Int) false 0 0 0 0) n (0, [])
theorem Timpl_convex {Y} (n : Nat) (a0 : (List Pl)) (r : Sol) (h : Dimpl_convex n a0 = some r) : Big Try.prog H Y (.call 66 [.sl false 4 a0.length ((ePl).f a0)] (lk []) (.agg [bl r.inn, i64 r.pl.A, i64 r.pl.B, i64 r.pl.C, i64 r.pl.D, .sl true 6 r.kids.length ((eSol true).f r.kids)]) (lk [])) := by
  unfold Dimpl_convex at h
  refine x_call (fn := Try.f66) (c := bodyOf Try.f66) (bs0 := []) Try.func66 (by kernel_rfl) (by kernel_rfl) ?_
  exact x_to 17 [(2, .virt 3 503 4)] (ocons (rflV .nil) (ocons (show 503 < 1000 ∧ 4 ≠ 0 by decide) onil)) (Timpl_convex_2 n a0 (a0.length : Int) false 0 0 0 0 n (0, []) r h) (by kernel_rfl)
/-! impl.Convex -/
def Dimpl_Convex_0 (n : Nat) (t0 : List Pl) (t4 _b2_0 : Bool) (_b2_1 _b2_2 _b2_3 _b2_4 : Int) : Option (Sol × Int) :=
  frk t4 (some ((Sol.mk false (Pl.mk 0 0 0 0) []), 1)) ((Dimpl_open n t0).bind fun v1 => frk (!v1) (some ((Sol.mk false (Pl.mk 0 0 0 0) []), 2)) ((Dimpl_convex n t0).bind fun v2 => some (v2, 0)))
theorem Timpl_Convex_0 {Y} (n : Nat) (t0 : List Pl) (t4 b2_0 : Bool) (b2_1 b2_2 b2_3 b2_4 : Int) (r : (Sol × Int)) (h : Dimpl_Convex_0 n t0 t4 b2_0 b2_1 b2_2 b2_3 b2_4 = some r) : Wk Try.prog H Y 26 [.code (cp [1, 0, 0, 1] (bodyOf Try.f26)), .blk 0, .code (cp [1, 1] (bodyOf Try.f26))] (FinX Try.prog Try.f26 [] (.tup [.agg [bl r.1.inn, i64 r.1.pl.A, i64 r.1.pl.B, i64 r.1.pl.C, i64 r.1.pl.D, .sl true 6 r.1.kids.length ((eSol true).f r.1.kids)], i64 r.2]) []) ⟨[(0, .sl false 4 t0.length ((ePl).f t0)), (2, .ptr 2 0), (4, bl t4)], [(2, ⟨true, 0, [bl b2_0, i64 b2_1, i64 b2_2, i64 b2_3, i64 b2_4, .nil]⟩)]⟩ := by
  unfold Dimpl_Convex_0 at h
  refine x_frk 0 [] onil h (by kernel_rfl) (fun h => ?_) (fun h => ?_)
  · replace h := Option.some.inj h; subst h
    exact x_end 6 [] [(true, 6)] onil onil (by kernel_rfl)
  · obtain ⟨v1, hv1, h⟩ := bind_some h
    refine x_frk 7 [(1, .call [] [] (bl v1) [])] (ocons (Timpl_open (Y := Y) n t0 _ hv1) onil) h (by kernel_rfl) (fun h => ?_) (fun h => ?_)
    · replace h := Option.some.inj h; subst h
      exact x_end 6 [] [(true, 6)] onil onil (by kernel_rfl)
    · obtain ⟨v2, hv2, h⟩ := bind_some h
      replace h := Option.some.inj h; subst h
      exact x_end 9 [(1, .call [] [] (.agg [bl v2.inn, i64 v2.pl.A, i64 v2.pl.B, i64 v2.pl.C, i64 v2.pl.D, .sl true 6 v2.kids.length ((eSol true).f v2.kids)]) [])] [] (ocons (Timpl_convex (Y := Y) n t0 _ hv2) onil) onil (by kernel_rfl)
def Dimpl_Convex (n : Nat) (a0 : (List Pl)) : Option (Sol × Int) :=
  frk (decide ((a0.length : Int) > 24)) (some ((Sol.mk false (Pl.mk 0 0 0 0) []), 1)) ((Dimpl_planesOk n a0).bind fun v0 => Dimpl_Convex_0 n a0 (!v0) false 0 0 0 0)
theorem Timpl_Convex {Y} (n : Nat) (a0 : (List Pl)) (r : (Sol × Int)) (h : Dimpl_Convex n a0 = some r) : Big Try.prog H Y (.call 26 [.sl false 4 a0.length ((ePl).f a0)] (lk []) (.tup [.agg [bl r.1.inn, i64 r.1.pl.A, i64 r.1.pl.B, i64 r.1.pl.C, i64 r.1.pl.D, .sl true 6 r.1.kids.length ((eSol true).f r.1.kids)], i64 r.2]) (lk [])) := by
  unfold Dimpl_Convex at h
  refine x_call (fn := Try.f26) (c := bodyOf Try.f26) (bs0 := []) Try.func26 (by kernel_rfl) (by kernel_rfl) ?_
  refine x_frk 13 [] onil h (by kernel_rfl) (fun h => ?_) (fun h => ?_)
  · replace h := Option.some.inj h; subst h
    exact x_end 13 [] [(true, 6)] onil onil (by kernel_rfl)
  · obtain ⟨v0, hv0, h⟩ := bind_some h
    exact x_to 6 [(1, .call [] [] (bl v0) [])] (ocons (Timpl_planesOk (Y := Y) n a0 _ hv0) onil) (Timpl_Convex_0 n a0 (!v0) false 0 0 0 0 r h) (by kernel_rfl)
/-! spec.l6Right -/
def Dspec_l6Right_0 (n : Nat) (t0 : List Pl) (rec0 : Int → Option Bool) (a : Int) : Option Bool :=
  match a with
  | t3 => frk (decide (t3 < (t0.length : Int))) ((lget t0 t3).bind fun v0 => (Dspec_PlaneOk n v0).bind fun v1 => frk (!v1) (some false) (rec0 (w64 (t3 + 1)))) (some (decide ((t0.length : Int) ≤ 24)))
theorem Tspec_l6Right_0 {Y} (n : Nat) (t0 : List Pl) : ∀ (m : Nat) (a : Int) (r : Bool), loopN (Dspec_l6Right_0 n t0) m a = some r → Wk Try.prog H Y 67 [.code (cp [1, 0, 1, 0] (bodyOf Try.f67)), .blk 0, .code (cp [1, 1] (bodyOf Try.f67))] (FinX Try.prog Try.f67 [] (bl r) []) ⟨[(0, .sl false 4 t0.length ((ePl).f t0)), (3, i64 a)], []⟩ := by
  refine loopN_ind (fun _rec0 hrec0 a r h => ?_)
  obtain ⟨t3, rfl⟩ : ∃ x, x = a := ⟨a, rfl⟩
  unfold Dspec_l6Right_0 at h
  refine x_frk 9 [] onil h (by kernel_rfl) (fun h => ?_) (fun h => ?_)
  · obtain ⟨v0, hv0, h⟩ := bind_some h
    obtain ⟨v1, hv1, h⟩ := bind_some h
    refine x_frk 12 [(2, .val (.cptr (ePl.c v0 ++ (ePl).f ((t0).drop (Int.toNat t3 + 1))))), (1, .call [] [] (bl v1) [])] (ocons (ix ePl hv0) (ocons (Tspec_PlaneOk (Y := Y) n v0 _ hv1) onil)) h (by kernel_rfl) (fun h => ?_) (fun h => ?_)
    · replace h := Option.some.inj h; subst h
      exact x_end 4 [] [] onil onil (by kernel_rfl)
    · exact x_to 8 [] onil (hrec0 (w64 (t3 + 1)) r h) (by kernel_rfl)
  · replace h := Option.some.inj h; subst h
    exact x_end 8 [] [] onil onil (by kernel_rfl)
def Dspec_l6Right (n : Nat) (a0 : (List Pl)) : Option Bool :=
  loopN (Dspec_l6Right_0 n a0) n 0
theorem Tspec_l6Right {Y} (n : Nat) (a0 : (List Pl)) (r : Bool) (h : Dspec_l6Right n a0 = some r) : Big Try.prog H Y (.call 67 [.sl false 4 a0.length ((ePl).f a0)] (lk []) (bl r) (lk [])) := by
  unfold Dspec_l6Right at h
  refine x_call (fn := Try.f67) (c := bodyOf Try.f67) (bs0 := []) Try.func67 (by kernel_rfl) (by kernel_rfl) ?_
  exact x_to 10 [] onil (Tspec_l6Right_0 n a0 n 0 r h) (by kernel_rfl)
/-! spec.l6Open -/
def Dspec_l6Open_0 (n : Nat) (t0 : List Pl) (rec0 : Int → Option Bool) (a : Int) : Option Bool :=
  match a with
  | t3 => frk (decide (t3 < (t0.length : Int))) ((lsl t0 0 t3).bind fun v0 => (lget t0 t3).bind fun v1 => (Dspec_l6With n v0 v1).bind fun v2 => frk v2 (some false) (rec0 (w64 (t3 + 1)))) (some true)
theorem Tspec_l6Open_0 {Y} (n : Nat) (t0 : List Pl) : ∀ (m : Nat) (a : Int) (r : Bool), loopN (Dspec_l6Open_0 n t0) m a = some r → Wk Try.prog H Y 68 [.code (cp [1, 0, 1, 0] (bodyOf Try.f68)), .blk 0, .code (cp [1, 1] (bodyOf Try.f68))] (FinX Try.prog Try.f68 [] (bl r) []) ⟨[(0, .sl false 4 t0.length ((ePl).f t0)), (3, i64 a)], []⟩ := by
  refine loopN_ind (fun _rec0 hrec0 a r h => ?_)
  obtain ⟨t3, rfl⟩ : ∃ x, x = a := ⟨a, rfl⟩
  unfold Dspec_l6Open_0 at h
  refine x_frk 9 [] onil h (by kernel_rfl) (fun h => ?_) (fun h => ?_)
  · obtain ⟨v0, hv0, h⟩ := bind_some h
    obtain ⟨v1, hv1, h⟩ := bind_some h
    obtain ⟨v2, hv2, h⟩ := bind_some h
    refine x_frk 14 [(2, .val (.sl false 4 v0.length ((ePl).f v0))), (2, .val (.cptr (ePl.c v1 ++ (ePl).f ((t0).drop (Int.toNat t3 + 1))))), (1, .call [] [] (bl v2) [])] (ocons (slF ePl hv0) (ocons (ix ePl hv1) (ocons (Tspec_l6With (Y := Y) n v0 v1 _ hv2) onil))) h (by kernel_rfl) (fun h => ?_) (fun h => ?_)
    · replace h := Option.some.inj h; subst h
      exact x_end 4 [] [] onil onil (by kernel_rfl)
    · exact x_to 8 [] onil (hrec0 (w64 (t3 + 1)) r h) (by kernel_rfl)
  · replace h := Option.some.inj h; subst h
    exact x_end 5 [] [] onil onil (by kernel_rfl)
def Dspec_l6Open (n : Nat) (a0 : (List Pl)) : Option Bool :=
  loopN (Dspec_l6Open_0 n a0) n 1
theorem Tspec_l6Open {Y} (n : Nat) (a0 : (List Pl)) (r : Bool) (h : Dspec_l6Open n a0 = some r) : Big Try.prog H Y (.call 68 [.sl false 4 a0.length ((ePl).f a0)] (lk []) (bl r) (lk [])) := by
  unfold Dspec_l6Open at h
  refine x_call (fn := Try.f68) (c := bodyOf Try.f68) (bs0 := []) Try.func68 (by kernel_rfl) (by kernel_rfl) ?_
  exact x_to 10 [] onil (Tspec_l6Open_0 n a0 n 1 r h) (by kernel_rfl)
/-! spec.Leaf -/
def Dspec_Leaf (a0 : Bool) : Option Sol :=
  some (Sol.mk a0 (Pl.mk 0 0 0 0) [])
theorem Tspec_Leaf {Y} (a0 : Bool) (r : Sol) (h : Dspec_Leaf a0 = some r) : Big Try.prog H Y (.call 69 [bl a0] (lk []) (.agg [bl r.inn, i64 r.pl.A, i64 r.pl.B, i64 r.pl.C, i64 r.pl.D, .sl true 6 r.kids.length ((eSol true).f r.kids)]) (lk [])) := by
  unfold Dspec_Leaf at h
  refine x_call (fn := Try.f69) (c := bodyOf Try.f69) (bs0 := []) Try.func69 (by kernel_rfl) (by kernel_rfl) ?_
  replace h := Option.some.inj h; subst h
  exact x_end 10 [] [(true, 6)] onil onil (by kernel_rfl)
/-! spec.l8Path -/
def Dspec_l8Path (a0 : (List Pl)) (a1 : Pl) : Option (List Pl) :=
  chk (apB 32 (0 + a0.length)) (chk (apB 32 (([] ++ a0).length + 1)) (some (([] ++ a0) ++ [a1])))
theorem Tspec_l8Path {Y} (a0 : (List Pl)) (a1 : Pl) (r : (List Pl)) (h : Dspec_l8Path a0 a1 = some r) : Big Try.prog H Y (.call 50 [.sl false 4 a0.length ((ePl).f a0), .agg [i64 a1.A, i64 a1.B, i64 a1.C, i64 a1.D]] (lk []) (.sl true 4 r.length ((ePl).f r)) (lk [])) := by
  unfold Dspec_l8Path at h
  refine x_call (fn := Try.f50) (c := bodyOf Try.f50) (bs0 := []) Try.func50 (by kernel_rfl) (by kernel_rfl) ?_
  obtain ⟨c0, h⟩ := chk_some h
  obtain ⟨c1, h⟩ := chk_some h
  replace h := Option.some.inj h; subst h
  exact x_end 15 [(4, .app false (List.length ([] ++ a0)) ((ePl).f ([] ++ a0))), (2, .app false (List.length (([] ++ a0) ++ [a1])) ((ePl).f (([] ++ a0) ++ [a1])))] [] (ocons (len_row' (L := []) ePl) (ocons (app_one (L := []) (M := a0) ePl c0) (ocons (app_new (L := []) (M := a0) ePl) (ocons (app_m (L := []) (M := a0) ePl rfl) (ocons (len_row' (L := a0) ePl) (ocons (len_row' (L := ([] ++ a0)) ePl) (ocons (app_one (L := ([] ++ a0)) (M := [a1]) ePl c1) (ocons (app_new (L := ([] ++ a0)) (M := [a1]) ePl) (ocons (app_m (L := ([] ++ a0)) (M := [a1]) ePl rfl) (ocons (len_row' (L := [a1]) ePl) (ocons (Enc.noOwn ePl (fun _ => rfl) [a1]) onil))))))))))) (ocons (len_row (L := (([] ++ a0) ++ [a1])) ePl) onil) (by kernel_rfl)
/-! spec.l8Node -/
def Dspec_l8Nodeo1o2 (a0 : Pl) (a1 : Sol) (a2 : Sol) : Option Sol :=
  some (Sol.mk false a0 [a1, a2])
theorem Tspec_l8Nodeo1o2 {Y} (a0 : Pl) (a1 : Sol) (a2 : Sol) (r : Sol) (h : Dspec_l8Nodeo1o2 a0 a1 a2 = some r) : Big Try.prog H Y (.call 84 [.agg [i64 a0.A, i64 a0.B, i64 a0.C, i64 a0.D], .agg [bl a1.inn, i64 a1.pl.A, i64 a1.pl.B, i64 a1.pl.C, i64 a1.pl.D, .sl true 6 a1.kids.length ((eSol true).f a1.kids)], .agg [bl a2.inn, i64 a2.pl.A, i64 a2.pl.B, i64 a2.pl.C, i64 a2.pl.D, .sl true 6 a2.kids.length ((eSol true).f a2.kids)]] (lk []) (.agg [bl r.inn, i64 r.pl.A, i64 r.pl.B, i64 r.pl.C, i64 r.pl.D, .sl true 6 r.kids.length ((eSol true).f r.kids)]) (lk [])) := by
  unfold Dspec_l8Nodeo1o2 at h
  refine x_call (fn := Try.f84) (c := bodyOf Try.f84) (bs0 := []) Try.func84 (by kernel_rfl) (by kernel_rfl) ?_
  replace h := Option.some.inj h; subst h
  exact x_end 17 [(8, .fixb 10 ⟨true, 6, (eSol true).f [a1, a2]⟩)] [] (ocons (boxSol true true [a1, a2]) onil) (ocons (len_row (L := [a1, a2]) (eSol true)) onil) (by kernel_rfl)
/-! spec.l9Convex -/
def Dspec_l9Convex_0 (_n : Nat) (self : ((List Pl) × (List Pl)) → Option Sol) (rec0 : Int → Option Sol) (t0 : List Pl) (t1 : List Pl) (_b4_0 : Bool) (_b4_1 _b4_2 _b4_3 _b4_4 t5 : Int) (t28 : Bool) : Option Sol :=
  frk t28 ((lget t0 t5).bind fun v5 => (lsl t0 (w64 (t5 + 1)) (t0.length : Int)).bind fun v6 => (lget t0 t5).bind fun v7 => (Dspec_l8Path t1 v7).bind fun v8 => (self (v6, v8)).bind fun v9 => (Dspec_Leaf false).bind fun v10 => (Dspec_l8Nodeo1o2 v5 v9 v10).bind fun v11 => some v11) (rec0 (w64 (t5 + 1)))
theorem Tspec_l9Convex_0 {Y} (n : Nat) (self : ((List Pl) × (List Pl)) → Option Sol) (rec0 : Int → Option Sol) (t0 : List Pl) (t1 : List Pl) (b4_0 : Bool) (b4_1 b4_2 b4_3 b4_4 : Int) (hself : ∀ (a : ((List Pl) × (List Pl))) (r : Sol), self a = some r → Big Try.prog H Y (.call 70 [.sl false 4 a.1.length ((ePl).f a.1), .sl false 4 a.2.length ((ePl).f a.2)] (lk []) (.agg [bl r.inn, i64 r.pl.A, i64 r.pl.B, i64 r.pl.C, i64 r.pl.D, .sl true 6 r.kids.length ((eSol true).f r.kids)]) (lk []))) (hrec0 : ∀ (a : Int) (r : Sol), rec0 a = some r → Wk Try.prog H Y 70 [.code (cp [1, 0, 1, 0] (bodyOf Try.f70)), .blk 0, .code (cp [1, 1] (bodyOf Try.f70))] (FinX Try.prog Try.f70 [] (.agg [bl r.inn, i64 r.pl.A, i64 r.pl.B, i64 r.pl.C, i64 r.pl.D, .sl true 6 r.kids.length ((eSol true).f r.kids)]) []) ⟨[(0, .sl false 4 t0.length ((ePl).f t0)), (1, .sl false 4 t1.length ((ePl).f t1)), (4, .ptr 4 0), (5, i64 a)], [(4, ⟨true, 0, [bl b4_0, i64 b4_1, i64 b4_2, i64 b4_3, i64 b4_4, .nil]⟩)]⟩) (t5 : Int) (t28 : Bool) (r : Sol) (h : Dspec_l9Convex_0 n self rec0 t0 t1 b4_0 b4_1 b4_2 b4_3 b4_4 t5 t28 = some r) : Wk Try.prog H Y 70 [.code (cp [1, 0, 1, 0, 0, 1, 0, 0, 1] (bodyOf Try.f70)), .blk 1, .code (cp [1, 0, 1, 0, 0, 1, 1] (bodyOf Try.f70)), .lp (cp [1, 0, 1, 0] (bodyOf Try.f70)), .blk 0, .code (cp [1, 1] (bodyOf Try.f70))] (FinX Try.prog Try.f70 [] (.agg [bl r.inn, i64 r.pl.A, i64 r.pl.B, i64 r.pl.C, i64 r.pl.D, .sl true 6 r.kids.length ((eSol true).f r.kids)]) []) ⟨[(0, .sl false 4 t0.length ((ePl).f t0)), (1, .sl false 4 t1.length ((ePl).f t1)), (4, .ptr 4 0), (5, i64 t5), (28, bl t28)], [(4, ⟨true, 0, [bl b4_0, i64 b4_1, i64 b4_2, i64 b4_3, i64 b4_4, .nil]⟩)]⟩ := by
  unfold Dspec_l9Convex_0 at h
  refine x_frk 0 [] onil h (by kernel_rfl) (fun h => ?_) (fun h => ?_)
  · obtain ⟨v5, hv5, h⟩ := bind_some h
    obtain ⟨v6, hv6, h⟩ := bind_some h
    obtain ⟨v7, hv7, h⟩ := bind_some h
    obtain ⟨v8, hv8, h⟩ := bind_some h
    obtain ⟨v9, hv9, h⟩ := bind_some h
    obtain ⟨v10, hv10, h⟩ := bind_some h
    obtain ⟨v11, hv11, h⟩ := bind_some h
    replace h := Option.some.inj h; subst h
    exact x_end 21 [(2, .val (.cptr (ePl.c v5 ++ (ePl).f ((t0).drop (Int.toNat t5 + 1))))), (4, .val (.sl false 4 v6.length ((ePl).f v6))), (3, .val (.cptr (ePl.c v7 ++ (ePl).f ((t0).drop (Int.toNat t5 + 1))))), (1, .call [] [] (.sl false 4 v8.length ((ePl).f v8)) []), (0, .call [] [] (.agg [bl v9.inn, i64 v9.pl.A, i64 v9.pl.B, i64 v9.pl.C, i64 v9.pl.D, .sl true 6 v9.kids.length ((eSol true).f v9.kids)]) []), (0, .call [] [] (.agg [bl v10.inn, i64 v10.pl.A, i64 v10.pl.B, i64 v10.pl.C, i64 v10.pl.D, .sl true 6 v10.kids.length ((eSol true).f v10.kids)]) []), (0, .call [] [] (.agg [bl v11.inn, i64 v11.pl.A, i64 v11.pl.B, i64 v11.pl.C, i64 v11.pl.D, .sl true 6 v11.kids.length ((eSol true).f v11.kids)]) [])] [] (ocons (ix ePl hv5) (ocons (slF ePl hv6) (ocons (ix ePl hv7) (ocons (shSl (L := v8) ePl ePl sPl (Tspec_l8Path (Y := Y) t1 v7 _ hv8)) (ocons (hself (v6, v8) _ hv9) (ocons (Tspec_Leaf (Y := Y) false _ hv10) (ocons (Tspec_l8Nodeo1o2 (Y := Y) v5 v9 v10 _ hv11) onil))))))) onil (by kernel_rfl)
  · exact x_to 8 [] onil (hrec0 (w64 (t5 + 1)) r h) (by kernel_rfl)
def Dspec_l9Convex_1 (_n : Nat) (_self : ((List Pl) × (List Pl)) → Option Sol) (_b4_0 : Bool) (_b4_1 _b4_2 _b4_3 _b4_4 : Int) : Option Sol :=
  (Dspec_Leaf true).bind fun v12 => some v12
theorem Tspec_l9Convex_1 {Y} (n : Nat) (self : ((List Pl) × (List Pl)) → Option Sol) (_hself : ∀ (a : ((List Pl) × (List Pl))) (r : Sol), self a = some r → Big Try.prog H Y (.call 70 [.sl false 4 a.1.length ((ePl).f a.1), .sl false 4 a.2.length ((ePl).f a.2)] (lk []) (.agg [bl r.inn, i64 r.pl.A, i64 r.pl.B, i64 r.pl.C, i64 r.pl.D, .sl true 6 r.kids.length ((eSol true).f r.kids)]) (lk []))) (b4_0 : Bool) (b4_1 b4_2 b4_3 b4_4 : Int) (r : Sol) (h : Dspec_l9Convex_1 n self b4_0 b4_1 b4_2 b4_3 b4_4 = some r) : Wk Try.prog H Y 70 [.code (cp [1, 1, 0] (bodyOf Try.f70)), .code (cp [1, 1, 1] (bodyOf Try.f70))] (FinX Try.prog Try.f70 [] (.agg [bl r.inn, i64 r.pl.A, i64 r.pl.B, i64 r.pl.C, i64 r.pl.D, .sl true 6 r.kids.length ((eSol true).f r.kids)]) []) ⟨[(4, .ptr 4 0)], [(4, ⟨true, 0, [bl b4_0, i64 b4_1, i64 b4_2, i64 b4_3, i64 b4_4, .nil]⟩)]⟩ := by
  unfold Dspec_l9Convex_1 at h
  obtain ⟨v12, hv12, h⟩ := bind_some h
  replace h := Option.some.inj h; subst h
  exact x_end 4 [(0, .call [] [] (.agg [bl v12.inn, i64 v12.pl.A, i64 v12.pl.B, i64 v12.pl.C, i64 v12.pl.D, .sl true 6 v12.kids.length ((eSol true).f v12.kids)]) [])] [] (ocons (Tspec_Leaf (Y := Y) true _ hv12) onil) onil (by kernel_rfl)
def Dspec_l9Convex_2 (n : Nat) (self : ((List Pl) × (List Pl)) → Option Sol) (t0 : List Pl) (t1 : List Pl) (b4_0 : Bool) (b4_1 b4_2 b4_3 b4_4 : Int) (rec0 : Int → Option Sol) (a : Int) : Option Sol :=
  match a with
  | t5 => frk (decide (t5 < (t0.length : Int))) ((lget t0 t5).bind fun v0 => (Dspec_l3Flip v0).bind fun v1 => (Dspec_l6With n t1 v1).bind fun v2 => frk (!v2) ((lget t0 t5).bind fun v3 => (Dspec_l6With n t1 v3).bind fun v4 => Dspec_l9Convex_0 n self rec0 t0 t1 b4_0 b4_1 b4_2 b4_3 b4_4 t5 (!v4)) (rec0 (w64 (t5 + 1)))) (Dspec_l9Convex_1 n self b4_0 b4_1 b4_2 b4_3 b4_4)
theorem Tspec_l9Convex_2 {Y} (n : Nat) (self : ((List Pl) × (List Pl)) → Option Sol) (hself : ∀ (a : ((List Pl) × (List Pl))) (r : Sol), self a = some r → Big Try.prog H Y (.call 70 [.sl false 4 a.1.length ((ePl).f a.1), .sl false 4 a.2.length ((ePl).f a.2)] (lk []) (.agg [bl r.inn, i64 r.pl.A, i64 r.pl.B, i64 r.pl.C, i64 r.pl.D, .sl true 6 r.kids.length ((eSol true).f r.kids)]) (lk []))) (t0 : List Pl) (t1 : List Pl) (b4_0 : Bool) (b4_1 b4_2 b4_3 b4_4 : Int) : ∀ (m : Nat) (a : Int) (r : Sol), loopN (Dspec_l9Convex_2 n self t0 t1 b4_0 b4_1 b4_2 b4_3 b4_4) m a = some r → Wk Try.prog H Y 70 [.code (cp [1, 0, 1, 0] (bodyOf Try.f70)), .blk 0, .code (cp [1, 1] (bodyOf Try.f70))] (FinX Try.prog Try.f70 [] (.agg [bl r.inn, i64 r.pl.A, i64 r.pl.B, i64 r.pl.C, i64 r.pl.D, .sl true 6 r.kids.length ((eSol true).f r.kids)]) []) ⟨[(0, .sl false 4 t0.length ((ePl).f t0)), (1, .sl false 4 t1.length ((ePl).f t1)), (4, .ptr 4 0), (5, i64 a)], [(4, ⟨true, 0, [bl b4_0, i64 b4_1, i64 b4_2, i64 b4_3, i64 b4_4, .nil]⟩)]⟩ := by
  refine loopN_ind (fun rec0 hrec0 a r h => ?_)
  obtain ⟨t5, rfl⟩ : ∃ x, x = a := ⟨a, rfl⟩
  unfold Dspec_l9Convex_2 at h
  refine x_frk 9 [] onil h (by kernel_rfl) (fun h => ?_) (fun h => ?_)
  · obtain ⟨v0, hv0, h⟩ := bind_some h
    obtain ⟨v1, hv1, h⟩ := bind_some h
    obtain ⟨v2, hv2, h⟩ := bind_some h
    refine x_frk 14 [(3, .val (.cptr (ePl.c v0 ++ (ePl).f ((t0).drop (Int.toNat t5 + 1))))), (1, .call [] [] (.agg [i64 v1.A, i64 v1.B, i64 v1.C, i64 v1.D]) []), (0, .call [] [] (bl v2) [])] (ocons (ix ePl hv0) (ocons (Tspec_l3Flip (Y := Y) v0 _ hv1) (ocons (Tspec_l6With (Y := Y) n t1 v1 _ hv2) onil))) h (by kernel_rfl) (fun h => ?_) (fun h => ?_)
    · obtain ⟨v3, hv3, h⟩ := bind_some h
      obtain ⟨v4, hv4, h⟩ := bind_some h
      exact x_to 9 [(3, .val (.cptr (ePl.c v3 ++ (ePl).f ((t0).drop (Int.toNat t5 + 1))))), (1, .call [] [] (bl v4) [])] (ocons (ix ePl hv3) (ocons (Tspec_l6With (Y := Y) n t1 v3 _ hv4) onil)) (Tspec_l9Convex_0 n self rec0 t0 t1 b4_0 b4_1 b4_2 b4_3 b4_4 hself hrec0 t5 (!v4) r h) (by kernel_rfl)
    · exact x_to 18 [] onil (hrec0 (w64 (t5 + 1)) r h) (by kernel_rfl)
  · exact x_to 2 [] onil (Tspec_l9Convex_1 n self hself b4_0 b4_1 b4_2 b4_3 b4_4 r h) (by kernel_rfl)
def Dspec_l9Convex_b (n : Nat) (self : ((List Pl) × (List Pl)) → Option Sol) (a : ((List Pl) × (List Pl))) : Option Sol :=
  match a with
  | (a0, a1) => loopN (Dspec_l9Convex_2 n self a0 a1 false 0 0 0 0) n 0
def Dspec_l9Convex (n : Nat) (a0 : (List Pl)) (a1 : (List Pl)) : Option Sol := loopN (Dspec_l9Convex_b n) n (a0, a1)
theorem Tspec_l9Convex_b {Y} (n : Nat) : ∀ (m : Nat) (a : ((List Pl) × (List Pl))) (r : Sol), loopN (Dspec_l9Convex_b n) m a = some r → ∀ (_ : Unit), Big Try.prog H Y (.call 70 [.sl false 4 a.1.length ((ePl).f a.1), .sl false 4 a.2.length ((ePl).f a.2)] (lk []) (.agg [bl r.inn, i64 r.pl.A, i64 r.pl.B, i64 r.pl.C, i64 r.pl.D, .sl true 6 r.kids.length ((eSol true).f r.kids)]) (lk [])) := by
  refine loopN_ind (fun self hs a r h => ?_)
  have hself : ∀ (a : ((List Pl) × (List Pl))) (r : Sol), self a = some r → Big Try.prog H Y (.call 70 [.sl false 4 a.1.length ((ePl).f a.1), .sl false 4 a.2.length ((ePl).f a.2)] (lk []) (.agg [bl r.inn, i64 r.pl.A, i64 r.pl.B, i64 r.pl.C, i64 r.pl.D, .sl true 6 r.kids.length ((eSol true).f r.kids)]) (lk [])) := fun a r h => hs a r h ()
  intro _
  obtain ⟨a0, a1⟩ := a
  unfold Dspec_l9Convex_b at h
  refine x_call (fn := Try.f70) (c := bodyOf Try.f70) (bs0 := []) Try.func70 (by kernel_rfl) (by kernel_rfl) ?_
  exact x_to 10 [] onil (Tspec_l9Convex_2 n self hself a0 a1 false 0 0 0 0 n 0 r h) (by kernel_rfl)
theorem Tspec_l9Convex {Y} (n : Nat) (a0 : (List Pl)) (a1 : (List Pl)) (r : Sol) (h : Dspec_l9Convex n a0 a1 = some r) : Big Try.prog H Y (.call 70 [.sl false 4 a0.length ((ePl).f a0), .sl false 4 a1.length ((ePl).f a1)] (lk []) (.agg [bl r.inn, i64 r.pl.A, i64 r.pl.B, i64 r.pl.C, i64 r.pl.D, .sl true 6 r.kids.length ((eSol true).f r.kids)]) (lk [])) := Tspec_l9Convex_b n n (a0, a1) r h ()
/-! spec.Convex -/
def Dspec_Convex (n : Nat) (a0 : (List Pl)) : Option (Sol × Int) :=
  (Dspec_l6Right n a0).bind fun v0 => frk (!v0) (some ((Sol.mk false (Pl.mk 0 0 0 0) []), 1)) ((Dspec_l6Open n a0).bind fun v1 => frk (!v1) ((Dspec_Leaf false).bind fun v2 => some (v2, 2)) ((Dspec_l9Convex n a0 []).bind fun v3 => some (v3, 0)))
theorem Tspec_Convex {Y} (n : Nat) (a0 : (List Pl)) (r : (Sol × Int)) (h : Dspec_Convex n a0 = some r) : Big Try.prog H Y (.call 27 [.sl false 4 a0.length ((ePl).f a0)] (lk []) (.tup [.agg [bl r.1.inn, i64 r.1.pl.A, i64 r.1.pl.B, i64 r.1.pl.C, i64 r.1.pl.D, .sl true 6 r.1.kids.length ((eSol true).f r.1.kids)], i64 r.2]) (lk [])) := by
  unfold Dspec_Convex at h
  refine x_call (fn := Try.f27) (c := bodyOf Try.f27) (bs0 := []) Try.func27 (by kernel_rfl) (by kernel_rfl) ?_
  obtain ⟨v0, hv0, h⟩ := bind_some h
  refine x_frk 12 [(3, .call [] [] (bl v0) [])] (ocons (Tspec_l6Right (Y := Y) n a0 _ hv0) onil) h (by kernel_rfl) (fun h => ?_) (fun h => ?_)
  · replace h := Option.some.inj h; subst h
    exact x_end 6 [] [(true, 6)] onil onil (by kernel_rfl)
  · obtain ⟨v1, hv1, h⟩ := bind_some h
    refine x_frk 8 [(1, .call [] [] (bl v1) [])] (ocons (Tspec_l6Open (Y := Y) n a0 _ hv1) onil) h (by kernel_rfl) (fun h => ?_) (fun h => ?_)
    · obtain ⟨v2, hv2, h⟩ := bind_some h
      replace h := Option.some.inj h; subst h
      exact x_end 6 [(0, .call [] [] (.agg [bl v2.inn, i64 v2.pl.A, i64 v2.pl.B, i64 v2.pl.C, i64 v2.pl.D, .sl true 6 v2.kids.length ((eSol true).f v2.kids)]) [])] [] (ocons (Tspec_Leaf (Y := Y) false _ hv2) onil) onil (by kernel_rfl)
    · obtain ⟨v3, hv3, h⟩ := bind_some h
      replace h := Option.some.inj h; subst h
      exact x_end 9 [(2, .call [] [(ePl).f []] (.agg [bl v3.inn, i64 v3.pl.A, i64 v3.pl.B, i64 v3.pl.C, i64 v3.pl.D, .sl true 6 v3.kids.length ((eSol true).f v3.kids)]) [])] [] (ocons (Tspec_l9Convex (Y := Y) n a0 [] _ hv3) (ocons (len_row (L := []) ePl) (ocons (Enc.share ePl ePl sPl []) (ocons (show hasSh (.agg [bl v3.inn, i64 v3.pl.A, i64 v3.pl.B, i64 v3.pl.C, i64 v3.pl.D, .sl true 6 v3.kids.length ((eSol true).f v3.kids)]) = false by simp [hasSh, hasShL, nSh, nShI, nShB, nShP, nShT, nShN, nShPs]) onil)))) onil (by kernel_rfl)
/-! laws.at -/
def Dlaws_at (a0 : (List Int)) (a1 : Int) : Option Int :=
  frk (decide (a1 < (a0.length : Int))) ((lget a0 a1).bind fun v0 => some (w64 v0)) (some (Int.tmod (w64 ((w64 (a1 * 31)) + (w64 ((a0.length : Int) * 7)))) 256))
theorem Tlaws_at {Y} (a0 : (List Int)) (a1 r : Int) (h : Dlaws_at a0 a1 = some r) : Big Try.prog H Y (.call 12 [.sl false 1 a0.length ((eU8).f a0), i64 a1] (lk []) (i64 r) (lk [])) := by
  unfold Dlaws_at at h
  refine x_call (fn := Try.f12) (c := bodyOf Try.f12) (bs0 := []) Try.func12 (by kernel_rfl) (by kernel_rfl) ?_
  refine x_frk 12 [] onil h (by kernel_rfl) (fun h => ?_) (fun h => ?_)
  · obtain ⟨v0, hv0, h⟩ := bind_some h
    replace h := Option.some.inj h; subst h
    exact x_end 9 [(2, .val (.cptr (eU8.c v0 ++ (eU8).f ((a0).drop (Int.toNat a1 + 1)))))] [] (ocons (ix eU8 hv0) onil) onil (by kernel_rfl)
  · replace h := Option.some.inj h; subst h
    exact x_end 12 [] [] onil onil (by kernel_rfl)
/-! spec.SpotOf -/
def Dspec_SpotOf_3 (_n : Nat) (_t3 t16 : Int) (t68 _b11_0 : Bool) (_b11_1 : List Int) (_l29 : List Num) (l73 : List Int) : Option (Spot × Bool) :=
  frk t68 (some ((Spot.mk 0 0 0 0), false)) (chk (apB 8 (l73.length + 1)) ((lget (l73 ++ [t16]) 0).bind fun v31 => (lget (l73 ++ [t16]) 1).bind fun v32 => (lget (l73 ++ [t16]) 2).bind fun v33 => (lget (l73 ++ [t16]) 3).bind fun v34 => some ((Spot.mk v31 v32 v33 v34), true)))
theorem Tspec_SpotOf_3 {Y} (n : Nat) (t3 t16 : Int) (t68 b11_0 : Bool) (b11_1 : List Int) (l29 : List Num) (l73 : List Int) (r : (Spot × Bool)) (h : Dspec_SpotOf_3 n t3 t16 t68 b11_0 b11_1 l29 l73 = some r) : Wk Try.prog H Y 28 [.code (cp [1, 1, 1, 1, 1, 0, 1, 0, 0, 1, 0, 0, 1, 1, 0, 1] (bodyOf Try.f28)), .code (cp [1, 1, 1, 1, 1, 0, 1, 0, 0, 1, 0, 0, 1, 1, 1] (bodyOf Try.f28)), .blk 1, .code (cp [1, 1, 1, 1, 1, 0, 1, 0, 0, 1, 1] (bodyOf Try.f28)), .lp (cp [1, 1, 1, 1, 1, 0, 1, 0] (bodyOf Try.f28)), .blk 0, .code (cp [1, 1, 1, 1, 1, 1] (bodyOf Try.f28))] (FinX Try.prog Try.f28 [] (.tup [.agg [i64 r.1.X, i64 r.1.Y, i64 r.1.Z, i64 r.1.W], bl r.2]) []) ⟨[(3, i64 t3), (8, .ptr 8 0), (10, .msl 29 l29.length), (11, .ptr 11 0), (12, .msl 73 l73.length), (13, i64 3), (16, i64 t16), (68, bl t68)], [(8, ⟨true, 0, [i64 0, i64 0, i64 0, i64 0]⟩), (11, ⟨true, 0, [bl b11_0, .sl true 1 b11_1.length ((eInt).f b11_1)]⟩), (29, ⟨true, 2, (eNum true).f l29⟩), (73, ⟨true, 1, (eInt).f l73⟩)]⟩ := by
  unfold Dspec_SpotOf_3 at h
  refine x_frk 0 [] onil h (by kernel_rfl) (fun h => ?_) (fun h => ?_)
  · replace h := Option.some.inj h; subst h
    exact x_end 6 [] [] onil onil (by kernel_rfl)
  · obtain ⟨c30, h⟩ := chk_some h
    obtain ⟨v31, hv31, h⟩ := bind_some h
    obtain ⟨v32, hv32, h⟩ := bind_some h
    obtain ⟨v33, hv33, h⟩ := bind_some h
    obtain ⟨v34, hv34, h⟩ := bind_some h
    replace h := Option.some.inj h; subst h
    exact x_end 42 [(3, .app false (List.length (l73 ++ [t16])) ((eInt).f (l73 ++ [t16]))), (7, .unit), (0, .val (i64 v31)), (1, .unit), (0, .val (i64 v32)), (1, .unit), (0, .val (i64 v33)), (1, .unit), (0, .val (i64 v34))] [] (ocons (len_row' (L := l73) eInt) (ocons (app_one (L := l73) (M := [t16]) eInt c30) (ocons (app_new (L := l73) (M := [t16]) eInt) (ocons (app_m (L := l73) (M := [t16]) eInt rfl) (ocons (len_row' (L := [t16]) eInt) (ocons (Enc.noOwn eInt (fun _ => rfl) [t16]) (ocons (inr hv31) (ocons (ld1 eInt hv31 0 rfl) (ocons (inr hv32) (ocons (ld1 eInt hv32 0 rfl) (ocons (inr hv33) (ocons (ld1 eInt hv33 0 rfl) (ocons (inr hv34) (ocons (ld1 eInt hv34 0 rfl) onil)))))))))))))) onil (by kernel_rfl)
def Dspec_SpotOf_2 (n : Nat) (t3 t16 : Int) (t68 b11_0 : Bool) (b11_1 : List Int) (l29 : List Num) (l73 : List Int) : Option (Spot × Bool) :=
  frk t68 (some ((Spot.mk 0 0 0 0), false)) (chk (apB 8 (l73.length + 1)) ((lget l29 3).bind fun v24 => (Dspec_l1DivMag n v24.D b11_1).bind fun v25 => (lget l29 3).bind fun v26 => (Dspec_l1Num n (!(v26.Neg == (decide (t3 < 0)))) v25.1).bind fun v27 => (Dspec_Small n v27).bind fun v28 => frk (!v28.2) (some ((Spot.mk 0 0 0 0), false)) ((Dspec_l1In v28.1 (-1000000000) 1000000000).bind fun v29 => Dspec_SpotOf_3 n t3 v28.1 (!v29) b11_0 b11_1 l29 (l73 ++ [t16]))))
theorem Tspec_SpotOf_2 {Y} (n : Nat) (t3 t16 : Int) (t68 b11_0 : Bool) (b11_1 : List Int) (l29 : List Num) (l73 : List Int) (r : (Spot × Bool)) (h : Dspec_SpotOf_2 n t3 t16 t68 b11_0 b11_1 l29 l73 = some r) : Wk Try.prog H Y 28 [.code (cp [1, 1, 1, 1, 1, 0, 1, 0, 0, 1, 0, 0, 1, 1, 0, 1] (bodyOf Try.f28)), .code (cp [1, 1, 1, 1, 1, 0, 1, 0, 0, 1, 0, 0, 1, 1, 1] (bodyOf Try.f28)), .blk 1, .code (cp [1, 1, 1, 1, 1, 0, 1, 0, 0, 1, 1] (bodyOf Try.f28)), .lp (cp [1, 1, 1, 1, 1, 0, 1, 0] (bodyOf Try.f28)), .blk 0, .code (cp [1, 1, 1, 1, 1, 1] (bodyOf Try.f28))] (FinX Try.prog Try.f28 [] (.tup [.agg [i64 r.1.X, i64 r.1.Y, i64 r.1.Z, i64 r.1.W], bl r.2]) []) ⟨[(3, i64 t3), (8, .ptr 8 0), (10, .msl 29 l29.length), (11, .ptr 11 0), (12, .msl 73 l73.length), (13, i64 2), (16, i64 t16), (68, bl t68)], [(8, ⟨true, 0, [i64 0, i64 0, i64 0, i64 0]⟩), (11, ⟨true, 0, [bl b11_0, .sl true 1 b11_1.length ((eInt).f b11_1)]⟩), (29, ⟨true, 2, (eNum true).f l29⟩), (73, ⟨true, 1, (eInt).f l73⟩)]⟩ := by
  unfold Dspec_SpotOf_2 at h
  refine x_frk 0 [] onil h (by kernel_rfl) (fun h => ?_) (fun h => ?_)
  · replace h := Option.some.inj h; subst h
    exact x_end 6 [] [] onil onil (by kernel_rfl)
  · obtain ⟨c23, h⟩ := chk_some h
    obtain ⟨v24, hv24, h⟩ := bind_some h
    obtain ⟨v25, hv25, h⟩ := bind_some h
    obtain ⟨v26, hv26, h⟩ := bind_some h
    obtain ⟨v27, hv27, h⟩ := bind_some h
    obtain ⟨v28, hv28, h⟩ := bind_some h
    refine x_frk 68 [(3, .app false (List.length (l73 ++ [t16])) ((eInt).f (l73 ++ [t16]))), (8, .unit), (1, .val (.sl true 1 v24.D.length ((eInt).f v24.D))), (0, .fix 42 (.sl false 1 v24.D.length ((eInt).f v24.D))), (1, .rows [(eInt).f b11_1]), (0, .call [] [] (.tup [.sl false 1 v25.1.length ((eInt).f v25.1), .sl false 1 v25.2.length ((eInt).f v25.2)]) []), (7, .unit), (1, .val (bl v26.Neg)), (4, .call [] [] (.agg [bl v27.Neg, .sl true 1 v27.D.length ((eInt).f v27.D)]) []), (0, .call [] [(eInt).f v27.D] (.tup [i64 v28.1, bl v28.2]) [])] (ocons (len_row' (L := l73) eInt) (ocons (app_one (L := l73) (M := [t16]) eInt c23) (ocons (app_new (L := l73) (M := [t16]) eInt) (ocons (app_m (L := l73) (M := [t16]) eInt rfl) (ocons (len_row' (L := [t16]) eInt) (ocons (Enc.noOwn eInt (fun _ => rfl) [t16]) (ocons (inr hv24) (ocons (ld1 (eNum true) hv24 1 rfl) (ocons (congrArg (AV.sl false 1 v24.D.length) (Enc.share eInt eInt sInt v24.D)) (ocons (Enc.share eInt eInt sInt b11_1) (ocons (Big.wkr (Tspec_l1DivMag (Y := Y) n v24.D b11_1 _ hv25) (show WkV (.tup [.sl true 1 v25.1.length ((eInt).f v25.1), .sl true 1 v25.2.length ((eInt).f v25.2)]) (.tup [.sl false 1 v25.1.length ((eInt).f v25.1), .sl false 1 v25.2.length ((eInt).f v25.2)]) from .inr ⟨_, _, rfl, rfl, ⟨wkShareU (L := v25.1) eInt eInt sInt, wkShareU (L := v25.2) eInt eInt sInt, trivial⟩⟩)) (ocons (inr hv26) (ocons (ld1 (eNum true) hv26 0 rfl) (ocons (Tspec_l1Num (Y := Y) n (!(v26.Neg == (decide (t3 < 0)))) v25.1 _ hv27) (ocons (Tspec_Small (Y := Y) n v27 _ hv28) (ocons (Enc.share eInt eInt sInt v27.D) onil)))))))))))))))) h (by kernel_rfl) (fun h => ?_) (fun h => ?_)
    · replace h := Option.some.inj h; subst h
      exact x_end 12 [] [] onil onil (by kernel_rfl)
    · obtain ⟨v29, hv29, h⟩ := bind_some h
      exact x_to 5 [(1, .call [] [] (bl v29) [])] (ocons (Tspec_l1In (Y := Y) v28.1 (-1000000000) 1000000000 _ hv29) onil) (Tspec_SpotOf_3 n t3 v28.1 (!v29) b11_0 b11_1 l29 (l73 ++ [t16]) r h) (by kernel_rfl)
def Dspec_SpotOf_1 (n : Nat) (t3 t16 : Int) (t68 b11_0 : Bool) (b11_1 : List Int) (l29 : List Num) (l73 : List Int) : Option (Spot × Bool) :=
  frk t68 (some ((Spot.mk 0 0 0 0), false)) (chk (apB 8 (l73.length + 1)) ((lget l29 2).bind fun v17 => (Dspec_l1DivMag n v17.D b11_1).bind fun v18 => (lget l29 2).bind fun v19 => (Dspec_l1Num n (!(v19.Neg == (decide (t3 < 0)))) v18.1).bind fun v20 => (Dspec_Small n v20).bind fun v21 => frk (!v21.2) (some ((Spot.mk 0 0 0 0), false)) ((Dspec_l1In v21.1 (-1000000000) 1000000000).bind fun v22 => Dspec_SpotOf_2 n t3 v21.1 (!v22) b11_0 b11_1 l29 (l73 ++ [t16]))))
theorem Tspec_SpotOf_1 {Y} (n : Nat) (t3 t16 : Int) (t68 b11_0 : Bool) (b11_1 : List Int) (l29 : List Num) (l73 : List Int) (r : (Spot × Bool)) (h : Dspec_SpotOf_1 n t3 t16 t68 b11_0 b11_1 l29 l73 = some r) : Wk Try.prog H Y 28 [.code (cp [1, 1, 1, 1, 1, 0, 1, 0, 0, 1, 0, 0, 1, 1, 0, 1] (bodyOf Try.f28)), .code (cp [1, 1, 1, 1, 1, 0, 1, 0, 0, 1, 0, 0, 1, 1, 1] (bodyOf Try.f28)), .blk 1, .code (cp [1, 1, 1, 1, 1, 0, 1, 0, 0, 1, 1] (bodyOf Try.f28)), .lp (cp [1, 1, 1, 1, 1, 0, 1, 0] (bodyOf Try.f28)), .blk 0, .code (cp [1, 1, 1, 1, 1, 1] (bodyOf Try.f28))] (FinX Try.prog Try.f28 [] (.tup [.agg [i64 r.1.X, i64 r.1.Y, i64 r.1.Z, i64 r.1.W], bl r.2]) []) ⟨[(3, i64 t3), (8, .ptr 8 0), (10, .msl 29 l29.length), (11, .ptr 11 0), (12, .msl 73 l73.length), (13, i64 1), (16, i64 t16), (68, bl t68)], [(8, ⟨true, 0, [i64 0, i64 0, i64 0, i64 0]⟩), (11, ⟨true, 0, [bl b11_0, .sl true 1 b11_1.length ((eInt).f b11_1)]⟩), (29, ⟨true, 2, (eNum true).f l29⟩), (73, ⟨true, 1, (eInt).f l73⟩)]⟩ := by
  unfold Dspec_SpotOf_1 at h
  refine x_frk 0 [] onil h (by kernel_rfl) (fun h => ?_) (fun h => ?_)
  · replace h := Option.some.inj h; subst h
    exact x_end 6 [] [] onil onil (by kernel_rfl)
  · obtain ⟨c16, h⟩ := chk_some h
    obtain ⟨v17, hv17, h⟩ := bind_some h
    obtain ⟨v18, hv18, h⟩ := bind_some h
    obtain ⟨v19, hv19, h⟩ := bind_some h
    obtain ⟨v20, hv20, h⟩ := bind_some h
    obtain ⟨v21, hv21, h⟩ := bind_some h
    refine x_frk 68 [(3, .app false (List.length (l73 ++ [t16])) ((eInt).f (l73 ++ [t16]))), (8, .unit), (1, .val (.sl true 1 v17.D.length ((eInt).f v17.D))), (0, .fix 42 (.sl false 1 v17.D.length ((eInt).f v17.D))), (1, .rows [(eInt).f b11_1]), (0, .call [] [] (.tup [.sl false 1 v18.1.length ((eInt).f v18.1), .sl false 1 v18.2.length ((eInt).f v18.2)]) []), (7, .unit), (1, .val (bl v19.Neg)), (4, .call [] [] (.agg [bl v20.Neg, .sl true 1 v20.D.length ((eInt).f v20.D)]) []), (0, .call [] [(eInt).f v20.D] (.tup [i64 v21.1, bl v21.2]) [])] (ocons (len_row' (L := l73) eInt) (ocons (app_one (L := l73) (M := [t16]) eInt c16) (ocons (app_new (L := l73) (M := [t16]) eInt) (ocons (app_m (L := l73) (M := [t16]) eInt rfl) (ocons (len_row' (L := [t16]) eInt) (ocons (Enc.noOwn eInt (fun _ => rfl) [t16]) (ocons (inr hv17) (ocons (ld1 (eNum true) hv17 1 rfl) (ocons (congrArg (AV.sl false 1 v17.D.length) (Enc.share eInt eInt sInt v17.D)) (ocons (Enc.share eInt eInt sInt b11_1) (ocons (Big.wkr (Tspec_l1DivMag (Y := Y) n v17.D b11_1 _ hv18) (show WkV (.tup [.sl true 1 v18.1.length ((eInt).f v18.1), .sl true 1 v18.2.length ((eInt).f v18.2)]) (.tup [.sl false 1 v18.1.length ((eInt).f v18.1), .sl false 1 v18.2.length ((eInt).f v18.2)]) from .inr ⟨_, _, rfl, rfl, ⟨wkShareU (L := v18.1) eInt eInt sInt, wkShareU (L := v18.2) eInt eInt sInt, trivial⟩⟩)) (ocons (inr hv19) (ocons (ld1 (eNum true) hv19 0 rfl) (ocons (Tspec_l1Num (Y := Y) n (!(v19.Neg == (decide (t3 < 0)))) v18.1 _ hv20) (ocons (Tspec_Small (Y := Y) n v20 _ hv21) (ocons (Enc.share eInt eInt sInt v20.D) onil)))))))))))))))) h (by kernel_rfl) (fun h => ?_) (fun h => ?_)
    · replace h := Option.some.inj h; subst h
      exact x_end 12 [] [] onil onil (by kernel_rfl)
    · obtain ⟨v22, hv22, h⟩ := bind_some h
      exact x_to 5 [(1, .call [] [] (bl v22) [])] (ocons (Tspec_l1In (Y := Y) v21.1 (-1000000000) 1000000000 _ hv22) onil) (Tspec_SpotOf_2 n t3 v21.1 (!v22) b11_0 b11_1 l29 (l73 ++ [t16]) r h) (by kernel_rfl)
def Dspec_SpotOf_0 (n : Nat) (t3 t16 : Int) (t68 b11_0 : Bool) (b11_1 : List Int) (l29 : List Num) (l32 : List Int) : Option (Spot × Bool) :=
  frk t68 (some ((Spot.mk 0 0 0 0), false)) (chk (apB 8 (l32.length + 1)) ((lget l29 1).bind fun v10 => (Dspec_l1DivMag n v10.D b11_1).bind fun v11 => (lget l29 1).bind fun v12 => (Dspec_l1Num n (!(v12.Neg == (decide (t3 < 0)))) v11.1).bind fun v13 => (Dspec_Small n v13).bind fun v14 => frk (!v14.2) (some ((Spot.mk 0 0 0 0), false)) ((Dspec_l1In v14.1 (-1000000000) 1000000000).bind fun v15 => Dspec_SpotOf_1 n t3 v14.1 (!v15) b11_0 b11_1 l29 (l32 ++ [t16]))))
theorem Tspec_SpotOf_0 {Y} (n : Nat) (t3 t16 : Int) (t68 b11_0 : Bool) (b11_1 : List Int) (l29 : List Num) (l32 : List Int) (r : (Spot × Bool)) (h : Dspec_SpotOf_0 n t3 t16 t68 b11_0 b11_1 l29 l32 = some r) : Wk Try.prog H Y 28 [.code (cp [1, 1, 1, 1, 1, 0, 1, 0, 0, 1, 0, 0, 1, 1, 0, 1] (bodyOf Try.f28)), .code (cp [1, 1, 1, 1, 1, 0, 1, 0, 0, 1, 0, 0, 1, 1, 1] (bodyOf Try.f28)), .blk 1, .code (cp [1, 1, 1, 1, 1, 0, 1, 0, 0, 1, 1] (bodyOf Try.f28)), .lp (cp [1, 1, 1, 1, 1, 0, 1, 0] (bodyOf Try.f28)), .blk 0, .code (cp [1, 1, 1, 1, 1, 1] (bodyOf Try.f28))] (FinX Try.prog Try.f28 [] (.tup [.agg [i64 r.1.X, i64 r.1.Y, i64 r.1.Z, i64 r.1.W], bl r.2]) []) ⟨[(3, i64 t3), (8, .ptr 8 0), (10, .msl 29 l29.length), (11, .ptr 11 0), (12, .msl 32 l32.length), (13, i64 0), (16, i64 t16), (68, bl t68)], [(8, ⟨true, 0, [i64 0, i64 0, i64 0, i64 0]⟩), (11, ⟨true, 0, [bl b11_0, .sl true 1 b11_1.length ((eInt).f b11_1)]⟩), (29, ⟨true, 2, (eNum true).f l29⟩), (32, ⟨true, 1, (eInt).f l32⟩)]⟩ := by
  unfold Dspec_SpotOf_0 at h
  refine x_frk 0 [] onil h (by kernel_rfl) (fun h => ?_) (fun h => ?_)
  · replace h := Option.some.inj h; subst h
    exact x_end 6 [] [] onil onil (by kernel_rfl)
  · obtain ⟨c9, h⟩ := chk_some h
    obtain ⟨v10, hv10, h⟩ := bind_some h
    obtain ⟨v11, hv11, h⟩ := bind_some h
    obtain ⟨v12, hv12, h⟩ := bind_some h
    obtain ⟨v13, hv13, h⟩ := bind_some h
    obtain ⟨v14, hv14, h⟩ := bind_some h
    refine x_frk 68 [(3, .app false (List.length (l32 ++ [t16])) ((eInt).f (l32 ++ [t16]))), (8, .unit), (1, .val (.sl true 1 v10.D.length ((eInt).f v10.D))), (0, .fix 42 (.sl false 1 v10.D.length ((eInt).f v10.D))), (1, .rows [(eInt).f b11_1]), (0, .call [] [] (.tup [.sl false 1 v11.1.length ((eInt).f v11.1), .sl false 1 v11.2.length ((eInt).f v11.2)]) []), (7, .unit), (1, .val (bl v12.Neg)), (4, .call [] [] (.agg [bl v13.Neg, .sl true 1 v13.D.length ((eInt).f v13.D)]) []), (0, .call [] [(eInt).f v13.D] (.tup [i64 v14.1, bl v14.2]) [])] (ocons (len_row' (L := l32) eInt) (ocons (app_one (L := l32) (M := [t16]) eInt c9) (ocons (app_new (L := l32) (M := [t16]) eInt) (ocons (app_m (L := l32) (M := [t16]) eInt rfl) (ocons (len_row' (L := [t16]) eInt) (ocons (Enc.noOwn eInt (fun _ => rfl) [t16]) (ocons (inr hv10) (ocons (ld1 (eNum true) hv10 1 rfl) (ocons (congrArg (AV.sl false 1 v10.D.length) (Enc.share eInt eInt sInt v10.D)) (ocons (Enc.share eInt eInt sInt b11_1) (ocons (Big.wkr (Tspec_l1DivMag (Y := Y) n v10.D b11_1 _ hv11) (show WkV (.tup [.sl true 1 v11.1.length ((eInt).f v11.1), .sl true 1 v11.2.length ((eInt).f v11.2)]) (.tup [.sl false 1 v11.1.length ((eInt).f v11.1), .sl false 1 v11.2.length ((eInt).f v11.2)]) from .inr ⟨_, _, rfl, rfl, ⟨wkShareU (L := v11.1) eInt eInt sInt, wkShareU (L := v11.2) eInt eInt sInt, trivial⟩⟩)) (ocons (inr hv12) (ocons (ld1 (eNum true) hv12 0 rfl) (ocons (Tspec_l1Num (Y := Y) n (!(v12.Neg == (decide (t3 < 0)))) v11.1 _ hv13) (ocons (Tspec_Small (Y := Y) n v13 _ hv14) (ocons (Enc.share eInt eInt sInt v13.D) onil)))))))))))))))) h (by kernel_rfl) (fun h => ?_) (fun h => ?_)
    · replace h := Option.some.inj h; subst h
      exact x_end 12 [] [] onil onil (by kernel_rfl)
    · obtain ⟨v15, hv15, h⟩ := bind_some h
      exact x_to 5 [(1, .call [] [] (bl v15) [])] (ocons (Tspec_l1In (Y := Y) v14.1 (-1000000000) 1000000000 _ hv15) onil) (Tspec_SpotOf_1 n t3 v14.1 (!v15) b11_0 b11_1 l29 (l32 ++ [t16]) r h) (by kernel_rfl)
def Dspec_SpotOf (n : Nat) (a0 a1 a2 a3 : Int) : Option (Spot × Bool) :=
  frk (a3 == 0) (some ((Spot.mk 0 0 0 0), false)) ((Dspec_Of n a0).bind fun v0 => (Dspec_Of n a1).bind fun v1 => (Dspec_Of n a2).bind fun v2 => (Dspec_Of n a3).bind fun v3 => (Dspec_l3NumGcd n [v0, v1, v2, v3]).bind fun v4 => (Dspec_l1DivMag n v0.D v4.D).bind fun v5 => (Dspec_l1Num n (!(v0.Neg == (decide (a3 < 0)))) v5.1).bind fun v6 => (Dspec_Small n v6).bind fun v7 => frk (!v7.2) (some ((Spot.mk 0 0 0 0), false)) ((Dspec_l1In v7.1 (-1000000000) 1000000000).bind fun v8 => Dspec_SpotOf_0 n a3 v7.1 (!v8) v4.Neg v4.D [v0, v1, v2, v3] []))
theorem Tspec_SpotOf {Y} (n : Nat) (a0 a1 a2 a3 : Int) (r : (Spot × Bool)) (h : Dspec_SpotOf n a0 a1 a2 a3 = some r) : Big Try.prog H Y (.call 28 [i64 a0, i64 a1, i64 a2, i64 a3] (lk []) (.tup [.agg [i64 r.1.X, i64 r.1.Y, i64 r.1.Z, i64 r.1.W], bl r.2]) (lk [])) := by
  unfold Dspec_SpotOf at h
  refine x_call (fn := Try.f28) (c := bodyOf Try.f28) (bs0 := []) Try.func28 (by kernel_rfl) (by kernel_rfl) ?_
  refine x_frk 11 [] onil h (by kernel_rfl) (fun h => ?_) (fun h => ?_)
  · replace h := Option.some.inj h; subst h
    exact x_end 6 [] [] onil onil (by kernel_rfl)
  · obtain ⟨v0, hv0, h⟩ := bind_some h
    obtain ⟨v1, hv1, h⟩ := bind_some h
    obtain ⟨v2, hv2, h⟩ := bind_some h
    obtain ⟨v3, hv3, h⟩ := bind_some h
    obtain ⟨v4, hv4, h⟩ := bind_some h
    obtain ⟨v5, hv5, h⟩ := bind_some h
    obtain ⟨v6, hv6, h⟩ := bind_some h
    obtain ⟨v7, hv7, h⟩ := bind_some h
    refine x_frk 84 [(1, .call [] [] (.agg [bl v0.Neg, .sl true 1 v0.D.length ((eInt).f v0.D)]) []), (1, .call [] [] (.agg [bl v1.Neg, .sl true 1 v1.D.length ((eInt).f v1.D)]) []), (1, .call [] [] (.agg [bl v2.Neg, .sl true 1 v2.D.length ((eInt).f v2.D)]) []), (1, .call [] [] (.agg [bl v3.Neg, .sl true 1 v3.D.length ((eInt).f v3.D)]) []), (3, .call [] [(eNum false).f [v0, v1, v2, v3]] (.agg [bl v4.Neg, .sl true 1 v4.D.length ((eInt).f v4.D)]) []), (11, .rows [(eInt).f v0.D]), (1, .rows [(eInt).f v4.D]), (0, .call [] [] (.tup [.sl false 1 v5.1.length ((eInt).f v5.1), .sl false 1 v5.2.length ((eInt).f v5.2)]) []), (14, .call [] [] (.agg [bl v6.Neg, .sl true 1 v6.D.length ((eInt).f v6.D)]) []), (0, .call [] [(eInt).f v6.D] (.tup [i64 v7.1, bl v7.2]) [])] (ocons (Tspec_Of (Y := Y) n a0 _ hv0) (ocons (Tspec_Of (Y := Y) n a1 _ hv1) (ocons (Tspec_Of (Y := Y) n a2 _ hv2) (ocons (Tspec_Of (Y := Y) n a3 _ hv3) (ocons (Tspec_l3NumGcd (Y := Y) n [v0, v1, v2, v3] _ hv4) (ocons (len_row (L := [v0, v1, v2, v3]) (eNum true)) (ocons (Enc.share (eNum true) (eNum false) (sNum true) [v0, v1, v2, v3]) (ocons (show hasSh (.agg [bl v4.Neg, .sl true 1 v4.D.length ((eInt).f v4.D)]) = false by simp [hasSh, hasShL, nSh, nShI, nShB, nShP, nShT, nShN, nShPs]) (ocons (Enc.share eInt eInt sInt v0.D) (ocons (Enc.share eInt eInt sInt v4.D) (ocons (Big.wkr (Tspec_l1DivMag (Y := Y) n v0.D v4.D _ hv5) (show WkV (.tup [.sl true 1 v5.1.length ((eInt).f v5.1), .sl true 1 v5.2.length ((eInt).f v5.2)]) (.tup [.sl false 1 v5.1.length ((eInt).f v5.1), .sl false 1 v5.2.length ((eInt).f v5.2)]) from .inr ⟨_, _, rfl, rfl, ⟨wkShareU (L := v5.1) eInt eInt sInt, wkShareU (L := v5.2) eInt eInt sInt, trivial⟩⟩)) (ocons (Tspec_l1Num (Y := Y) n (!(v0.Neg == (decide (a3 < 0)))) v5.1 _ hv6) (ocons (Tspec_Small (Y := Y) n v6 _ hv7) (ocons (Enc.share eInt eInt sInt v6.D) onil)))))))))))))) h (by kernel_rfl) (fun h => ?_) (fun h => ?_)
    · replace h := Option.some.inj h; subst h
      exact x_end 12 [] [] onil onil (by kernel_rfl)
    · obtain ⟨v8, hv8, h⟩ := bind_some h
      exact x_to 5 [(1, .call [] [] (bl v8) [])] (ocons (Tspec_l1In (Y := Y) v7.1 (-1000000000) 1000000000 _ hv8) onil) (Tspec_SpotOf_0 n a3 v7.1 (!v8) v4.Neg v4.D [v0, v1, v2, v3] [] r h) (by kernel_rfl)
/-! impl.SpotOk -/
def Dimpl_SpotOk (n : Nat) (a0 : Spot) : Option Bool :=
  (Dimpl_inRange a0.W 1 1000000000).bind fun v0 => frk (!v0) (some false) ((Dimpl_inRange a0.X (-1000000000) 1000000000).bind fun v1 => frk (!v1) (some false) ((Dimpl_inRange a0.Y (-1000000000) 1000000000).bind fun v2 => frk (!v2) (some false) ((Dimpl_inRange a0.Z (-1000000000) 1000000000).bind fun v3 => frk (!v3) (some false) ((Dimpl_divisor n [a0.X, a0.Y, a0.Z, a0.W]).bind fun v4 => some (v4 == 1)))))
theorem Timpl_SpotOk {Y} (n : Nat) (a0 : Spot) (r : Bool) (h : Dimpl_SpotOk n a0 = some r) : Big Try.prog H Y (.call 77 [.agg [i64 a0.X, i64 a0.Y, i64 a0.Z, i64 a0.W]] (lk []) (bl r) (lk [])) := by
  unfold Dimpl_SpotOk at h
  refine x_call (fn := Try.f77) (c := bodyOf Try.f77) (bs0 := []) Try.func77 (by kernel_rfl) (by kernel_rfl) ?_
  obtain ⟨v0, hv0, h⟩ := bind_some h
  refine x_frk 13 [(4, .call [] [] (bl v0) [])] (ocons (Timpl_inRange (Y := Y) a0.W 1 1000000000 _ hv0) onil) h (by kernel_rfl) (fun h => ?_) (fun h => ?_)
  · replace h := Option.some.inj h; subst h
    exact x_end 4 [] [] onil onil (by kernel_rfl)
  · obtain ⟨v1, hv1, h⟩ := bind_some h
    refine x_frk 35 [(12, .call [] [] (bl v1) [])] (ocons (Timpl_inRange (Y := Y) a0.X (-1000000000) 1000000000 _ hv1) onil) h (by kernel_rfl) (fun h => ?_) (fun h => ?_)
    · replace h := Option.some.inj h; subst h
      exact x_end 4 [] [] onil onil (by kernel_rfl)
    · obtain ⟨v2, hv2, h⟩ := bind_some h
      refine x_frk 28 [(6, .call [] [] (bl v2) [])] (ocons (Timpl_inRange (Y := Y) a0.Y (-1000000000) 1000000000 _ hv2) onil) h (by kernel_rfl) (fun h => ?_) (fun h => ?_)
      · replace h := Option.some.inj h; subst h
        exact x_end 4 [] [] onil onil (by kernel_rfl)
      · obtain ⟨v3, hv3, h⟩ := bind_some h
        refine x_frk 28 [(6, .call [] [] (bl v3) [])] (ocons (Timpl_inRange (Y := Y) a0.Z (-1000000000) 1000000000 _ hv3) onil) h (by kernel_rfl) (fun h => ?_) (fun h => ?_)
        · replace h := Option.some.inj h; subst h
          exact x_end 4 [] [] onil onil (by kernel_rfl)
        · obtain ⟨v4, hv4, h⟩ := bind_some h
          replace h := Option.some.inj h; subst h
          exact x_end 30 [(12, .call [] [(eInt).f [a0.X, a0.Y, a0.Z, a0.W]] (i64 v4) [])] [] (ocons (Timpl_divisor (Y := Y) n [a0.X, a0.Y, a0.Z, a0.W] _ hv4) (ocons (len_row (L := [a0.X, a0.Y, a0.Z, a0.W]) eInt) (ocons (Enc.share eInt eInt sInt [a0.X, a0.Y, a0.Z, a0.W]) onil))) onil (by kernel_rfl)
/-! impl.Solid).isLeaf -/
def Dimpl_Solid_isLeaf (a0 : Sol) : Option Bool :=
  some ((a0.kids.length : Int) == 0)
theorem Timpl_Solid_isLeaf {Y} (a0 : Sol) (q0 : List AV) (r : Bool) (h : Dimpl_Solid_isLeaf a0 = some r) : Big Try.prog H Y (.call 89 [.cptr ([bl a0.inn, i64 a0.pl.A, i64 a0.pl.B, i64 a0.pl.C, i64 a0.pl.D, .sl false 6 a0.kids.length ((eSol false).f a0.kids)] ++ q0)] (lk []) (bl r) (lk [])) := by
  unfold Dimpl_Solid_isLeaf at h
  refine x_call (fn := Try.f89) (c := bodyOf Try.f89) (bs0 := []) Try.func89 (by kernel_rfl) (by kernel_rfl) ?_
  replace h := Option.some.inj h; subst h
  exact x_end 14 [] [] onil onil (by kernel_rfl)
/-! impl.with -/
def Dimpl_with (a0 : (List Pl)) (a1 : Pl) : Option (List Pl) :=
  chk (apB 32 (0 + a0.length)) (chk (apB 32 (([] ++ a0).length + 1)) (some (([] ++ a0) ++ [a1])))
theorem Timpl_with {Y} (a0 : (List Pl)) (a1 : Pl) (r : (List Pl)) (h : Dimpl_with a0 a1 = some r) : Big Try.prog H Y (.call 49 [.sl false 4 a0.length ((ePl).f a0), .agg [i64 a1.A, i64 a1.B, i64 a1.C, i64 a1.D]] (lk []) (.sl true 4 r.length ((ePl).f r)) (lk [])) := by
  unfold Dimpl_with at h
  refine x_call (fn := Try.f49) (c := bodyOf Try.f49) (bs0 := []) Try.func49 (by kernel_rfl) (by kernel_rfl) ?_
  obtain ⟨c0, h⟩ := chk_some h
  obtain ⟨c1, h⟩ := chk_some h
  replace h := Option.some.inj h; subst h
  exact x_end 15 [(4, .app false (List.length ([] ++ a0)) ((ePl).f ([] ++ a0))), (2, .app false (List.length (([] ++ a0) ++ [a1])) ((ePl).f (([] ++ a0) ++ [a1])))] [] (ocons (len_row' (L := []) ePl) (ocons (app_one (L := []) (M := a0) ePl c0) (ocons (app_new (L := []) (M := a0) ePl) (ocons (app_m (L := []) (M := a0) ePl rfl) (ocons (len_row' (L := a0) ePl) (ocons (len_row' (L := ([] ++ a0)) ePl) (ocons (app_one (L := ([] ++ a0)) (M := [a1]) ePl c1) (ocons (app_new (L := ([] ++ a0)) (M := [a1]) ePl) (ocons (app_m (L := ([] ++ a0)) (M := [a1]) ePl rfl) (ocons (len_row' (L := [a1]) ePl) (ocons (Enc.noOwn ePl (fun _ => rfl) [a1]) onil))))))))))) (ocons (len_row (L := (([] ++ a0) ++ [a1])) ePl) onil) (by kernel_rfl)
/-! impl.checker).right -/
def Dimpl_checker_right_1 (_n : Nat) (self : (Int × Sol × (List Pl)) → Option (Bool × Int)) (t2 : List Pl) (t59 _b4_0 : Bool) (b4_1 b4_2 b4_3 b4_4 : Int) (b4_5 : List Sol) (b7_0 b7_1 b7_2 b7_3 b1000_0 : Int) : Option (Bool × Int) :=
  frk t59 (some (false, b1000_0)) ((lget b4_5 0).bind fun v5 => (Dimpl_with t2 (Pl.mk b4_1 b4_2 b4_3 b4_4)).bind fun v6 => (self (b1000_0, v5, v6)).bind fun v7 => frk v7.1 ((lget b4_5 1).bind fun v8 => (Dimpl_with t2 (Pl.mk b7_0 b7_1 b7_2 b7_3)).bind fun v9 => (self (v7.2, v8, v9)).bind fun v10 => some v10) (some (false, v7.2)))
theorem Timpl_checker_right_1 {Y} (n : Nat) (self : (Int × Sol × (List Pl)) → Option (Bool × Int)) (hself : ∀ (a : (Int × Sol × (List Pl))) (r : (Bool × Int)), self a = some r → Big Try.prog H Y (.call 76 [.ptr 1000 0, .agg [bl a.2.1.inn, i64 a.2.1.pl.A, i64 a.2.1.pl.B, i64 a.2.1.pl.C, i64 a.2.1.pl.D, .sl false 6 a.2.1.kids.length ((eSol false).f a.2.1.kids)], .sl false 4 a.2.2.length ((ePl).f a.2.2)] (lk [(1000, ⟨true, 0, [i64 a.1]⟩)]) (bl r.1) (lk [(1000, ⟨true, 0, [i64 r.2]⟩)]))) (t2 : List Pl) (t59 b4_0 : Bool) (b4_1 b4_2 b4_3 b4_4 : Int) (b4_5 : List Sol) (b7_0 b7_1 b7_2 b7_3 b1000_0 : Int) (r : (Bool × Int)) (h : Dimpl_checker_right_1 n self t2 t59 b4_0 b4_1 b4_2 b4_3 b4_4 b4_5 b7_0 b7_1 b7_2 b7_3 b1000_0 = some r) : Wk Try.prog H Y 76 [.code (cp [1, 1, 1, 1, 1, 0, 1] (bodyOf Try.f76)), .code (cp [1, 1, 1, 1, 1, 1] (bodyOf Try.f76))] (FinX Try.prog Try.f76 [(1000, ⟨true, 0, [.bad]⟩)] (bl r.1) [(1000, ⟨true, 0, [i64 r.2]⟩)]) ⟨[(0, .ptr 1000 0), (2, .sl false 4 t2.length ((ePl).f t2)), (4, .ptr 4 0), (7, .ptr 7 0), (59, bl t59)], [(4, ⟨true, 0, [bl b4_0, i64 b4_1, i64 b4_2, i64 b4_3, i64 b4_4, .sl false 6 b4_5.length ((eSol false).f b4_5)]⟩), (7, ⟨true, 0, [i64 b7_0, i64 b7_1, i64 b7_2, i64 b7_3]⟩), (1000, ⟨true, 0, [i64 b1000_0]⟩)]⟩ := by
  unfold Dimpl_checker_right_1 at h
  refine x_frk 0 [] onil h (by kernel_rfl) (fun h => ?_) (fun h => ?_)
  · replace h := Option.some.inj h; subst h
    exact x_end 4 [] [] onil onil (by kernel_rfl)
  · obtain ⟨v5, hv5, h⟩ := bind_some h
    obtain ⟨v6, hv6, h⟩ := bind_some h
    obtain ⟨v7, hv7, h⟩ := bind_some h
    refine x_frk 14 [(3, .val (.cptr ((eSol false).c v5 ++ (eSol false).f ((b4_5).drop (Int.toNat 0 + 1))))), (4, .call [] [] (.sl false 4 v6.length ((ePl).f v6)) []), (0, .call [] [] (bl v7.1) [(1000, ⟨true, 0, [i64 v7.2]⟩)])] (ocons (ix (eSol false) hv5) (ocons (shSl (L := v6) ePl ePl sPl (Timpl_with (Y := Y) t2 (Pl.mk b4_1 b4_2 b4_3 b4_4) _ hv6)) (ocons (hself (b1000_0, v5, v6) _ hv7) onil))) h (by kernel_rfl) (fun h => ?_) (fun h => ?_)
    · obtain ⟨v8, hv8, h⟩ := bind_some h
      obtain ⟨v9, hv9, h⟩ := bind_some h
      obtain ⟨v10, hv10, h⟩ := bind_some h
      replace h := Option.some.inj h; subst h
      exact x_end 12 [(3, .val (.cptr ((eSol false).c v8 ++ (eSol false).f ((b4_5).drop (Int.toNat 1 + 1))))), (3, .call [] [] (.sl false 4 v9.length ((ePl).f v9)) []), (0, .call [] [] (bl v10.1) [(1000, ⟨true, 0, [i64 v10.2]⟩)])] [] (ocons (ix (eSol false) hv8) (ocons (shSl (L := v9) ePl ePl sPl (Timpl_with (Y := Y) t2 (Pl.mk b7_0 b7_1 b7_2 b7_3) _ hv9)) (ocons (hself (v7.2, v8, v9) _ hv10) onil))) onil (by kernel_rfl)
    · replace h := Option.some.inj h; subst h
      exact x_end 12 [] [] onil onil (by kernel_rfl)
def Dimpl_checker_right_0 (n : Nat) (self : (Int × Sol × (List Pl)) → Option (Bool × Int)) (t2 : List Pl) (t45 b4_0 : Bool) (b4_1 b4_2 b4_3 b4_4 : Int) (b4_5 : List Sol) (b1000_0 : Int) : Option (Bool × Int) :=
  frk t45 (some (false, b1000_0)) ((Dimpl_flip (Pl.mk b4_1 b4_2 b4_3 b4_4)).bind fun v2 => (Dimpl_room n t2 (Pl.mk b4_1 b4_2 b4_3 b4_4)).bind fun v3 => frk (!v3) (some (false, b1000_0)) ((Dimpl_room n t2 v2).bind fun v4 => Dimpl_checker_right_1 n self t2 (!v4) b4_0 b4_1 b4_2 b4_3 b4_4 b4_5 v2.A v2.B v2.C v2.D b1000_0))
theorem Timpl_checker_right_0 {Y} (n : Nat) (self : (Int × Sol × (List Pl)) → Option (Bool × Int)) (hself : ∀ (a : (Int × Sol × (List Pl))) (r : (Bool × Int)), self a = some r → Big Try.prog H Y (.call 76 [.ptr 1000 0, .agg [bl a.2.1.inn, i64 a.2.1.pl.A, i64 a.2.1.pl.B, i64 a.2.1.pl.C, i64 a.2.1.pl.D, .sl false 6 a.2.1.kids.length ((eSol false).f a.2.1.kids)], .sl false 4 a.2.2.length ((ePl).f a.2.2)] (lk [(1000, ⟨true, 0, [i64 a.1]⟩)]) (bl r.1) (lk [(1000, ⟨true, 0, [i64 r.2]⟩)]))) (t2 : List Pl) (t45 b4_0 : Bool) (b4_1 b4_2 b4_3 b4_4 : Int) (b4_5 : List Sol) (b1000_0 : Int) (r : (Bool × Int)) (h : Dimpl_checker_right_0 n self t2 t45 b4_0 b4_1 b4_2 b4_3 b4_4 b4_5 b1000_0 = some r) : Wk Try.prog H Y 76 [.code (cp [1, 1, 1, 0, 1] (bodyOf Try.f76)), .code (cp [1, 1, 1, 1] (bodyOf Try.f76))] (FinX Try.prog Try.f76 [(1000, ⟨true, 0, [.bad]⟩)] (bl r.1) [(1000, ⟨true, 0, [i64 r.2]⟩)]) ⟨[(0, .ptr 1000 0), (2, .sl false 4 t2.length ((ePl).f t2)), (4, .ptr 4 0), (45, bl t45)], [(4, ⟨true, 0, [bl b4_0, i64 b4_1, i64 b4_2, i64 b4_3, i64 b4_4, .sl false 6 b4_5.length ((eSol false).f b4_5)]⟩), (1000, ⟨true, 0, [i64 b1000_0]⟩)]⟩ := by
  unfold Dimpl_checker_right_0 at h
  refine x_frk 0 [] onil h (by kernel_rfl) (fun h => ?_) (fun h => ?_)
  · replace h := Option.some.inj h; subst h
    exact x_end 4 [] [] onil onil (by kernel_rfl)
  · obtain ⟨v2, hv2, h⟩ := bind_some h
    obtain ⟨v3, hv3, h⟩ := bind_some h
    refine x_frk 18 [(2, .call [] [] (.agg [i64 v2.A, i64 v2.B, i64 v2.C, i64 v2.D]) []), (5, .call [] [] (bl v3) [])] (ocons (Timpl_flip (Y := Y) (Pl.mk b4_1 b4_2 b4_3 b4_4) _ hv2) (ocons (Timpl_room (Y := Y) n t2 (Pl.mk b4_1 b4_2 b4_3 b4_4) _ hv3) onil)) h (by kernel_rfl) (fun h => ?_) (fun h => ?_)
    · replace h := Option.some.inj h; subst h
      exact x_end 11 [] [] onil onil (by kernel_rfl)
    · obtain ⟨v4, hv4, h⟩ := bind_some h
      exact x_to 6 [(2, .call [] [] (bl v4) [])] (ocons (Timpl_room (Y := Y) n t2 v2 _ hv4) onil) (Timpl_checker_right_1 n self hself t2 (!v4) b4_0 b4_1 b4_2 b4_3 b4_4 b4_5 v2.A v2.B v2.C v2.D b1000_0 r h) (by kernel_rfl)
def Dimpl_checker_right_b (n : Nat) (self : (Int × Sol × (List Pl)) → Option (Bool × Int)) (a : (Int × Sol × (List Pl))) : Option (Bool × Int) :=
  match a with
  | (a0, a1, a2) => (Dimpl_Solid_isLeaf a1).bind fun v0 => frk v0 (some ((a1.pl.A == 0 && (a1.pl.B == 0 && (a1.pl.C == 0 && (a1.pl.D == 0 && true)))), a0)) (frk a1.inn (some (false, w64 (a0 + 1))) (frk ((a1.kids.length : Int) != 2) (some (false, w64 (a0 + 1))) (frk (decide ((w64 (a0 + 1)) > 300)) (some (false, w64 (a0 + 1))) (frk (decide ((a2.length : Int) ≥ 24)) (some (false, w64 (a0 + 1))) ((Dimpl_PlaneOk n a1.pl).bind fun v1 => Dimpl_checker_right_0 n self a2 (!v1) a1.inn a1.pl.A a1.pl.B a1.pl.C a1.pl.D a1.kids (w64 (a0 + 1)))))))
def Dimpl_checker_right (n : Nat) (a0 : Int) (a1 : Sol) (a2 : (List Pl)) : Option (Bool × Int) := loopN (Dimpl_checker_right_b n) n (a0, a1, a2)
theorem Timpl_checker_right_b {Y} (n : Nat) : ∀ (m : Nat) (a : (Int × Sol × (List Pl))) (r : (Bool × Int)), loopN (Dimpl_checker_right_b n) m a = some r → ∀ (_ : Unit), Big Try.prog H Y (.call 76 [.ptr 1000 0, .agg [bl a.2.1.inn, i64 a.2.1.pl.A, i64 a.2.1.pl.B, i64 a.2.1.pl.C, i64 a.2.1.pl.D, .sl false 6 a.2.1.kids.length ((eSol false).f a.2.1.kids)], .sl false 4 a.2.2.length ((ePl).f a.2.2)] (lk [(1000, ⟨true, 0, [i64 a.1]⟩)]) (bl r.1) (lk [(1000, ⟨true, 0, [i64 r.2]⟩)])) := by
  refine loopN_ind (fun self hs a r h => ?_)
  have hself : ∀ (a : (Int × Sol × (List Pl))) (r : (Bool × Int)), self a = some r → Big Try.prog H Y (.call 76 [.ptr 1000 0, .agg [bl a.2.1.inn, i64 a.2.1.pl.A, i64 a.2.1.pl.B, i64 a.2.1.pl.C, i64 a.2.1.pl.D, .sl false 6 a.2.1.kids.length ((eSol false).f a.2.1.kids)], .sl false 4 a.2.2.length ((ePl).f a.2.2)] (lk [(1000, ⟨true, 0, [i64 a.1]⟩)]) (bl r.1) (lk [(1000, ⟨true, 0, [i64 r.2]⟩)])) := fun a r h => hs a r h ()
  intro _
  obtain ⟨a0, a1, a2⟩ := a
  unfold Dimpl_checker_right_b at h
  refine x_call (fn := Try.f76) (c := bodyOf Try.f76) (bs0 := [(1000, ⟨true, 0, [.bad]⟩)]) Try.func76 (by kernel_rfl) (by kernel_rfl) ?_
  obtain ⟨v0, hv0, h⟩ := bind_some h
  refine x_frk 10 [(2, .call [] [] (bl v0) [])] (ocons (Timpl_Solid_isLeaf (Y := Y) a1 [] _ hv0) onil) h (by kernel_rfl) (fun h => ?_) (fun h => ?_)
  · replace h := Option.some.inj h; subst h
    exact x_end 8 [] [] onil onil (by kernel_rfl)
  · refine x_frk 18 [] onil h (by kernel_rfl) (fun h => ?_) (fun h => ?_)
    · replace h := Option.some.inj h; subst h
      exact x_end 29 [] [] onil onil (by kernel_rfl)
    · refine x_frk 6 [] onil h (by kernel_rfl) (fun h => ?_) (fun h => ?_)
      · replace h := Option.some.inj h; subst h
        exact x_end 23 [] [] onil onil (by kernel_rfl)
      · refine x_frk 7 [] onil h (by kernel_rfl) (fun h => ?_) (fun h => ?_)
        · replace h := Option.some.inj h; subst h
          exact x_end 16 [] [] onil onil (by kernel_rfl)
        · refine x_frk 5 [] onil h (by kernel_rfl) (fun h => ?_) (fun h => ?_)
          · replace h := Option.some.inj h; subst h
            exact x_end 11 [] [] onil onil (by kernel_rfl)
          · obtain ⟨v1, hv1, h⟩ := bind_some h
            exact x_to 6 [(2, .call [] [] (bl v1) [])] (ocons (Timpl_PlaneOk (Y := Y) n a1.pl _ hv1) onil) (Timpl_checker_right_0 n self hself a2 (!v1) a1.inn a1.pl.A a1.pl.B a1.pl.C a1.pl.D a1.kids (w64 (a0 + 1)) r h) (by kernel_rfl)
theorem Timpl_checker_right {Y} (n : Nat) (a0 : Int) (a1 : Sol) (a2 : (List Pl)) (r : (Bool × Int)) (h : Dimpl_checker_right n a0 a1 a2 = some r) : Big Try.prog H Y (.call 76 [.ptr 1000 0, .agg [bl a1.inn, i64 a1.pl.A, i64 a1.pl.B, i64 a1.pl.C, i64 a1.pl.D, .sl false 6 a1.kids.length ((eSol false).f a1.kids)], .sl false 4 a2.length ((ePl).f a2)] (lk [(1000, ⟨true, 0, [i64 a0]⟩)]) (bl r.1) (lk [(1000, ⟨true, 0, [i64 r.2]⟩)])) := Timpl_checker_right_b n n (a0, a1, a2) r h ()
/-! impl.SolidOk -/
def Dimpl_SolidOk (n : Nat) (a0 : Sol) : Option Bool :=
  (Dimpl_checker_right n 0 a0 []).bind fun v0 => some v0.1
theorem Timpl_SolidOk {Y} (n : Nat) (a0 : Sol) (r : Bool) (h : Dimpl_SolidOk n a0 = some r) : Big Try.prog H Y (.call 29 [.agg [bl a0.inn, i64 a0.pl.A, i64 a0.pl.B, i64 a0.pl.C, i64 a0.pl.D, .sl false 6 a0.kids.length ((eSol false).f a0.kids)]] (lk []) (bl r) (lk [])) := by
  unfold Dimpl_SolidOk at h
  refine x_call (fn := Try.f29) (c := bodyOf Try.f29) (bs0 := []) Try.func29 (by kernel_rfl) (by kernel_rfl) ?_
  obtain ⟨v0, hv0, h⟩ := bind_some h
  replace h := Option.some.inj h; subst h
  exact x_end 15 [(4, .call [(false, 4)] [] (bl v0.1) [(1000, ⟨true, 0, [i64 v0.2]⟩)])] [] (ocons (Timpl_checker_right (Y := Y) n 0 a0 [] _ hv0) onil) onil (by kernel_rfl)
/-! impl.sideAt -/
def Dimpl_sideAt (a0 : Pl) (a1 : Spot) : Option Int :=
  (Dimpl_sign (w64 ((w64 ((w64 ((w64 (a0.A * a1.X)) + (w64 (a0.B * a1.Y)))) + (w64 (a0.C * a1.Z)))) + (w64 (a0.D * a1.W))))).bind fun v0 => some v0
theorem Timpl_sideAt {Y} (a0 : Pl) (a1 : Spot) (r : Int) (h : Dimpl_sideAt a0 a1 = some r) : Big Try.prog H Y (.call 109 [.agg [i64 a0.A, i64 a0.B, i64 a0.C, i64 a0.D], .agg [i64 a1.X, i64 a1.Y, i64 a1.Z, i64 a1.W]] (lk []) (i64 r) (lk [])) := by
  unfold Dimpl_sideAt at h
  refine x_call (fn := Try.f109) (c := bodyOf Try.f109) (bs0 := []) Try.func109 (by kernel_rfl) (by kernel_rfl) ?_
  obtain ⟨v0, hv0, h⟩ := bind_some h
  replace h := Option.some.inj h; subst h
  exact x_end 34 [(26, .call [] [] (i64 v0) [])] [] (ocons (Timpl_sign (Y := Y) (w64 ((w64 ((w64 ((w64 (a0.A * a1.X)) + (w64 (a0.B * a1.Y)))) + (w64 (a0.C * a1.Z)))) + (w64 (a0.D * a1.W)))) _ hv0) onil) onil (by kernel_rfl)
/-! impl.Solid).around -/
def Dimpl_Solid_around_0 (_n : Nat) (self : (Sol × Spot) → Option (Int × Int)) (_t0_0 : Bool) (_t0_1 _t0_2 _t0_3 _t0_4 : Int) (t0_5 : List Sol) (t7 t8 : Int) (t36 : Bool) (b3_0 b3_1 b3_2 b3_3 : Int) : Option (Int × Int) :=
  frk t36 ((lget t0_5 1).bind fun v4 => (self (v4, (Spot.mk b3_0 b3_1 b3_2 b3_3))).bind fun v5 => some (w64 (t7 + v5.1), w64 (t8 + v5.2))) (some (t7, t8))
theorem Timpl_Solid_around_0 {Y} (n : Nat) (self : (Sol × Spot) → Option (Int × Int)) (hself : ∀ (a : (Sol × Spot)) (q0 : List AV) (r : (Int × Int)), self a = some r → Big Try.prog H Y (.call 97 [.cptr ([bl a.1.inn, i64 a.1.pl.A, i64 a.1.pl.B, i64 a.1.pl.C, i64 a.1.pl.D, .sl false 6 a.1.kids.length ((eSol false).f a.1.kids)] ++ q0), .agg [i64 a.2.X, i64 a.2.Y, i64 a.2.Z, i64 a.2.W]] (lk []) (.tup [i64 r.1, i64 r.2]) (lk []))) (t0_0 : Bool) (t0_1 t0_2 t0_3 t0_4 : Int) (t0_5 : List Sol) (t0_r : List AV) (t7 t8 : Int) (t36 : Bool) (b3_0 b3_1 b3_2 b3_3 : Int) (q0 : List AV) (r : (Int × Int)) (h : Dimpl_Solid_around_0 n self t0_0 t0_1 t0_2 t0_3 t0_4 t0_5 t7 t8 t36 b3_0 b3_1 b3_2 b3_3 = some r) : Wk Try.prog H Y 97 [.code (cp [1, 1, 1, 1, 1, 0, 1] (bodyOf Try.f97)), .code (cp [1, 1, 1, 1, 1, 1] (bodyOf Try.f97))] (FinX Try.prog Try.f97 [] (.tup [i64 r.1, i64 r.2]) []) ⟨[(0, .cptr ([bl t0_0, i64 t0_1, i64 t0_2, i64 t0_3, i64 t0_4, .sl false 6 t0_5.length ((eSol false).f t0_5)] ++ t0_r)), (3, .ptr 3 0), (7, i64 t7), (8, i64 t8), (36, bl t36)], [(3, ⟨true, 0, [i64 b3_0, i64 b3_1, i64 b3_2, i64 b3_3]⟩)]⟩ := by
  unfold Dimpl_Solid_around_0 at h
  refine x_frk 0 [] onil h (by kernel_rfl) (fun h => ?_) (fun h => ?_)
  · obtain ⟨v4, hv4, h⟩ := bind_some h
    obtain ⟨v5, hv5, h⟩ := bind_some h
    replace h := Option.some.inj h; subst h
    exact x_end 35 [(4, .val (.cptr ((eSol false).c v4 ++ (eSol false).f ((t0_5).drop (Int.toNat 1 + 1))))), (1, .call [] [] (.tup [i64 v5.1, i64 v5.2]) [])] [] (ocons (ix (eSol false) hv4) (ocons (hself (v4, (Spot.mk b3_0 b3_1 b3_2 b3_3)) ((eSol false).f ((t0_5).drop (Int.toNat 1 + 1))) _ hv5) onil)) onil (by kernel_rfl)
  · replace h := Option.some.inj h; subst h
    exact x_end 8 [] [] onil onil (by kernel_rfl)
def Dimpl_Solid_around_b (n : Nat) (self : (Sol × Spot) → Option (Int × Int)) (a : (Sol × Spot)) : Option (Int × Int) :=
  match a with
  | (a0, a1) => (Dimpl_Solid_isLeaf a0).bind fun v0 => frk v0 (frk a0.inn (some (1, 0)) (some (0, 1))) ((Dimpl_sideAt a0.pl a1).bind fun v1 => frk (decide (v1 ≥ 0)) ((lget a0.kids 0).bind fun v2 => (self (v2, a1)).bind fun v3 => Dimpl_Solid_around_0 n self a0.inn a0.pl.A a0.pl.B a0.pl.C a0.pl.D a0.kids v3.1 v3.2 (decide (v1 ≤ 0)) a1.X a1.Y a1.Z a1.W) (Dimpl_Solid_around_0 n self a0.inn a0.pl.A a0.pl.B a0.pl.C a0.pl.D a0.kids 0 0 (decide (v1 ≤ 0)) a1.X a1.Y a1.Z a1.W))
def Dimpl_Solid_around (n : Nat) (a0 : Sol) (a1 : Spot) : Option (Int × Int) := loopN (Dimpl_Solid_around_b n) n (a0, a1)
theorem Timpl_Solid_around_b {Y} (n : Nat) : ∀ (m : Nat) (a : (Sol × Spot)) (r : (Int × Int)), loopN (Dimpl_Solid_around_b n) m a = some r → ∀ (q0 : List AV), Big Try.prog H Y (.call 97 [.cptr ([bl a.1.inn, i64 a.1.pl.A, i64 a.1.pl.B, i64 a.1.pl.C, i64 a.1.pl.D, .sl false 6 a.1.kids.length ((eSol false).f a.1.kids)] ++ q0), .agg [i64 a.2.X, i64 a.2.Y, i64 a.2.Z, i64 a.2.W]] (lk []) (.tup [i64 r.1, i64 r.2]) (lk [])) := by
  refine loopN_ind (fun self hs a r h => ?_)
  have hself : ∀ (a : (Sol × Spot)) (q0 : List AV) (r : (Int × Int)), self a = some r → Big Try.prog H Y (.call 97 [.cptr ([bl a.1.inn, i64 a.1.pl.A, i64 a.1.pl.B, i64 a.1.pl.C, i64 a.1.pl.D, .sl false 6 a.1.kids.length ((eSol false).f a.1.kids)] ++ q0), .agg [i64 a.2.X, i64 a.2.Y, i64 a.2.Z, i64 a.2.W]] (lk []) (.tup [i64 r.1, i64 r.2]) (lk [])) := fun a q0 r h => hs a r h q0
  intro q0
  obtain ⟨a0, a1⟩ := a
  unfold Dimpl_Solid_around_b at h
  refine x_call (fn := Try.f97) (c := bodyOf Try.f97) (bs0 := []) Try.func97 (by kernel_rfl) (by kernel_rfl) ?_
  obtain ⟨v0, hv0, h⟩ := bind_some h
  refine x_frk 12 [(4, .call [] [] (bl v0) [])] (ocons (Timpl_Solid_isLeaf (Y := Y) a0 q0 _ hv0) onil) h (by kernel_rfl) (fun h => ?_) (fun h => ?_)
  · refine x_frk 8 [] onil h (by kernel_rfl) (fun h => ?_) (fun h => ?_)
    · replace h := Option.some.inj h; subst h
      exact x_end 5 [] [] onil onil (by kernel_rfl)
    · replace h := Option.some.inj h; subst h
      exact x_end 6 [] [] onil onil (by kernel_rfl)
  · obtain ⟨v1, hv1, h⟩ := bind_some h
    refine x_frk 22 [(5, .call [] [] (i64 v1) [])] (ocons (Timpl_sideAt (Y := Y) a0.pl a1 _ hv1) onil) h (by kernel_rfl) (fun h => ?_) (fun h => ?_)
    · obtain ⟨v2, hv2, h⟩ := bind_some h
      obtain ⟨v3, hv3, h⟩ := bind_some h
      exact x_to 20 [(4, .val (.cptr ((eSol false).c v2 ++ (eSol false).f ((a0.kids).drop (Int.toNat 0 + 1))))), (1, .call [] [] (.tup [i64 v3.1, i64 v3.2]) [])] (ocons (ix (eSol false) hv2) (ocons (hself (v2, a1) ((eSol false).f ((a0.kids).drop (Int.toNat 0 + 1))) _ hv3) onil)) (Timpl_Solid_around_0 n self hself a0.inn a0.pl.A a0.pl.B a0.pl.C a0.pl.D a0.kids q0 v3.1 v3.2 (decide (v1 ≤ 0)) a1.X a1.Y a1.Z a1.W q0 r h) (by kernel_rfl)
    · exact x_to 7 [] onil (Timpl_Solid_around_0 n self hself a0.inn a0.pl.A a0.pl.B a0.pl.C a0.pl.D a0.kids q0 0 0 (decide (v1 ≤ 0)) a1.X a1.Y a1.Z a1.W q0 r h) (by kernel_rfl)
theorem Timpl_Solid_around {Y} (n : Nat) (a0 : Sol) (a1 : Spot) (q0 : List AV) (r : (Int × Int)) (h : Dimpl_Solid_around n a0 a1 = some r) : Big Try.prog H Y (.call 97 [.cptr ([bl a0.inn, i64 a0.pl.A, i64 a0.pl.B, i64 a0.pl.C, i64 a0.pl.D, .sl false 6 a0.kids.length ((eSol false).f a0.kids)] ++ q0), .agg [i64 a1.X, i64 a1.Y, i64 a1.Z, i64 a1.W]] (lk []) (.tup [i64 r.1, i64 r.2]) (lk [])) := Timpl_Solid_around_b n n (a0, a1) r h q0
/-! impl.Around -/
def Dimpl_Around_0 (n : Nat) (t13 b2_0 : Bool) (b2_1 b2_2 b2_3 b2_4 : Int) (b2_5 : List Sol) (b3_0 b3_1 b3_2 b3_3 : Int) : Option (Int × Int) :=
  frk t13 (some (0, 0)) ((Dimpl_Solid_around n (Sol.mk b2_0 (Pl.mk b2_1 b2_2 b2_3 b2_4) b2_5) (Spot.mk b3_0 b3_1 b3_2 b3_3)).bind fun v2 => some v2)
theorem Timpl_Around_0 {Y} (n : Nat) (t13 b2_0 : Bool) (b2_1 b2_2 b2_3 b2_4 : Int) (b2_5 : List Sol) (b3_0 b3_1 b3_2 b3_3 : Int) (r : (Int × Int)) (h : Dimpl_Around_0 n t13 b2_0 b2_1 b2_2 b2_3 b2_4 b2_5 b3_0 b3_1 b3_2 b3_3 = some r) : Wk Try.prog H Y 62 [.code (cp [1, 0, 1] (bodyOf Try.f62)), .code (cp [1, 1] (bodyOf Try.f62))] (FinX Try.prog Try.f62 [] (.tup [i64 r.1, i64 r.2]) []) ⟨[(2, .ptr 2 0), (3, .ptr 3 0), (13, bl t13)], [(2, ⟨true, 0, [bl b2_0, i64 b2_1, i64 b2_2, i64 b2_3, i64 b2_4, .sl false 6 b2_5.length ((eSol false).f b2_5)]⟩), (3, ⟨true, 0, [i64 b3_0, i64 b3_1, i64 b3_2, i64 b3_3]⟩)]⟩ := by
  unfold Dimpl_Around_0 at h
  refine x_frk 0 [] onil h (by kernel_rfl) (fun h => ?_) (fun h => ?_)
  · replace h := Option.some.inj h; subst h
    exact x_end 5 [] [] onil onil (by kernel_rfl)
  · obtain ⟨v2, hv2, h⟩ := bind_some h
    replace h := Option.some.inj h; subst h
    exact x_end 10 [(1, .call [] [] (.tup [i64 v2.1, i64 v2.2]) [])] [] (ocons (Timpl_Solid_around (Y := Y) n (Sol.mk b2_0 (Pl.mk b2_1 b2_2 b2_3 b2_4) b2_5) (Spot.mk b3_0 b3_1 b3_2 b3_3) [] _ hv2) onil) onil (by kernel_rfl)
def Dimpl_Around (n : Nat) (a0 : Sol) (a1 : Spot) : Option (Int × Int) :=
  (Dimpl_SpotOk n a1).bind fun v0 => frk (!v0) (some (0, 0)) ((Dimpl_SolidOk n a0).bind fun v1 => Dimpl_Around_0 n (!v1) a0.inn a0.pl.A a0.pl.B a0.pl.C a0.pl.D a0.kids a1.X a1.Y a1.Z a1.W)
theorem Timpl_Around {Y} (n : Nat) (a0 : Sol) (a1 : Spot) (r : (Int × Int)) (h : Dimpl_Around n a0 a1 = some r) : Big Try.prog H Y (.call 62 [.agg [bl a0.inn, i64 a0.pl.A, i64 a0.pl.B, i64 a0.pl.C, i64 a0.pl.D, .sl false 6 a0.kids.length ((eSol false).f a0.kids)], .agg [i64 a1.X, i64 a1.Y, i64 a1.Z, i64 a1.W]] (lk []) (.tup [i64 r.1, i64 r.2]) (lk [])) := by
  unfold Dimpl_Around at h
  refine x_call (fn := Try.f62) (c := bodyOf Try.f62) (bs0 := []) Try.func62 (by kernel_rfl) (by kernel_rfl) ?_
  obtain ⟨v0, hv0, h⟩ := bind_some h
  refine x_frk 14 [(5, .call [] [] (bl v0) [])] (ocons (Timpl_SpotOk (Y := Y) n a1 _ hv0) onil) h (by kernel_rfl) (fun h => ?_) (fun h => ?_)
  · replace h := Option.some.inj h; subst h
    exact x_end 11 [] [] onil onil (by kernel_rfl)
  · obtain ⟨v1, hv1, h⟩ := bind_some h
    exact x_to 5 [(1, .call [] [] (bl v1) [])] (ocons (Timpl_SolidOk (Y := Y) n a0 _ hv1) onil) (Timpl_Around_0 n (!v1) a0.inn a0.pl.A a0.pl.B a0.pl.C a0.pl.D a0.kids a1.X a1.Y a1.Z a1.W r h) (by kernel_rfl)
/-! impl.where -/
def Dimpl_where (a0 a1 : Int) : Option Int :=
  frk (a0 == 0) (some (-1)) (frk (a1 == 0) (some 1) (some 0))
theorem Timpl_where {Y} (a0 a1 r : Int) (h : Dimpl_where a0 a1 = some r) : Big Try.prog H Y (.call 61 [i64 a0, i64 a1] (lk []) (i64 r) (lk [])) := by
  unfold Dimpl_where at h
  refine x_call (fn := Try.f61) (c := bodyOf Try.f61) (bs0 := []) Try.func61 (by kernel_rfl) (by kernel_rfl) ?_
  refine x_frk 12 [] onil h (by kernel_rfl) (fun h => ?_) (fun h => ?_)
  · replace h := Option.some.inj h; subst h
    exact x_end 4 [] [] onil onil (by kernel_rfl)
  · refine x_frk 6 [] onil h (by kernel_rfl) (fun h => ?_) (fun h => ?_)
    · replace h := Option.some.inj h; subst h
      exact x_end 4 [] [] onil onil (by kernel_rfl)
    · replace h := Option.some.inj h; subst h
      exact x_end 6 [] [] onil onil (by kernel_rfl)
/-! impl.Where -/
def Dimpl_Where (n : Nat) (a0 : Sol) (a1 : Spot) : Option Int :=
  (Dimpl_Around n a0 a1).bind fun v0 => (Dimpl_where v0.1 v0.2).bind fun v1 => some v1
theorem Timpl_Where {Y} (n : Nat) (a0 : Sol) (a1 : Spot) (r : Int) (h : Dimpl_Where n a0 a1 = some r) : Big Try.prog H Y (.call 24 [.agg [bl a0.inn, i64 a0.pl.A, i64 a0.pl.B, i64 a0.pl.C, i64 a0.pl.D, .sl false 6 a0.kids.length ((eSol false).f a0.kids)], .agg [i64 a1.X, i64 a1.Y, i64 a1.Z, i64 a1.W]] (lk []) (i64 r) (lk [])) := by
  unfold Dimpl_Where at h
  refine x_call (fn := Try.f24) (c := bodyOf Try.f24) (bs0 := []) Try.func24 (by kernel_rfl) (by kernel_rfl) ?_
  obtain ⟨v0, hv0, h⟩ := bind_some h
  obtain ⟨v1, hv1, h⟩ := bind_some h
  replace h := Option.some.inj h; subst h
  exact x_end 16 [(5, .call [] [] (.tup [i64 v0.1, i64 v0.2]) []), (2, .call [] [] (i64 v1) [])] [] (ocons (Timpl_Around (Y := Y) n a0 a1 _ hv0) (ocons (Timpl_where (Y := Y) v0.1 v0.2 _ hv1) onil)) onil (by kernel_rfl)
/-! impl.Open -/
def Dimpl_Open (n : Nat) (a0 : (List Pl)) : Option Bool :=
  frk (decide ((a0.length : Int) ≤ 24)) ((Dimpl_planesOk n a0).bind fun v0 => frk v0 ((Dimpl_open n a0).bind fun v1 => some v1) (some false)) (some false)
theorem Timpl_Open {Y} (n : Nat) (a0 : (List Pl)) (r : Bool) (h : Dimpl_Open n a0 = some r) : Big Try.prog H Y (.call 78 [.sl false 4 a0.length ((ePl).f a0)] (lk []) (bl r) (lk [])) := by
  unfold Dimpl_Open at h
  refine x_call (fn := Try.f78) (c := bodyOf Try.f78) (bs0 := []) Try.func78 (by kernel_rfl) (by kernel_rfl) ?_
  refine x_frk 10 [] onil h (by kernel_rfl) (fun h => ?_) (fun h => ?_)
  · obtain ⟨v0, hv0, h⟩ := bind_some h
    refine x_frk 4 [(1, .call [] [] (bl v0) [])] (ocons (Timpl_planesOk (Y := Y) n a0 _ hv0) onil) h (by kernel_rfl) (fun h => ?_) (fun h => ?_)
    · obtain ⟨v1, hv1, h⟩ := bind_some h
      replace h := Option.some.inj h; subst h
      exact x_end 5 [(1, .call [] [] (bl v1) [])] [] (ocons (Timpl_open (Y := Y) n a0 _ hv1) onil) onil (by kernel_rfl)
    · replace h := Option.some.inj h; subst h
      exact x_end 5 [] [] onil onil (by kernel_rfl)
  · replace h := Option.some.inj h; subst h
    exact x_end 9 [] [] onil onil (by kernel_rfl)
/-! impl.inCell -/
def Dimpl_inCell_0 (_n : Nat) (t8 : List Pl) (t9 b3_0 b3_1 b3_2 b3_3 : Int) (rec0 : (Int × Int) → Option Int) (a : (Int × Int)) : Option Int :=
  match a with
  | (t5, t10) => frk (decide (t10 < t9)) ((lget t8 t10).bind fun v0 => (Dimpl_sideAt v0 (Spot.mk b3_0 b3_1 b3_2 b3_3)).bind fun v1 => rec0 (minN t5 [v1], w64 (t10 + 1))) (some t5)
theorem Timpl_inCell_0 {Y} (n : Nat) (t8 : List Pl) (t9 b3_0 b3_1 b3_2 b3_3 : Int) : ∀ (m : Nat) (a : (Int × Int)) (r : Int), loopN (Dimpl_inCell_0 n t8 t9 b3_0 b3_1 b3_2 b3_3) m a = some r → Wk Try.prog H Y 79 [.code (cp [1, 1, 0, 1, 0] (bodyOf Try.f79)), .blk 0, .code (cp [1, 1, 1] (bodyOf Try.f79))] (FinX Try.prog Try.f79 [] (i64 r) []) ⟨[(3, .ptr 3 0), (5, i64 a.1), (8, .sl false 4 t8.length ((ePl).f t8)), (9, i64 t9), (10, i64 a.2)], [(3, ⟨true, 0, [i64 b3_0, i64 b3_1, i64 b3_2, i64 b3_3]⟩)]⟩ := by
  refine loopN_ind (fun _rec0 hrec0 a r h => ?_)
  obtain ⟨t5, t10⟩ := a
  unfold Dimpl_inCell_0 at h
  refine x_frk 6 [] onil h (by kernel_rfl) (fun h => ?_) (fun h => ?_)
  · obtain ⟨v0, hv0, h⟩ := bind_some h
    obtain ⟨v1, hv1, h⟩ := bind_some h
    exact x_to 24 [(0, .val (.cptr (ePl.c v0 ++ (ePl).f ((t8).drop (Int.toNat t10 + 1))))), (6, .call [] [] (i64 v1) []), (0, .val (.lit (.int .i64 (minN t5 [v1]))))] (ocons (ix ePl hv0) (ocons (Timpl_sideAt (Y := Y) v0 (Spot.mk b3_0 b3_1 b3_2 b3_3) _ hv1) (ocons (minNok .i64 [v1] t5) onil))) (hrec0 (minN t5 [v1], w64 (t10 + 1)) r h) (by kernel_rfl)
  · replace h := Option.some.inj h; subst h
    exact x_end 6 [] [] onil onil (by kernel_rfl)
def Dimpl_inCell (n : Nat) (a0 : (List Pl)) (a1 : Spot) : Option Int :=
  loopN (Dimpl_inCell_0 n a0 (a0.length : Int) a1.X a1.Y a1.Z a1.W) n (1, 0)
theorem Timpl_inCell {Y} (n : Nat) (a0 : (List Pl)) (a1 : Spot) (r : Int) (h : Dimpl_inCell n a0 a1 = some r) : Big Try.prog H Y (.call 79 [.sl false 4 a0.length ((ePl).f a0), .agg [i64 a1.X, i64 a1.Y, i64 a1.Z, i64 a1.W]] (lk []) (i64 r) (lk [])) := by
  unfold Dimpl_inCell at h
  refine x_call (fn := Try.f79) (c := bodyOf Try.f79) (bs0 := []) Try.func79 (by kernel_rfl) (by kernel_rfl) ?_
  exact x_to 17 [] onil (Timpl_inCell_0 n a0 (a0.length : Int) a1.X a1.Y a1.Z a1.W n (1, 0) r h) (by kernel_rfl)
/-! impl.InCell -/
def Dimpl_InCell_0 (n : Nat) (t0 : List Pl) (t12 : Bool) (b3_0 b3_1 b3_2 b3_3 : Int) : Option Int :=
  frk t12 (some (-1)) ((Dimpl_inCell n t0 (Spot.mk b3_0 b3_1 b3_2 b3_3)).bind fun v2 => some v2)
theorem Timpl_InCell_0 {Y} (n : Nat) (t0 : List Pl) (t12 : Bool) (b3_0 b3_1 b3_2 b3_3 r : Int) (h : Dimpl_InCell_0 n t0 t12 b3_0 b3_1 b3_2 b3_3 = some r) : Wk Try.prog H Y 30 [.code (cp [1, 0, 1] (bodyOf Try.f30)), .code (cp [1, 1] (bodyOf Try.f30))] (FinX Try.prog Try.f30 [] (i64 r) []) ⟨[(0, .sl false 4 t0.length ((ePl).f t0)), (3, .ptr 3 0), (12, bl t12)], [(3, ⟨true, 0, [i64 b3_0, i64 b3_1, i64 b3_2, i64 b3_3]⟩)]⟩ := by
  unfold Dimpl_InCell_0 at h
  refine x_frk 0 [] onil h (by kernel_rfl) (fun h => ?_) (fun h => ?_)
  · replace h := Option.some.inj h; subst h
    exact x_end 4 [] [] onil onil (by kernel_rfl)
  · obtain ⟨v2, hv2, h⟩ := bind_some h
    replace h := Option.some.inj h; subst h
    exact x_end 8 [(2, .call [] [] (i64 v2) [])] [] (ocons (Timpl_inCell (Y := Y) n t0 (Spot.mk b3_0 b3_1 b3_2 b3_3) _ hv2) onil) onil (by kernel_rfl)
def Dimpl_InCell (n : Nat) (a0 : (List Pl)) (a1 : Spot) : Option Int :=
  (Dimpl_SpotOk n a1).bind fun v0 => frk (!v0) (some (-1)) ((Dimpl_Open n a0).bind fun v1 => Dimpl_InCell_0 n a0 (!v1) a1.X a1.Y a1.Z a1.W)
theorem Timpl_InCell {Y} (n : Nat) (a0 : (List Pl)) (a1 : Spot) (r : Int) (h : Dimpl_InCell n a0 a1 = some r) : Big Try.prog H Y (.call 30 [.sl false 4 a0.length ((ePl).f a0), .agg [i64 a1.X, i64 a1.Y, i64 a1.Z, i64 a1.W]] (lk []) (i64 r) (lk [])) := by
  unfold Dimpl_InCell at h
  refine x_call (fn := Try.f30) (c := bodyOf Try.f30) (bs0 := []) Try.func30 (by kernel_rfl) (by kernel_rfl) ?_
  obtain ⟨v0, hv0, h⟩ := bind_some h
  refine x_frk 12 [(3, .call [] [] (bl v0) [])] (ocons (Timpl_SpotOk (Y := Y) n a1 _ hv0) onil) h (by kernel_rfl) (fun h => ?_) (fun h => ?_)
  · replace h := Option.some.inj h; subst h
    exact x_end 10 [] [] onil onil (by kernel_rfl)
  · obtain ⟨v1, hv1, h⟩ := bind_some h
    exact x_to 5 [(1, .call [] [] (bl v1) [])] (ocons (Timpl_Open (Y := Y) n a0 _ hv1) onil) (Timpl_InCell_0 n a0 (!v1) a1.X a1.Y a1.Z a1.W r h) (by kernel_rfl)
/-! impl.Plane] -/
def Dslices_Clone (a0 : (List Pl)) : Option (List Pl) :=
  chk (apB 32 (0 + a0.length)) (some ([] ++ a0))
theorem Tslices_Clone {Y} (a0 : (List Pl)) (r : (List Pl)) (h : Dslices_Clone a0 = some r) : Big Try.prog H Y (.call 110 [.sl false 4 a0.length ((ePl).f a0)] (lk []) (.sl true 4 r.length ((ePl).f r)) (lk [])) := by
  unfold Dslices_Clone at h
  refine x_clone (fn := Try.f110) (c := bodyOf Try.f110) 0 3 4 (lq := ⟨[(2, .nil), (0, .sl false 4 a0.length ((ePl).f a0))], []⟩) (z := 4) (ct := a0.length) (cs := (ePl).f a0) Try.func110 (by kernel_rfl) (by kernel_rfl) (x_at 3 (by kernel_rfl)) (fun b hb => ?_)
  cases b
  · obtain ⟨c0, h⟩ := chk_some h
    replace h := Option.some.inj h; subst h
    exact x_end 9 [(2, .app false (List.length ([] ++ a0)) ((ePl).f ([] ++ a0)))] [] (ocons (len_row' (L := []) ePl) (ocons (app_one (L := []) (M := a0) ePl c0) (ocons (app_new (L := []) (M := a0) ePl) (ocons (app_m (L := []) (M := a0) ePl rfl) (ocons (len_row' (L := a0) ePl) onil))))) (ocons (len_row (L := ([] ++ a0)) ePl) onil) (by kernel_rfl)
  · have h0 : a0 = [] := List.eq_nil_of_length_eq_zero (hb rfl)
    subst h0
    replace h : some [] = some r := h
    replace h := Option.some.inj h; subst h
    exact x_end 5 [] [(true, 4)] onil onil (by kernel_rfl)
/-! impl.Solid).cells -/
def Dimpl_Solid_cells_b (_n : Nat) (self : (Sol × Bool × (List Pl)) → Option (List (List Pl))) (a : (Sol × Bool × (List Pl))) : Option (List (List Pl)) :=
  match a with
  | (a0, a1, a2) => (Dimpl_Solid_isLeaf a0).bind fun v0 => frk v0 (frk (a0.inn == a1) ((Dslices_Clone a2).bind fun v1 => some [v1]) (some [])) ((lget a0.kids 0).bind fun v2 => (Dimpl_with a2 a0.pl).bind fun v3 => (self (v2, a1, v3)).bind fun v4 => (lget a0.kids 1).bind fun v5 => (Dimpl_flip a0.pl).bind fun v6 => (Dimpl_with a2 v6).bind fun v7 => (self (v5, a1, v7)).bind fun v8 => chk (apB 24 (v4.length + v8.length)) (some (v4 ++ v8)))
def Dimpl_Solid_cells (n : Nat) (a0 : Sol) (a1 : Bool) (a2 : (List Pl)) : Option (List (List Pl)) := loopN (Dimpl_Solid_cells_b n) n (a0, a1, a2)
theorem Timpl_Solid_cells_b {Y} (n : Nat) : ∀ (m : Nat) (a : (Sol × Bool × (List Pl))) (r : (List (List Pl))), loopN (Dimpl_Solid_cells_b n) m a = some r → ∀ (q0 : List AV), Big Try.prog H Y (.call 80 [.cptr ([bl a.1.inn, i64 a.1.pl.A, i64 a.1.pl.B, i64 a.1.pl.C, i64 a.1.pl.D, .sl false 6 a.1.kids.length ((eSol false).f a.1.kids)] ++ q0), bl a.2.1, .sl false 4 a.2.2.length ((ePl).f a.2.2)] (lk []) (.sl true 1 r.length ((ePls true).f r)) (lk [])) := by
  refine loopN_ind (fun self hs a r h => ?_)
  have hself : ∀ (a : (Sol × Bool × (List Pl))) (q0 : List AV) (r : (List (List Pl))), self a = some r → Big Try.prog H Y (.call 80 [.cptr ([bl a.1.inn, i64 a.1.pl.A, i64 a.1.pl.B, i64 a.1.pl.C, i64 a.1.pl.D, .sl false 6 a.1.kids.length ((eSol false).f a.1.kids)] ++ q0), bl a.2.1, .sl false 4 a.2.2.length ((ePl).f a.2.2)] (lk []) (.sl true 1 r.length ((ePls true).f r)) (lk [])) := fun a q0 r h => hs a r h q0
  intro q0
  obtain ⟨a0, a1, a2⟩ := a
  unfold Dimpl_Solid_cells_b at h
  refine x_call (fn := Try.f80) (c := bodyOf Try.f80) (bs0 := []) Try.func80 (by kernel_rfl) (by kernel_rfl) ?_
  obtain ⟨v0, hv0, h⟩ := bind_some h
  refine x_frk 10 [(2, .call [] [] (bl v0) [])] (ocons (Timpl_Solid_isLeaf (Y := Y) a0 q0 _ hv0) onil) h (by kernel_rfl) (fun h => ?_) (fun h => ?_)
  · refine x_frk 10 [] onil h (by kernel_rfl) (fun h => ?_) (fun h => ?_)
    · obtain ⟨v1, hv1, h⟩ := bind_some h
      replace h := Option.some.inj h; subst h
      exact x_end 7 [(1, .call [] [] (.sl true 4 v1.length ((ePl).f v1)) [])] [] (ocons (Tslices_Clone (Y := Y) a2 _ hv1) (ocons (len_row (L := v1) ePl) onil)) (ocons (len_row (L := [v1]) (ePls true)) onil) (by kernel_rfl)
    · replace h := Option.some.inj h; subst h
      exact x_end 5 [] [(true, 1)] onil onil (by kernel_rfl)
  · obtain ⟨v2, hv2, h⟩ := bind_some h
    obtain ⟨v3, hv3, h⟩ := bind_some h
    obtain ⟨v4, hv4, h⟩ := bind_some h
    obtain ⟨v5, hv5, h⟩ := bind_some h
    obtain ⟨v6, hv6, h⟩ := bind_some h
    obtain ⟨v7, hv7, h⟩ := bind_some h
    obtain ⟨v8, hv8, h⟩ := bind_some h
    obtain ⟨c9, h⟩ := chk_some h
    replace h := Option.some.inj h; subst h
    exact x_end 38 [(4, .val (.cptr ((eSol false).c v2 ++ (eSol false).f ((a0.kids).drop (Int.toNat 0 + 1))))), (6, .call [] [] (.sl false 4 v3.length ((ePl).f v3)) []), (0, .call [] [] (.sl true 1 v4.length ((ePls true).f v4)) []), (6, .val (.cptr ((eSol false).c v5 ++ (eSol false).f ((a0.kids).drop (Int.toNat 1 + 1))))), (6, .call [] [] (.agg [i64 v6.A, i64 v6.B, i64 v6.C, i64 v6.D]) []), (0, .call [] [] (.sl false 4 v7.length ((ePl).f v7)) []), (0, .call [] [] (.sl true 1 v8.length ((ePls true).f v8)) []), (0, .app true (List.length (v4 ++ v8)) ((ePls true).f (v4 ++ v8)))] [] (ocons (ix (eSol false) hv2) (ocons (shSl (L := v3) ePl ePl sPl (Timpl_with (Y := Y) a2 a0.pl _ hv3)) (ocons (hself (v2, a1, v3) ((eSol false).f ((a0.kids).drop (Int.toNat 0 + 1))) _ hv4) (ocons (ix (eSol false) hv5) (ocons (Timpl_flip (Y := Y) a0.pl _ hv6) (ocons (shSl (L := v7) ePl ePl sPl (Timpl_with (Y := Y) a2 v6 _ hv7)) (ocons (hself (v5, a1, v7) ((eSol false).f ((a0.kids).drop (Int.toNat 1 + 1))) _ hv8) (ocons (len_row' (L := v4) (ePls true)) (ocons (app_one (L := v4) (M := v8) (ePls true) c9) (ocons (app_new (L := v4) (M := v8) (ePls true)) (ocons (app_m (L := v4) (M := v8) (ePls true) rfl) (ocons (len_row' (L := v8) (ePls true)) onil)))))))))))) (ocons (len_row (L := (v4 ++ v8)) (ePls true)) onil) (by kernel_rfl)
theorem Timpl_Solid_cells {Y} (n : Nat) (a0 : Sol) (a1 : Bool) (a2 : (List Pl)) (q0 : List AV) (r : (List (List Pl))) (h : Dimpl_Solid_cells n a0 a1 a2 = some r) : Big Try.prog H Y (.call 80 [.cptr ([bl a0.inn, i64 a0.pl.A, i64 a0.pl.B, i64 a0.pl.C, i64 a0.pl.D, .sl false 6 a0.kids.length ((eSol false).f a0.kids)] ++ q0), bl a1, .sl false 4 a2.length ((ePl).f a2)] (lk []) (.sl true 1 r.length ((ePls true).f r)) (lk [])) := Timpl_Solid_cells_b n n (a0, a1, a2) r h q0
/-! impl.Cells -/
def Dimpl_Cells (n : Nat) (a0 : Sol) (a1 : Bool) : Option (List (List Pl)) :=
  (Dimpl_SolidOk n a0).bind fun v0 => frk (!v0) (some []) ((Dimpl_Solid_cells n a0 a1 []).bind fun v1 => some v1)
theorem Timpl_Cells {Y} (n : Nat) (a0 : Sol) (a1 : Bool) (r : (List (List Pl))) (h : Dimpl_Cells n a0 a1 = some r) : Big Try.prog H Y (.call 31 [.agg [bl a0.inn, i64 a0.pl.A, i64 a0.pl.B, i64 a0.pl.C, i64 a0.pl.D, .sl false 6 a0.kids.length ((eSol false).f a0.kids)], bl a1] (lk []) (.sl true 1 r.length ((ePls true).f r)) (lk [])) := by
  unfold Dimpl_Cells at h
  refine x_call (fn := Try.f31) (c := bodyOf Try.f31) (bs0 := []) Try.func31 (by kernel_rfl) (by kernel_rfl) ?_
  obtain ⟨v0, hv0, h⟩ := bind_some h
  refine x_frk 12 [(3, .call [] [] (bl v0) [])] (ocons (Timpl_SolidOk (Y := Y) n a0 _ hv0) onil) h (by kernel_rfl) (fun h => ?_) (fun h => ?_)
  · replace h := Option.some.inj h; subst h
    exact x_end 4 [] [(true, 1)] onil onil (by kernel_rfl)
  · obtain ⟨v1, hv1, h⟩ := bind_some h
    replace h := Option.some.inj h; subst h
    exact x_end 7 [(1, .call [(false, 4)] [] (.sl true 1 v1.length ((ePls true).f v1)) [])] [] (ocons (Timpl_Solid_cells (Y := Y) n a0 a1 [] [] _ hv1) (ocons (show hasSh (.sl true 1 v1.length ((ePls true).f v1)) = false by simp [hasSh, hasShL, nSh, nShI, nShB, nShP, nShT, nShN, nShPs]) onil)) (ocons (len_row (L := v1) (ePls true)) onil) (by kernel_rfl)
/-! laws.FnConvex -/
def Dlaws_FnConvex (n : Nat) (a0 : (List Int)) : Option Bool :=
  (Dlaws_big a0).bind fun v0 => frk v0 (some true) ((Dspec_DrawConvex n a0).bind fun v1 => (Dimpl_Convex n v1).bind fun v2 => (Dspec_Convex n v1).bind fun v3 => frk (v2.2 != v3.2) (some false) (frk (v2.2 == 1) (some true) ((Dlaws_at a0 2).bind fun v4 => (Dlaws_at a0 3).bind fun v5 => (Dlaws_at a0 4).bind fun v6 => (Dlaws_at a0 5).bind fun v7 => (Dspec_SpotOf n (w64 ((Int.tmod v4 13) - 6)) (w64 ((Int.tmod v5 13) - 6)) (w64 ((Int.tmod v6 13) - 6)) (w64 (1 + (Int.tmod v7 2)))).bind fun v8 => (Dimpl_Where n v2.1 v8.1).bind fun v9 => frk (v2.2 == 2) (frk (v9 == (-1)) ((Dimpl_SolidOk n v2.1).bind fun v10 => some v10) (some false)) ((Dimpl_InCell n v1 v8.1).bind fun v11 => frk (v9 == v11) ((Dimpl_SolidOk n v2.1).bind fun v12 => frk v12 ((Dimpl_Cells n v2.1 true).bind fun v13 => some ((v13.length : Int) == 1)) (some false)) (some false)))))
theorem Tlaws_FnConvex {Y} (n : Nat) (a0 : (List Int)) (r : Bool) (h : Dlaws_FnConvex n a0 = some r) : Big Try.prog H Y (.call 6 [.sl false 1 a0.length ((eU8).f a0)] (lk []) (bl r) (lk [])) := by
  unfold Dlaws_FnConvex at h
  refine x_call (fn := Try.f6) (c := bodyOf Try.f6) (bs0 := []) Try.func6 (by kernel_rfl) (by kernel_rfl) ?_
  obtain ⟨v0, hv0, h⟩ := bind_some h
  refine x_frk 10 [(2, .call [] [] (bl v0) [])] (ocons (Tlaws_big (Y := Y) a0 _ hv0) onil) h (by kernel_rfl) (fun h => ?_) (fun h => ?_)
  · replace h := Option.some.inj h; subst h
    exact x_end 4 [] [] onil onil (by kernel_rfl)
  · obtain ⟨v1, hv1, h⟩ := bind_some h
    obtain ⟨v2, hv2, h⟩ := bind_some h
    obtain ⟨v3, hv3, h⟩ := bind_some h
    refine x_frk 36 [(1, .call [] [] (.sl false 4 v1.length ((ePl).f v1)) []), (2, .call [] [] (.tup [.agg [bl v2.1.inn, i64 v2.1.pl.A, i64 v2.1.pl.B, i64 v2.1.pl.C, i64 v2.1.pl.D, .sl true 6 v2.1.kids.length ((eSol true).f v2.1.kids)], i64 v2.2]) []), (7, .call [] [] (.tup [.agg [bl v3.1.inn, i64 v3.1.pl.A, i64 v3.1.pl.B, i64 v3.1.pl.C, i64 v3.1.pl.D, .sl true 6 v3.1.kids.length ((eSol true).f v3.1.kids)], i64 v3.2]) [])] (ocons (shSl (L := v1) ePl ePl sPl (Tspec_DrawConvex (Y := Y) n a0 _ hv1)) (ocons (Timpl_Convex (Y := Y) n v1 _ hv2) (ocons (Tspec_Convex (Y := Y) n v1 _ hv3) onil))) h (by kernel_rfl) (fun h => ?_) (fun h => ?_)
    · replace h := Option.some.inj h; subst h
      exact x_end 4 [] [] onil onil (by kernel_rfl)
    · refine x_frk 7 [] onil h (by kernel_rfl) (fun h => ?_) (fun h => ?_)
      · replace h := Option.some.inj h; subst h
        exact x_end 4 [] [] onil onil (by kernel_rfl)
      · obtain ⟨v4, hv4, h⟩ := bind_some h
        obtain ⟨v5, hv5, h⟩ := bind_some h
        obtain ⟨v6, hv6, h⟩ := bind_some h
        obtain ⟨v7, hv7, h⟩ := bind_some h
        obtain ⟨v8, hv8, h⟩ := bind_some h
        obtain ⟨v9, hv9, h⟩ := bind_some h
        refine x_frk 40 [(1, .call [] [] (i64 v4) []), (3, .call [] [] (i64 v5) []), (3, .call [] [] (i64 v6) []), (3, .call [] [] (i64 v7) []), (2, .call [] [] (.tup [.agg [i64 v8.1.X, i64 v8.1.Y, i64 v8.1.Z, i64 v8.1.W], bl v8.2]) []), (6, .rows [(eSol false).f v2.1.kids]), (1, .call [] [] (i64 v9) [])] (ocons (Tlaws_at (Y := Y) a0 2 _ hv4) (ocons (Tlaws_at (Y := Y) a0 3 _ hv5) (ocons (Tlaws_at (Y := Y) a0 4 _ hv6) (ocons (Tlaws_at (Y := Y) a0 5 _ hv7) (ocons (Tspec_SpotOf (Y := Y) n (w64 ((Int.tmod v4 13) - 6)) (w64 ((Int.tmod v5 13) - 6)) (w64 ((Int.tmod v6 13) - 6)) (w64 (1 + (Int.tmod v7 2))) _ hv8) (ocons (Enc.share (eSol true) (eSol false) (sSol true) v2.1.kids) (ocons (Timpl_Where (Y := Y) n v2.1 v8.1 _ hv9) onil))))))) h (by kernel_rfl) (fun h => ?_) (fun h => ?_)
        · refine x_frk 5 [] onil h (by kernel_rfl) (fun h => ?_) (fun h => ?_)
          · obtain ⟨v10, hv10, h⟩ := bind_some h
            replace h := Option.some.inj h; subst h
            exact x_end 5 [(0, .rows [(eSol false).f v2.1.kids]), (0, .call [] [] (bl v10) [])] [] (ocons (Enc.share (eSol true) (eSol false) (sSol true) v2.1.kids) (ocons (Timpl_SolidOk (Y := Y) n v2.1 _ hv10) onil)) onil (by kernel_rfl)
          · replace h := Option.some.inj h; subst h
            exact x_end 5 [] [] onil onil (by kernel_rfl)
        · obtain ⟨v11, hv11, h⟩ := bind_some h
          refine x_frk 9 [(3, .call [] [] (i64 v11) [])] (ocons (Timpl_InCell (Y := Y) n v1 v8.1 _ hv11) onil) h (by kernel_rfl) (fun h => ?_) (fun h => ?_)
          · obtain ⟨v12, hv12, h⟩ := bind_some h
            refine x_frk 4 [(0, .rows [(eSol false).f v2.1.kids]), (0, .call [] [] (bl v12) [])] (ocons (Enc.share (eSol true) (eSol false) (sSol true) v2.1.kids) (ocons (Timpl_SolidOk (Y := Y) n v2.1 _ hv12) onil)) h (by kernel_rfl) (fun h => ?_) (fun h => ?_)
            · obtain ⟨v13, hv13, h⟩ := bind_some h
              replace h := Option.some.inj h; subst h
              exact x_end 7 [(0, .rows [(eSol false).f v2.1.kids]), (0, .call [] [] (.sl false 1 v13.length ((ePls false).f v13)) [])] [] (ocons (Enc.share (eSol true) (eSol false) (sSol true) v2.1.kids) (ocons (shSl (L := v13) (ePls true) (ePls false) (sPls true) (Timpl_Cells (Y := Y) n v2.1 true _ hv13)) onil)) onil (by kernel_rfl)
            · replace h := Option.some.inj h; subst h
              exact x_end 7 [] [] onil onil (by kernel_rfl)
          · replace h := Option.some.inj h; subst h
            exact x_end 11 [] [] onil onil (by kernel_rfl)
end Evl.T
