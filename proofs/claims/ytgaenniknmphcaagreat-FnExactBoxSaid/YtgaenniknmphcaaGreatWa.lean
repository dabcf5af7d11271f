/- Walks. No condition. -/
import Derived.Test.YtgaenniknmphcaaGreatWy
namespace Evl.T
open Go Evl Go.Proofs
set_option maxRecDepth 100000
/-! impl.goesOn -/
def Dimpl_goesOn_0 (_n : Nat) (t7 : List Pl) (t8 b3_0 b3_1 b3_2 : Int) (rec0 : Int → Option Bool) (a : Int) : Option Bool :=
  match a with
  | t9 => frk (decide (t9 < t8)) ((lget t7 t9).bind fun v0 => (Dimpl_normal v0).bind fun v1 => (Dimpl_dot v1 (b3_0, b3_1, b3_2)).bind fun v2 => frk (decide (v2 < 0)) (some false) (rec0 (w64 (t9 + 1)))) (some true)
theorem Timpl_goesOn_0 {Y} (n : Nat) (t7 : List Pl) (t8 b3_0 b3_1 b3_2 : Int) : ∀ (m : Nat) (a : Int) (r : Bool), loopN (Dimpl_goesOn_0 n t7 t8 b3_0 b3_1 b3_2) m a = some r → Wk Tryz.prog H Y 105 [.code (cp [1, 0, 1, 0] (bodyOf Tryz.f105)), .blk 0, .code (cp [1, 1] (bodyOf Tryz.f105))] (FinX Tryz.prog Tryz.f105 [] (bl r) []) ⟨[(3, .ptr 3 0), (7, .sl false 4 t7.length ((ePl).f t7)), (8, i64 t8), (9, i64 a)], [(3, ⟨true, 0, [i64 b3_0, i64 b3_1, i64 b3_2]⟩)]⟩ := by
  refine loopN_ind (fun _rec0 hrec0 a r h => ?_)
  obtain ⟨t9, rfl⟩ : ∃ x, x = a := ⟨a, rfl⟩
  unfold Dimpl_goesOn_0 at h
  refine x_frk 6 [] onil h (by kernel_rfl) (fun h => ?_) (fun h => ?_)
  · obtain ⟨v0, hv0, h⟩ := bind_some h
    obtain ⟨v1, hv1, h⟩ := bind_some h
    obtain ⟨v2, hv2, h⟩ := bind_some h
    refine x_frk 18 [(0, .val (.cptr (ePl.c v0 ++ (ePl).f ((t7).drop (Int.toNat t9 + 1))))), (4, .call [] [] (.agg [i64 v1.1, i64 v1.2.1, i64 v1.2.2]) []), (1, .call [] [] (i64 v2) [])] (ocons (ix ePl hv0) (ocons (Timpl_normal (Y := Y) v0 _ hv1) (ocons (Timpl_dot (Y := Y) v1 (b3_0, b3_1, b3_2) _ hv2) onil))) h (by kernel_rfl) (fun h => ?_) (fun h => ?_)
    · replace h := Option.some.inj h; subst h
      exact x_end 4 [] [] onil onil (by kernel_rfl)
    · exact x_to 7 [] onil (hrec0 (w64 (t9 + 1)) r h) (by kernel_rfl)
  · replace h := Option.some.inj h; subst h
    exact x_end 5 [] [] onil onil (by kernel_rfl)
def Dimpl_goesOn (n : Nat) (a0 : (List Pl)) (a1 : (Int × Int × Int)) : Option Bool :=
  loopN (Dimpl_goesOn_0 n a0 (a0.length : Int) a1.1 a1.2.1 a1.2.2) n 0
theorem Timpl_goesOn {Y} (n : Nat) (a0 : (List Pl)) (a1 : (Int × Int × Int)) (r : Bool) (h : Dimpl_goesOn n a0 a1 = some r) : Big Tryz.prog H Y (.call 105 [.sl false 4 a0.length ((ePl).f a0), .agg [i64 a1.1, i64 a1.2.1, i64 a1.2.2]] (lk []) (bl r) (lk [])) := by
  unfold Dimpl_goesOn at h
  refine x_call (fn := Tryz.f105) (c := bodyOf Tryz.f105) (bs0 := []) Tryz.func105 (by kernel_rfl) (by kernel_rfl) ?_
  exact x_to 13 [] onil (Timpl_goesOn_0 n a0 (a0.length : Int) a1.1 a1.2.1 a1.2.2 n 0 r h) (by kernel_rfl)
/-! impl.bounded -/
def Dimpl_bounded_0 (_n : Nat) (rec1 : Int → Option Bool) (_rec0 : Int → Option Bool) (_t13 : Int) (_t20 : List Pl) (_t21 _b4_0 _b4_1 _b4_2 _b4_3 : Int) (_t0 : List Pl) (_t11 : List Pl) (_t12 t22 : Int) (t50 : Bool) : Option Bool :=
  frk t50 (some false) (rec1 (w64 (t22 + 1)))
theorem Timpl_bounded_0 {Y} (n : Nat) (rec1 : Int → Option Bool) (rec0 : Int → Option Bool) (t13 : Int) (t20 : List Pl) (t21 b4_0 b4_1 b4_2 b4_3 : Int) (t0 : List Pl) (t11 : List Pl) (t12 : Int) (hrec1 : ∀ (a : Int) (r : Bool), rec1 a = some r → Wk Tryz.prog H Y 49 [.code (cp [1, 1, 0, 1, 0, 0, 1, 1, 0, 0, 1, 1, 0] (bodyOf Tryz.f49)), .blk 2, .blk 1, .code (cp [1, 1, 0, 1, 0, 0, 1, 1, 1] (bodyOf Tryz.f49)), .lp (cp [1, 1, 0, 1, 0] (bodyOf Tryz.f49)), .blk 0, .code (cp [1, 1, 1] (bodyOf Tryz.f49))] (FinX Tryz.prog Tryz.f49 [] (bl r) []) ⟨[(0, .sl false 4 t0.length ((ePl).f t0)), (4, .ptr 4 0), (11, .sl false 4 t11.length ((ePl).f t11)), (12, i64 t12), (13, i64 t13), (20, .sl false 4 t20.length ((ePl).f t20)), (21, i64 t21), (22, i64 a)], [(4, ⟨true, 0, [i64 b4_0, i64 b4_1, i64 b4_2, i64 b4_3]⟩)]⟩) (_hrec0 : ∀ (a : Int) (r : Bool), rec0 a = some r → Wk Tryz.prog H Y 49 [.code (cp [1, 1, 0, 1, 0] (bodyOf Tryz.f49)), .blk 0, .code (cp [1, 1, 1] (bodyOf Tryz.f49))] (FinX Tryz.prog Tryz.f49 [] (bl r) []) ⟨[(0, .sl false 4 t0.length ((ePl).f t0)), (11, .sl false 4 t11.length ((ePl).f t11)), (12, i64 t12), (13, i64 a)], []⟩) (t22 : Int) (t50 r : Bool) (h : Dimpl_bounded_0 n rec1 rec0 t13 t20 t21 b4_0 b4_1 b4_2 b4_3 t0 t11 t12 t22 t50 = some r) : Wk Tryz.prog H Y 49 [.code (cp [1, 1, 0, 1, 0, 0, 1, 1, 0, 0, 1, 1, 0, 0, 1, 1, 0, 0, 1, 1, 1, 1] (bodyOf Tryz.f49)), .blk 3, .code (cp [1, 1, 0, 1, 0, 0, 1, 1, 0, 0, 1, 1, 0, 0, 1, 1, 1] (bodyOf Tryz.f49)), .lp (cp [1, 1, 0, 1, 0, 0, 1, 1, 0, 0, 1, 1, 0] (bodyOf Tryz.f49)), .blk 2, .blk 1, .code (cp [1, 1, 0, 1, 0, 0, 1, 1, 1] (bodyOf Tryz.f49)), .lp (cp [1, 1, 0, 1, 0] (bodyOf Tryz.f49)), .blk 0, .code (cp [1, 1, 1] (bodyOf Tryz.f49))] (FinX Tryz.prog Tryz.f49 [] (bl r) []) ⟨[(0, .sl false 4 t0.length ((ePl).f t0)), (4, .ptr 4 0), (11, .sl false 4 t11.length ((ePl).f t11)), (12, i64 t12), (13, i64 t13), (20, .sl false 4 t20.length ((ePl).f t20)), (21, i64 t21), (22, i64 t22), (50, bl t50)], [(4, ⟨true, 0, [i64 b4_0, i64 b4_1, i64 b4_2, i64 b4_3]⟩)]⟩ := by
  unfold Dimpl_bounded_0 at h
  refine x_frk 0 [] onil h (by kernel_rfl) (fun h => ?_) (fun h => ?_)
  · replace h := Option.some.inj h; subst h
    exact x_end 4 [] [] onil onil (by kernel_rfl)
  · exact x_to 7 [] onil (hrec1 (w64 (t22 + 1)) r h) (by kernel_rfl)
def Dimpl_bounded_1 (n : Nat) (rec0 : Int → Option Bool) (t0 : List Pl) (t11 : List Pl) (t12 t13 : Int) (t20 : List Pl) (t21 b4_0 b4_1 b4_2 b4_3 : Int) (rec1 : Int → Option Bool) (a : Int) : Option Bool :=
  match a with
  | t22 => frk (decide (t22 < t21)) ((lget t20 t22).bind fun v3 => (Dimpl_normal (Pl.mk b4_0 b4_1 b4_2 b4_3)).bind fun v4 => (Dimpl_normal v3).bind fun v5 => (Dimpl_crossOf v4 v5).bind fun v6 => frk (v6.1 == 0 && (v6.2.1 == 0 && (v6.2.2 == 0 && true))) (rec1 (w64 (t22 + 1))) ((Dimpl_goesOn n t0 v6).bind fun v7 => frk v7 (some false) ((Dimpl_goesOn n t0 (w64 (0 - v6.1), w64 (0 - v6.2.1), w64 (0 - v6.2.2))).bind fun v8 => Dimpl_bounded_0 n rec1 rec0 t13 t20 t21 b4_0 b4_1 b4_2 b4_3 t0 t11 t12 t22 v8))) (rec0 (w64 (t13 + 1)))
theorem Timpl_bounded_1 {Y} (n : Nat) (rec0 : Int → Option Bool) (t0 : List Pl) (t11 : List Pl) (t12 : Int) (hrec0 : ∀ (a : Int) (r : Bool), rec0 a = some r → Wk Tryz.prog H Y 49 [.code (cp [1, 1, 0, 1, 0] (bodyOf Tryz.f49)), .blk 0, .code (cp [1, 1, 1] (bodyOf Tryz.f49))] (FinX Tryz.prog Tryz.f49 [] (bl r) []) ⟨[(0, .sl false 4 t0.length ((ePl).f t0)), (11, .sl false 4 t11.length ((ePl).f t11)), (12, i64 t12), (13, i64 a)], []⟩) (t13 : Int) (t20 : List Pl) (t21 b4_0 b4_1 b4_2 b4_3 : Int) : ∀ (m : Nat) (a : Int) (r : Bool), loopN (Dimpl_bounded_1 n rec0 t0 t11 t12 t13 t20 t21 b4_0 b4_1 b4_2 b4_3) m a = some r → Wk Tryz.prog H Y 49 [.code (cp [1, 1, 0, 1, 0, 0, 1, 1, 0, 0, 1, 1, 0] (bodyOf Tryz.f49)), .blk 2, .blk 1, .code (cp [1, 1, 0, 1, 0, 0, 1, 1, 1] (bodyOf Tryz.f49)), .lp (cp [1, 1, 0, 1, 0] (bodyOf Tryz.f49)), .blk 0, .code (cp [1, 1, 1] (bodyOf Tryz.f49))] (FinX Tryz.prog Tryz.f49 [] (bl r) []) ⟨[(0, .sl false 4 t0.length ((ePl).f t0)), (4, .ptr 4 0), (11, .sl false 4 t11.length ((ePl).f t11)), (12, i64 t12), (13, i64 t13), (20, .sl false 4 t20.length ((ePl).f t20)), (21, i64 t21), (22, i64 a)], [(4, ⟨true, 0, [i64 b4_0, i64 b4_1, i64 b4_2, i64 b4_3]⟩)]⟩ := by
  refine loopN_ind (fun rec1 hrec1 a r h => ?_)
  obtain ⟨t22, rfl⟩ : ∃ x, x = a := ⟨a, rfl⟩
  unfold Dimpl_bounded_1 at h
  refine x_frk 6 [] onil h (by kernel_rfl) (fun h => ?_) (fun h => ?_)
  · obtain ⟨v3, hv3, h⟩ := bind_some h
    obtain ⟨v4, hv4, h⟩ := bind_some h
    obtain ⟨v5, hv5, h⟩ := bind_some h
    obtain ⟨v6, hv6, h⟩ := bind_some h
    refine x_frk 27 [(0, .val (.cptr (ePl.c v3 ++ (ePl).f ((t20).drop (Int.toNat t22 + 1))))), (4, .call [] [] (.agg [i64 v4.1, i64 v4.2.1, i64 v4.2.2]) []), (1, .call [] [] (.agg [i64 v5.1, i64 v5.2.1, i64 v5.2.2]) []), (0, .call [] [] (.agg [i64 v6.1, i64 v6.2.1, i64 v6.2.2]) [])] (ocons (ix ePl hv3) (ocons (Timpl_normal (Y := Y) (Pl.mk b4_0 b4_1 b4_2 b4_3) _ hv4) (ocons (Timpl_normal (Y := Y) v3 _ hv5) (ocons (Timpl_crossOf (Y := Y) v4 v5 _ hv6) onil)))) h (by kernel_rfl) (fun h => ?_) (fun h => ?_)
    · exact x_to 6 [] onil (hrec1 (w64 (t22 + 1)) r h) (by kernel_rfl)
    · obtain ⟨v7, hv7, h⟩ := bind_some h
      refine x_frk 7 [(2, .call [] [] (bl v7) [])] (ocons (Timpl_goesOn (Y := Y) n t0 v6 _ hv7) onil) h (by kernel_rfl) (fun h => ?_) (fun h => ?_)
      · replace h := Option.some.inj h; subst h
        exact x_end 19 [] [] onil onil (by kernel_rfl)
      · obtain ⟨v8, hv8, h⟩ := bind_some h
        exact x_to 14 [(11, .call [] [] (bl v8) [])] (ocons (Timpl_goesOn (Y := Y) n t0 (w64 (0 - v6.1), w64 (0 - v6.2.1), w64 (0 - v6.2.2)) _ hv8) onil) (Timpl_bounded_0 n rec1 rec0 t13 t20 t21 b4_0 b4_1 b4_2 b4_3 t0 t11 t12 hrec1 hrec0 t22 v8 r h) (by kernel_rfl)
  · exact x_to 7 [] onil (hrec0 (w64 (t13 + 1)) r h) (by kernel_rfl)
def Dimpl_bounded_2 (n : Nat) (t0 : List Pl) (t11 : List Pl) (t12 : Int) (rec0 : Int → Option Bool) (a : Int) : Option Bool :=
  match a with
  | t13 => frk (decide (t13 < t12)) ((lget t11 t13).bind fun v1 => (lsl t0 0 t13).bind fun v2 => loopN (Dimpl_bounded_1 n rec0 t0 t11 t12 t13 v2 (v2.length : Int) v1.A v1.B v1.C v1.D) n 0) (some true)
theorem Timpl_bounded_2 {Y} (n : Nat) (t0 : List Pl) (t11 : List Pl) (t12 : Int) : ∀ (m : Nat) (a : Int) (r : Bool), loopN (Dimpl_bounded_2 n t0 t11 t12) m a = some r → Wk Tryz.prog H Y 49 [.code (cp [1, 1, 0, 1, 0] (bodyOf Tryz.f49)), .blk 0, .code (cp [1, 1, 1] (bodyOf Tryz.f49))] (FinX Tryz.prog Tryz.f49 [] (bl r) []) ⟨[(0, .sl false 4 t0.length ((ePl).f t0)), (11, .sl false 4 t11.length ((ePl).f t11)), (12, i64 t12), (13, i64 a)], []⟩ := by
  refine loopN_ind (fun rec0 hrec0 a r h => ?_)
  obtain ⟨t13, rfl⟩ : ∃ x, x = a := ⟨a, rfl⟩
  unfold Dimpl_bounded_2 at h
  refine x_frk 6 [] onil h (by kernel_rfl) (fun h => ?_) (fun h => ?_)
  · obtain ⟨v1, hv1, h⟩ := bind_some h
    obtain ⟨v2, hv2, h⟩ := bind_some h
    exact x_to 21 [(1, .val (.cptr (ePl.c v1 ++ (ePl).f ((t11).drop (Int.toNat t13 + 1))))), (6, .val (.sl false 4 v2.length ((ePl).f v2)))] (ocons (ix ePl hv1) (ocons (slF ePl hv2) onil)) (Timpl_bounded_1 n rec0 t0 t11 t12 hrec0 t13 v2 (v2.length : Int) v1.A v1.B v1.C v1.D n 0 r h) (by kernel_rfl)
  · replace h := Option.some.inj h; subst h
    exact x_end 5 [] [] onil onil (by kernel_rfl)
def Dimpl_bounded (n : Nat) (a0 : (List Pl)) : Option Bool :=
  (Dimpl_Rank n a0).bind fun v0 => frk (decide (v0 < 3)) (some false) (loopN (Dimpl_bounded_2 n a0 a0 (a0.length : Int)) n 0)
theorem Timpl_bounded {Y} (n : Nat) (a0 : (List Pl)) (r : Bool) (h : Dimpl_bounded n a0 = some r) : Big Tryz.prog H Y (.call 49 [.sl false 4 a0.length ((ePl).f a0)] (lk []) (bl r) (lk [])) := by
  unfold Dimpl_bounded at h
  refine x_call (fn := Tryz.f49) (c := bodyOf Tryz.f49) (bs0 := []) Tryz.func49 (by kernel_rfl) (by kernel_rfl) ?_
  obtain ⟨v0, hv0, h⟩ := bind_some h
  refine x_frk 11 [(2, .call [] [] (i64 v0) [])] (ocons (Timpl_Rank (Y := Y) n a0 _ hv0) onil) h (by kernel_rfl) (fun h => ?_) (fun h => ?_)
  · replace h := Option.some.inj h; subst h
    exact x_end 4 [] [] onil onil (by kernel_rfl)
  · exact x_to 9 [] onil (Timpl_bounded_2 n a0 a0 (a0.length : Int) n 0 r h) (by kernel_rfl)
/-! impl.meet3 -/
def Dimpl_meet3_0 (_n : Nat) (t8 t9 t10 t11 t12 _b6_0 _b6_1 _b6_2 _b6_3 : Int) : Option (Spot × Bool) :=
  (qt .i64 t9 t12).bind fun v5 => (qt .i64 t10 t12).bind fun v6 => (qt .i64 t11 t12).bind fun v7 => (qt .i64 t8 t12).bind fun v8 => some ((Spot.mk v5 v6 v7 v8), true)
theorem Timpl_meet3_0 {Y} (n : Nat) (t8 t9 t10 t11 t12 b6_0 b6_1 b6_2 b6_3 : Int) (r : (Spot × Bool)) (h : Dimpl_meet3_0 n t8 t9 t10 t11 t12 b6_0 b6_1 b6_2 b6_3 = some r) : Wk Tryz.prog H Y 106 [.code (cp [1, 1, 1, 1, 1, 1, 1, 1, 0] (bodyOf Tryz.f106)), .code (cp [1, 1, 1, 1, 1, 1, 1, 1, 1] (bodyOf Tryz.f106))] (FinX Tryz.prog Tryz.f106 [] (.tup [.agg [i64 r.1.X, i64 r.1.Y, i64 r.1.Z, i64 r.1.W], bl r.2]) []) ⟨[(6, .ptr 6 0), (8, i64 t8), (9, i64 t9), (10, i64 t10), (11, i64 t11), (12, i64 t12)], [(6, ⟨true, 0, [i64 b6_0, i64 b6_1, i64 b6_2, i64 b6_3]⟩)]⟩ := by
  unfold Dimpl_meet3_0 at h
  obtain ⟨v5, hv5, h⟩ := bind_some h
  obtain ⟨v6, hv6, h⟩ := bind_some h
  obtain ⟨v7, hv7, h⟩ := bind_some h
  obtain ⟨v8, hv8, h⟩ := bind_some h
  replace h := Option.some.inj h; subst h
  exact x_end 17 [(2, .val (i64 v5)), (2, .val (i64 v6)), (2, .val (i64 v7)), (2, .val (i64 v8))] [] (ocons (qtOk hv5) (ocons (qtOk hv6) (ocons (qtOk hv7) (ocons (qtOk hv8) onil)))) onil (by kernel_rfl)
def Dimpl_meet3 (n : Nat) (a0 : Pl) (a1 : Pl) (a2 : Pl) : Option (Spot × Bool) :=
  (Dimpl_det3 a0 a1 a2).bind fun v0 => frk (v0 == 0) (some ((Spot.mk 0 0 0 0), false)) ((Dimpl_det (w64 (0 - a0.D), a0.B, a0.C) (w64 (0 - a1.D), a1.B, a1.C) (w64 (0 - a2.D), a2.B, a2.C)).bind fun v1 => (Dimpl_det (a0.A, w64 (0 - a0.D), a0.C) (a1.A, w64 (0 - a1.D), a1.C) (a2.A, w64 (0 - a2.D), a2.C)).bind fun v2 => (Dimpl_det (a0.A, a0.B, w64 (0 - a0.D)) (a1.A, a1.B, w64 (0 - a1.D)) (a2.A, a2.B, w64 (0 - a2.D))).bind fun v3 => (Dimpl_divisor n [v1, v2, v3, v0]).bind fun v4 => frk (decide (v0 < 0)) (Dimpl_meet3_0 n v0 v1 v2 v3 (w64 (0 - v4)) 0 0 0 0) (Dimpl_meet3_0 n v0 v1 v2 v3 v4 0 0 0 0))
theorem Timpl_meet3 {Y} (n : Nat) (a0 : Pl) (a1 : Pl) (a2 : Pl) (r : (Spot × Bool)) (h : Dimpl_meet3 n a0 a1 a2 = some r) : Big Tryz.prog H Y (.call 106 [.agg [i64 a0.A, i64 a0.B, i64 a0.C, i64 a0.D], .agg [i64 a1.A, i64 a1.B, i64 a1.C, i64 a1.D], .agg [i64 a2.A, i64 a2.B, i64 a2.C, i64 a2.D]] (lk []) (.tup [.agg [i64 r.1.X, i64 r.1.Y, i64 r.1.Z, i64 r.1.W], bl r.2]) (lk [])) := by
  unfold Dimpl_meet3 at h
  refine x_call (fn := Tryz.f106) (c := bodyOf Tryz.f106) (bs0 := []) Tryz.func106 (by kernel_rfl) (by kernel_rfl) ?_
  obtain ⟨v0, hv0, h⟩ := bind_some h
  refine x_frk 22 [(8, .call [] [] (i64 v0) [])] (ocons (Timpl_det3 (Y := Y) a0 a1 a2 _ hv0) onil) h (by kernel_rfl) (fun h => ?_) (fun h => ?_)
  · replace h := Option.some.inj h; subst h
    exact x_end 6 [] [] onil onil (by kernel_rfl)
  · obtain ⟨v1, hv1, h⟩ := bind_some h
    obtain ⟨v2, hv2, h⟩ := bind_some h
    obtain ⟨v3, hv3, h⟩ := bind_some h
    obtain ⟨v4, hv4, h⟩ := bind_some h
    refine x_frk 104 [(24, .call [] [] (i64 v1) []), (25, .call [] [] (i64 v2) []), (25, .call [] [] (i64 v3) []), (6, .call [] [(eInt).f [v1, v2, v3, v0]] (i64 v4) [])] (ocons (Timpl_det (Y := Y) (w64 (0 - a0.D), a0.B, a0.C) (w64 (0 - a1.D), a1.B, a1.C) (w64 (0 - a2.D), a2.B, a2.C) _ hv1) (ocons (Timpl_det (Y := Y) (a0.A, w64 (0 - a0.D), a0.C) (a1.A, w64 (0 - a1.D), a1.C) (a2.A, w64 (0 - a2.D), a2.C) _ hv2) (ocons (Timpl_det (Y := Y) (a0.A, a0.B, w64 (0 - a0.D)) (a1.A, a1.B, w64 (0 - a1.D)) (a2.A, a2.B, w64 (0 - a2.D)) _ hv3) (ocons (Timpl_divisor (Y := Y) n [v1, v2, v3, v0] _ hv4) (ocons (len_row (L := [v1, v2, v3, v0]) eInt) (ocons (Enc.share eInt eInt sInt [v1, v2, v3, v0]) onil)))))) h (by kernel_rfl) (fun h => ?_) (fun h => ?_)
    · exact x_to 6 [] onil (Timpl_meet3_0 n v0 v1 v2 v3 (w64 (0 - v4)) 0 0 0 0 r h) (by kernel_rfl)
    · exact x_to 2 [] onil (Timpl_meet3_0 n v0 v1 v2 v3 v4 0 0 0 0 r h) (by kernel_rfl)
/-! impl.sideAt -/
def Dimpl_sideAt (a0 : Pl) (a1 : Spot) : Option Int :=
  (Dimpl_sign (w64 ((w64 ((w64 ((w64 (a0.A * a1.X)) + (w64 (a0.B * a1.Y)))) + (w64 (a0.C * a1.Z)))) + (w64 (a0.D * a1.W))))).bind fun v0 => some v0
theorem Timpl_sideAt {Y} (a0 : Pl) (a1 : Spot) (r : Int) (h : Dimpl_sideAt a0 a1 = some r) : Big Tryz.prog H Y (.call 152 [.agg [i64 a0.A, i64 a0.B, i64 a0.C, i64 a0.D], .agg [i64 a1.X, i64 a1.Y, i64 a1.Z, i64 a1.W]] (lk []) (i64 r) (lk [])) := by
  unfold Dimpl_sideAt at h
  refine x_call (fn := Tryz.f152) (c := bodyOf Tryz.f152) (bs0 := []) Tryz.func152 (by kernel_rfl) (by kernel_rfl) ?_
  obtain ⟨v0, hv0, h⟩ := bind_some h
  replace h := Option.some.inj h; subst h
  exact x_end 34 [(26, .call [] [] (i64 v0) [])] [] (ocons (Timpl_sign (Y := Y) (w64 ((w64 ((w64 ((w64 (a0.A * a1.X)) + (w64 (a0.B * a1.Y)))) + (w64 (a0.C * a1.Z)))) + (w64 (a0.D * a1.W)))) _ hv0) onil) onil (by kernel_rfl)
/-! impl.inCell -/
def Dimpl_inCell_0 (_n : Nat) (t8 : List Pl) (t9 b3_0 b3_1 b3_2 b3_3 : Int) (rec0 : (Int × Int) → Option Int) (a : (Int × Int)) : Option Int :=
  match a with
  | (t5, t10) => frk (decide (t10 < t9)) ((lget t8 t10).bind fun v0 => (Dimpl_sideAt v0 (Spot.mk b3_0 b3_1 b3_2 b3_3)).bind fun v1 => rec0 (minN t5 [v1], w64 (t10 + 1))) (some t5)
theorem Timpl_inCell_0 {Y} (n : Nat) (t8 : List Pl) (t9 b3_0 b3_1 b3_2 b3_3 : Int) : ∀ (m : Nat) (a : (Int × Int)) (r : Int), loopN (Dimpl_inCell_0 n t8 t9 b3_0 b3_1 b3_2 b3_3) m a = some r → Wk Tryz.prog H Y 90 [.code (cp [1, 1, 0, 1, 0] (bodyOf Tryz.f90)), .blk 0, .code (cp [1, 1, 1] (bodyOf Tryz.f90))] (FinX Tryz.prog Tryz.f90 [] (i64 r) []) ⟨[(3, .ptr 3 0), (5, i64 a.1), (8, .sl false 4 t8.length ((ePl).f t8)), (9, i64 t9), (10, i64 a.2)], [(3, ⟨true, 0, [i64 b3_0, i64 b3_1, i64 b3_2, i64 b3_3]⟩)]⟩ := by
  refine loopN_ind (fun _rec0 hrec0 a r h => ?_)
  obtain ⟨t5, t10⟩ := a
  unfold Dimpl_inCell_0 at h
  refine x_frk 6 [] onil h (by kernel_rfl) (fun h => ?_) (fun h => ?_)
  · obtain ⟨v0, hv0, h⟩ := bind_some h
    obtain ⟨v1, hv1, h⟩ := bind_some h
    exact x_to 24 [(0, .val (.cptr (ePl.c v0 ++ (ePl).f ((t8).drop (Int.toNat t10 + 1))))), (6, .call [] [] (i64 v1) []), (0, .val (.lit (.int .i64 (minN t5 [v1]))))] (ocons (ix ePl hv0) (ocons (Timpl_sideAt (Y := Y) v0 (Spot.mk b3_0 b3_1 b3_2 b3_3) _ hv1) (ocons (minNok .i64 [v1] t5) onil))) (hrec0 (minN t5 [v1], w64 (t10 + 1)) r h) (by kernel_rfl)
  · replace h := Option.some.inj h; subst h
    exact x_end 6 [] [] onil onil (by kernel_rfl)
def Dimpl_inCell (n : Nat) (a0 : (List Pl)) (a1 : Spot) : Option Int :=
  loopN (Dimpl_inCell_0 n a0 (a0.length : Int) a1.X a1.Y a1.Z a1.W) n (1, 0)
theorem Timpl_inCell {Y} (n : Nat) (a0 : (List Pl)) (a1 : Spot) (r : Int) (h : Dimpl_inCell n a0 a1 = some r) : Big Tryz.prog H Y (.call 90 [.sl false 4 a0.length ((ePl).f a0), .agg [i64 a1.X, i64 a1.Y, i64 a1.Z, i64 a1.W]] (lk []) (i64 r) (lk [])) := by
  unfold Dimpl_inCell at h
  refine x_call (fn := Tryz.f90) (c := bodyOf Tryz.f90) (bs0 := []) Tryz.func90 (by kernel_rfl) (by kernel_rfl) ?_
  exact x_to 17 [] onil (Timpl_inCell_0 n a0 (a0.length : Int) a1.X a1.Y a1.Z a1.W n (1, 0) r h) (by kernel_rfl)
/-! cmp.Or[int] -/
def Dcmp_Or_0 (_n : Nat) (t3 : Int) (t6 : List Int) (t7 : Int) (rec0 : Int → Option Int) (a : Int) : Option Int :=
  match a with
  | t8 => frk (decide (t8 < t7)) ((lget t6 t8).bind fun v0 => frk (v0 != t3) (some v0) (rec0 (w64 (t8 + 1)))) (some t3)
theorem Tcmp_Or_0 {Y} (n : Nat) (t3 : Int) (t6 : List Int) (t7 : Int) : ∀ (m : Nat) (a r : Int), loopN (Dcmp_Or_0 n t3 t6 t7) m a = some r → Wk Tryz.prog H Y 168 [.code (cp [1, 1, 0, 1, 0] (bodyOf Tryz.f168)), .blk 0, .code (cp [1, 1, 1] (bodyOf Tryz.f168))] (FinX Tryz.prog Tryz.f168 [] (i64 r) []) ⟨[(3, i64 t3), (6, .sl false 1 t6.length ((eInt).f t6)), (7, i64 t7), (8, i64 a)], []⟩ := by
  refine loopN_ind (fun _rec0 hrec0 a r h => ?_)
  obtain ⟨t8, rfl⟩ : ∃ x, x = a := ⟨a, rfl⟩
  unfold Dcmp_Or_0 at h
  refine x_frk 6 [] onil h (by kernel_rfl) (fun h => ?_) (fun h => ?_)
  · obtain ⟨v0, hv0, h⟩ := bind_some h
    refine x_frk 15 [(0, .val (.cptr (eInt.c v0 ++ (eInt).f ((t6).drop (Int.toNat t8 + 1)))))] (ocons (ix eInt hv0) onil) h (by kernel_rfl) (fun h => ?_) (fun h => ?_)
    · replace h := Option.some.inj h; subst h
      exact x_end 5 [] [] onil onil (by kernel_rfl)
    · exact x_to 7 [] onil (hrec0 (w64 (t8 + 1)) r h) (by kernel_rfl)
  · replace h := Option.some.inj h; subst h
    exact x_end 6 [] [] onil onil (by kernel_rfl)
def Dcmp_Or (n : Nat) (a0 : (List Int)) : Option Int :=
  loopN (Dcmp_Or_0 n 0 a0 (a0.length : Int)) n 0
theorem Tcmp_Or {Y} (n : Nat) (a0 : (List Int)) (r : Int) (h : Dcmp_Or n a0 = some r) : Big Tryz.prog H Y (.call 168 [.sl false 1 a0.length ((eInt).f a0)] (lk []) (i64 r) (lk [])) := by
  unfold Dcmp_Or at h
  refine x_call (fn := Tryz.f168) (c := bodyOf Tryz.f168) (bs0 := []) Tryz.func168 (by kernel_rfl) (by kernel_rfl) ?_
  exact x_to 16 [] onil (Tcmp_Or_0 n 0 a0 (a0.length : Int) n 0 r h) (by kernel_rfl)
/-! impl.cmpSpot -/
def Dimpl_cmpSpot (n : Nat) (a0 : Spot) (a1 : Spot) : Option Int :=
  (Dcmp_Compare (w64 (a0.X * a1.W)) (w64 (a1.X * a0.W))).bind fun v0 => (Dcmp_Compare (w64 (a0.Y * a1.W)) (w64 (a1.Y * a0.W))).bind fun v1 => (Dcmp_Compare (w64 (a0.Z * a1.W)) (w64 (a1.Z * a0.W))).bind fun v2 => (Dcmp_Or n [v0, v1, v2]).bind fun v3 => some v3
theorem Timpl_cmpSpot {Y} (n : Nat) (a0 : Spot) (a1 : Spot) (r : Int) (h : Dimpl_cmpSpot n a0 a1 = some r) : Big Tryz.prog H Y (.call 108 [.agg [i64 a0.X, i64 a0.Y, i64 a0.Z, i64 a0.W], .agg [i64 a1.X, i64 a1.Y, i64 a1.Z, i64 a1.W]] (lk []) (i64 r) (lk [])) := by
  unfold Dimpl_cmpSpot at h
  refine x_call (fn := Tryz.f108) (c := bodyOf Tryz.f108) (bs0 := []) Tryz.func108 (by kernel_rfl) (by kernel_rfl) ?_
  obtain ⟨v0, hv0, h⟩ := bind_some h
  obtain ⟨v1, hv1, h⟩ := bind_some h
  obtain ⟨v2, hv2, h⟩ := bind_some h
  obtain ⟨v3, hv3, h⟩ := bind_some h
  replace h := Option.some.inj h; subst h
  exact x_end 45 [(13, .call [] [] (i64 v0) []), (10, .call [] [] (i64 v1) []), (10, .call [] [] (i64 v2) []), (1, .call [] [(eInt).f [v0, v1, v2]] (i64 v3) [])] [] (ocons (Tcmp_Compare (Y := Y) (w64 (a0.X * a1.W)) (w64 (a1.X * a0.W)) _ hv0) (ocons (Tcmp_Compare (Y := Y) (w64 (a0.Y * a1.W)) (w64 (a1.Y * a0.W)) _ hv1) (ocons (Tcmp_Compare (Y := Y) (w64 (a0.Z * a1.W)) (w64 (a1.Z * a0.W)) _ hv2) (ocons (Tcmp_Or (Y := Y) n [v0, v1, v2] _ hv3) (ocons (len_row (L := [v0, v1, v2]) eInt) (ocons (Enc.share eInt eInt sInt [v0, v1, v2]) onil)))))) onil (by kernel_rfl)
theorem cmpD (a b : Int) : Dcmp_Compare a b = some (cmpI a b) := by
  unfold Dcmp_Compare Dcmp_isNaN cmpI frk
  simp only [Option.bind_some, bne_self_eq_false]
  by_cases h1 : a < b
  · simp [h1]
  · by_cases h2 : a > b <;> simp [h1, h2]
theorem orD3 (a b c : Int) : Dcmp_Or 9 [a, b, c] = some (or3 a b c) := by
  unfold Dcmp_Or or3
  by_cases ha : a = 0
  · by_cases hb : b = 0
    · by_cases hc : c = 0
      · subst ha hb hc; rfl
      · subst ha hb; simp [loopN, Dcmp_Or_0, frk, lget, w64, IntKind.wrap, IntKind.bits, IntKind.signed, hc]
    · subst ha; simp [loopN, Dcmp_Or_0, frk, lget, w64, IntKind.wrap, IntKind.bits, IntKind.signed, hb]
  · simp [loopN, Dcmp_Or_0, frk, lget, ha]
theorem cmpSpot_D {x y : Spot} (hx : SpG x) (hy : SpG y) : Dimpl_cmpSpot 9 x y = some (cmpS x y) := by
  obtain ⟨⟨x1, x2⟩, x3, x4, x5, -⟩ := hx
  obtain ⟨⟨y1, y2⟩, y3, y4, y5, -⟩ := hy
  have hxw : x.W.natAbs ≤ 1000000000 := by omega
  have hyw : y.W.natAbs ≤ 1000000000 := by omega
  unfold Dimpl_cmpSpot
  simp only [cmpD, Option.bind_some, orD3, w64m x3 hyw, w64m y3 hxw, w64m x4 hyw, w64m y4 hxw, w64m x5 hyw, w64m y5 hxw]
  rfl
theorem srtSpot_t {l l' : List Spot} (h : DsrtSpot l = some l') : l'.length = l.length ∧ TurnOk Tryz.prog 107 (fun u => #[u, .func (.func 108) #[] #[]]) (.sl true 4 l.length (eSpot.f l)) (.tuple #[]) (.sl true 4 l.length (eSpot.f l')) := by
  unfold DsrtSpot at h
  split at h
  · rename_i hl
    replace h := Option.some.inj h; subst h
    refine ⟨by rw [List.length_map, List.length_mergeSort, List.length_pmap], ?_⟩
    have := sort_turn Tryz.sortSpot 4 (by decide) Tryz.isAgg43 Tryz.sizeOf43 vSpt vSpt_k vSpt_pl cmpSt swoS totS 108 (Go.Proofs.enters_of Tryz.func108 (by kernel_rfl) rfl) (cmp_of eqW mixW (by decide) vSpt_pl fun x y => Timpl_cmpSpot 9 x.1 y.1 _ (cmpSpot_D x.2 y.2)) (l.pmap Subtype.mk hl.1) (by rw [List.length_pmap]; exact hl.2)
    have e : (l.pmap Subtype.mk hl.1).map (fun x : Spt => x.1) = l := by simp [List.map_pmap]
    rw [vSpt_f, vSpt_f, e, List.length_pmap] at this
    exact this
  · cases h
theorem cutSpot_t {l l' : List Spot} (h : DcutSpot l = some l') : CutOk Tryz.prog 110 109 (.sl true 4 l.length (eSpot.f l)) (.sl true 4 l'.length (eSpot.f l')) := by
  unfold DcutSpot at h
  split at h
  · rename_i hl
    replace h := Option.some.inj h; subst h
    have := cut_turn Tryz.cutSpot (by decide) vSp vSp_k vSp_pl (fun x y w => (eqvSp (⟨by kernel_rfl, by kernel_rfl, by kernel_rfl, by kernel_rfl, by kernel_rfl⟩ : EqS Tryz.prog 43) (by kernel_rfl) x y w).1) (fun x y w => (eqvSp (⟨by kernel_rfl, by kernel_rfl, by kernel_rfl, by kernel_rfl, by kernel_rfl⟩ : EqS Tryz.prog 43) (by kernel_rfl) x y w).2.1) (fun op a b x y w => (eqvSp (⟨by kernel_rfl, by kernel_rfl, by kernel_rfl, by kernel_rfl, by kernel_rfl⟩ : EqS Tryz.prog 43) (by kernel_rfl) x y w).2.2 op a b) ⟨0, 0, 0, 0⟩ Tryz.zeroValue43 Tryz.clipSpot Tryz.cutNilSpot l (Nat.le_of_lt hl)
    rw [vSp_f, vSp_f] at this
    exact this
  · cases h
/-! impl.corners -/
def Dimpl_corners_0 (_n : Nat) (rec2 : (Int × List Spot) → Option (List Spot)) (_rec1 : (Int × List Spot) → Option (List Spot)) (_rec0 : (Int × List Spot) → Option (List Spot)) (_t23 : Int) (_t30 : List Pl) (_t31 _b7_0 _b7_1 _b7_2 _b7_3 _t14 : Int) (_t21 : List Pl) (_t22 _b5_0 _b5_1 _b5_2 _b5_3 : Int) (_t0 : List Pl) (_t12 : List Pl) (_t13 t32 : Int) (t49 : Bool) (b10_0 b10_1 b10_2 b10_3 : Int) (l503 : List Spot) : Option (List Spot) :=
  frk t49 (chk (apB 32 (l503.length + 1)) (rec2 (w64 (t32 + 1), (l503 ++ [(Spot.mk b10_0 b10_1 b10_2 b10_3)])))) (rec2 (w64 (t32 + 1), l503))
theorem Timpl_corners_0 {Y} (n : Nat) (rec2 : (Int × List Spot) → Option (List Spot)) (rec1 : (Int × List Spot) → Option (List Spot)) (rec0 : (Int × List Spot) → Option (List Spot)) (t23 : Int) (t30 : List Pl) (t31 b7_0 b7_1 b7_2 b7_3 t14 : Int) (t21 : List Pl) (t22 b5_0 b5_1 b5_2 b5_3 : Int) (t0 : List Pl) (t12 : List Pl) (t13 : Int) (hrec2 : ∀ (a : (Int × List Spot)) (r : (List Spot)), rec2 a = some r → Wk Tryz.prog H Y 50 [.code (cp [1, 1, 0, 1, 0, 0, 1, 1, 0, 0, 1, 1, 0, 0, 1, 1, 0, 0, 1, 1, 0] (bodyOf Tryz.f50)), .blk 4, .blk 3, .code (cp [1, 1, 0, 1, 0, 0, 1, 1, 0, 0, 1, 1, 0, 0, 1, 1, 1] (bodyOf Tryz.f50)), .lp (cp [1, 1, 0, 1, 0, 0, 1, 1, 0, 0, 1, 1, 0] (bodyOf Tryz.f50)), .blk 2, .blk 1, .code (cp [1, 1, 0, 1, 0, 0, 1, 1, 1] (bodyOf Tryz.f50)), .lp (cp [1, 1, 0, 1, 0] (bodyOf Tryz.f50)), .blk 0, .code (cp [1, 1, 1] (bodyOf Tryz.f50))] (FinX Tryz.prog Tryz.f50 [] (.sl true 4 r.length ((eSpot).f r)) []) ⟨[(0, .sl false 4 t0.length ((ePl).f t0)), (3, .msl 503 a.2.length), (5, .ptr 5 0), (7, .ptr 7 0), (12, .sl false 4 t12.length ((ePl).f t12)), (13, i64 t13), (14, i64 t14), (21, .sl false 4 t21.length ((ePl).f t21)), (22, i64 t22), (23, i64 t23), (30, .sl false 4 t30.length ((ePl).f t30)), (31, i64 t31), (32, i64 a.1)], [(5, ⟨true, 0, [i64 b5_0, i64 b5_1, i64 b5_2, i64 b5_3]⟩), (7, ⟨true, 0, [i64 b7_0, i64 b7_1, i64 b7_2, i64 b7_3]⟩), (503, ⟨true, 4, (eSpot).f a.2⟩)]⟩) (_hrec1 : ∀ (a : (Int × List Spot)) (r : (List Spot)), rec1 a = some r → Wk Tryz.prog H Y 50 [.code (cp [1, 1, 0, 1, 0, 0, 1, 1, 0, 0, 1, 1, 0] (bodyOf Tryz.f50)), .blk 2, .blk 1, .code (cp [1, 1, 0, 1, 0, 0, 1, 1, 1] (bodyOf Tryz.f50)), .lp (cp [1, 1, 0, 1, 0] (bodyOf Tryz.f50)), .blk 0, .code (cp [1, 1, 1] (bodyOf Tryz.f50))] (FinX Tryz.prog Tryz.f50 [] (.sl true 4 r.length ((eSpot).f r)) []) ⟨[(0, .sl false 4 t0.length ((ePl).f t0)), (3, .msl 503 a.2.length), (5, .ptr 5 0), (12, .sl false 4 t12.length ((ePl).f t12)), (13, i64 t13), (14, i64 t14), (21, .sl false 4 t21.length ((ePl).f t21)), (22, i64 t22), (23, i64 a.1)], [(5, ⟨true, 0, [i64 b5_0, i64 b5_1, i64 b5_2, i64 b5_3]⟩), (503, ⟨true, 4, (eSpot).f a.2⟩)]⟩) (_hrec0 : ∀ (a : (Int × List Spot)) (r : (List Spot)), rec0 a = some r → Wk Tryz.prog H Y 50 [.code (cp [1, 1, 0, 1, 0] (bodyOf Tryz.f50)), .blk 0, .code (cp [1, 1, 1] (bodyOf Tryz.f50))] (FinX Tryz.prog Tryz.f50 [] (.sl true 4 r.length ((eSpot).f r)) []) ⟨[(0, .sl false 4 t0.length ((ePl).f t0)), (3, .msl 503 a.2.length), (12, .sl false 4 t12.length ((ePl).f t12)), (13, i64 t13), (14, i64 a.1)], [(503, ⟨true, 4, (eSpot).f a.2⟩)]⟩) (t32 : Int) (t49 : Bool) (b10_0 b10_1 b10_2 b10_3 : Int) (l503 : List Spot) (r : (List Spot)) (h : Dimpl_corners_0 n rec2 rec1 rec0 t23 t30 t31 b7_0 b7_1 b7_2 b7_3 t14 t21 t22 b5_0 b5_1 b5_2 b5_3 t0 t12 t13 t32 t49 b10_0 b10_1 b10_2 b10_3 l503 = some r) : Wk Tryz.prog H Y 50 [.code (cp [1, 1, 0, 1, 0, 0, 1, 1, 0, 0, 1, 1, 0, 0, 1, 1, 0, 0, 1, 1, 0, 0, 1, 1, 0, 0, 1, 1, 1] (bodyOf Tryz.f50)), .blk 5, .code (cp [1, 1, 0, 1, 0, 0, 1, 1, 0, 0, 1, 1, 0, 0, 1, 1, 0, 0, 1, 1, 0, 0, 1, 1, 1] (bodyOf Tryz.f50)), .lp (cp [1, 1, 0, 1, 0, 0, 1, 1, 0, 0, 1, 1, 0, 0, 1, 1, 0, 0, 1, 1, 0] (bodyOf Tryz.f50)), .blk 4, .blk 3, .code (cp [1, 1, 0, 1, 0, 0, 1, 1, 0, 0, 1, 1, 0, 0, 1, 1, 1] (bodyOf Tryz.f50)), .lp (cp [1, 1, 0, 1, 0, 0, 1, 1, 0, 0, 1, 1, 0] (bodyOf Tryz.f50)), .blk 2, .blk 1, .code (cp [1, 1, 0, 1, 0, 0, 1, 1, 1] (bodyOf Tryz.f50)), .lp (cp [1, 1, 0, 1, 0] (bodyOf Tryz.f50)), .blk 0, .code (cp [1, 1, 1] (bodyOf Tryz.f50))] (FinX Tryz.prog Tryz.f50 [] (.sl true 4 r.length ((eSpot).f r)) []) ⟨[(0, .sl false 4 t0.length ((ePl).f t0)), (3, .msl 503 l503.length), (5, .ptr 5 0), (7, .ptr 7 0), (10, .ptr 10 0), (12, .sl false 4 t12.length ((ePl).f t12)), (13, i64 t13), (14, i64 t14), (21, .sl false 4 t21.length ((ePl).f t21)), (22, i64 t22), (23, i64 t23), (30, .sl false 4 t30.length ((ePl).f t30)), (31, i64 t31), (32, i64 t32), (49, bl t49)], [(5, ⟨true, 0, [i64 b5_0, i64 b5_1, i64 b5_2, i64 b5_3]⟩), (7, ⟨true, 0, [i64 b7_0, i64 b7_1, i64 b7_2, i64 b7_3]⟩), (10, ⟨true, 0, [i64 b10_0, i64 b10_1, i64 b10_2, i64 b10_3]⟩), (503, ⟨true, 4, (eSpot).f l503⟩)]⟩ := by
  unfold Dimpl_corners_0 at h
  refine x_frk 0 [] onil h (by kernel_rfl) (fun h => ?_) (fun h => ?_)
  · obtain ⟨c7, h⟩ := chk_some h
    exact x_to 14 [(3, .app false (List.length (l503 ++ [(Spot.mk b10_0 b10_1 b10_2 b10_3)])) ((eSpot).f (l503 ++ [(Spot.mk b10_0 b10_1 b10_2 b10_3)]))), (3, .ren 53 503)] (ocons (len_row' (L := l503) eSpot) (ocons (app_one (L := l503) (M := [(Spot.mk b10_0 b10_1 b10_2 b10_3)]) eSpot c7) (ocons (app_new (L := l503) (M := [(Spot.mk b10_0 b10_1 b10_2 b10_3)]) eSpot) (ocons (app_m (L := l503) (M := [(Spot.mk b10_0 b10_1 b10_2 b10_3)]) eSpot rfl) (ocons (len_row' (L := [(Spot.mk b10_0 b10_1 b10_2 b10_3)]) eSpot) (ocons (Enc.noOwn eSpot (fun _ => rfl) [(Spot.mk b10_0 b10_1 b10_2 b10_3)]) (ocons (show 53 < 1000 ∧ 503 < 1000 by decide) onil))))))) (hrec2 (w64 (t32 + 1), (l503 ++ [(Spot.mk b10_0 b10_1 b10_2 b10_3)])) r h) (by kernel_rfl)
  · exact x_to 7 [] onil (hrec2 (w64 (t32 + 1), l503) r h) (by kernel_rfl)
def Dimpl_corners_1 (n : Nat) (rec1 : (Int × List Spot) → Option (List Spot)) (rec0 : (Int × List Spot) → Option (List Spot)) (t14 : Int) (t21 : List Pl) (t22 b5_0 b5_1 b5_2 b5_3 : Int) (t0 : List Pl) (t12 : List Pl) (t13 t23 : Int) (t30 : List Pl) (t31 b7_0 b7_1 b7_2 b7_3 : Int) (rec2 : (Int × List Spot) → Option (List Spot)) (a : (Int × List Spot)) : Option (List Spot) :=
  match a with
  | (t32, l503) => frk (decide (t32 < t31)) ((lget t30 t32).bind fun v4 => (Dimpl_meet3 n (Pl.mk b5_0 b5_1 b5_2 b5_3) (Pl.mk b7_0 b7_1 b7_2 b7_3) v4).bind fun v5 => frk v5.2 ((Dimpl_inCell n t0 v5.1).bind fun v6 => Dimpl_corners_0 n rec2 rec1 rec0 t23 t30 t31 b7_0 b7_1 b7_2 b7_3 t14 t21 t22 b5_0 b5_1 b5_2 b5_3 t0 t12 t13 t32 (decide (v6 ≥ 0)) v5.1.X v5.1.Y v5.1.Z v5.1.W l503) (rec2 (w64 (t32 + 1), l503))) (rec1 (w64 (t23 + 1), l503))
theorem Timpl_corners_1 {Y} (n : Nat) (rec1 : (Int × List Spot) → Option (List Spot)) (rec0 : (Int × List Spot) → Option (List Spot)) (t14 : Int) (t21 : List Pl) (t22 b5_0 b5_1 b5_2 b5_3 : Int) (t0 : List Pl) (t12 : List Pl) (t13 : Int) (hrec1 : ∀ (a : (Int × List Spot)) (r : (List Spot)), rec1 a = some r → Wk Tryz.prog H Y 50 [.code (cp [1, 1, 0, 1, 0, 0, 1, 1, 0, 0, 1, 1, 0] (bodyOf Tryz.f50)), .blk 2, .blk 1, .code (cp [1, 1, 0, 1, 0, 0, 1, 1, 1] (bodyOf Tryz.f50)), .lp (cp [1, 1, 0, 1, 0] (bodyOf Tryz.f50)), .blk 0, .code (cp [1, 1, 1] (bodyOf Tryz.f50))] (FinX Tryz.prog Tryz.f50 [] (.sl true 4 r.length ((eSpot).f r)) []) ⟨[(0, .sl false 4 t0.length ((ePl).f t0)), (3, .msl 503 a.2.length), (5, .ptr 5 0), (12, .sl false 4 t12.length ((ePl).f t12)), (13, i64 t13), (14, i64 t14), (21, .sl false 4 t21.length ((ePl).f t21)), (22, i64 t22), (23, i64 a.1)], [(5, ⟨true, 0, [i64 b5_0, i64 b5_1, i64 b5_2, i64 b5_3]⟩), (503, ⟨true, 4, (eSpot).f a.2⟩)]⟩) (hrec0 : ∀ (a : (Int × List Spot)) (r : (List Spot)), rec0 a = some r → Wk Tryz.prog H Y 50 [.code (cp [1, 1, 0, 1, 0] (bodyOf Tryz.f50)), .blk 0, .code (cp [1, 1, 1] (bodyOf Tryz.f50))] (FinX Tryz.prog Tryz.f50 [] (.sl true 4 r.length ((eSpot).f r)) []) ⟨[(0, .sl false 4 t0.length ((ePl).f t0)), (3, .msl 503 a.2.length), (12, .sl false 4 t12.length ((ePl).f t12)), (13, i64 t13), (14, i64 a.1)], [(503, ⟨true, 4, (eSpot).f a.2⟩)]⟩) (t23 : Int) (t30 : List Pl) (t31 b7_0 b7_1 b7_2 b7_3 : Int) : ∀ (m : Nat) (a : (Int × List Spot)) (r : (List Spot)), loopN (Dimpl_corners_1 n rec1 rec0 t14 t21 t22 b5_0 b5_1 b5_2 b5_3 t0 t12 t13 t23 t30 t31 b7_0 b7_1 b7_2 b7_3) m a = some r → Wk Tryz.prog H Y 50 [.code (cp [1, 1, 0, 1, 0, 0, 1, 1, 0, 0, 1, 1, 0, 0, 1, 1, 0, 0, 1, 1, 0] (bodyOf Tryz.f50)), .blk 4, .blk 3, .code (cp [1, 1, 0, 1, 0, 0, 1, 1, 0, 0, 1, 1, 0, 0, 1, 1, 1] (bodyOf Tryz.f50)), .lp (cp [1, 1, 0, 1, 0, 0, 1, 1, 0, 0, 1, 1, 0] (bodyOf Tryz.f50)), .blk 2, .blk 1, .code (cp [1, 1, 0, 1, 0, 0, 1, 1, 1] (bodyOf Tryz.f50)), .lp (cp [1, 1, 0, 1, 0] (bodyOf Tryz.f50)), .blk 0, .code (cp [1, 1, 1] (bodyOf Tryz.f50))] (FinX Tryz.prog Tryz.f50 [] (.sl true 4 r.length ((eSpot).f r)) []) ⟨[(0, .sl false 4 t0.length ((ePl).f t0)), (3, .msl 503 a.2.length), (5, .ptr 5 0), (7, .ptr 7 0), (12, .sl false 4 t12.length ((ePl).f t12)), (13, i64 t13), (14, i64 t14), (21, .sl false 4 t21.length ((ePl).f t21)), (22, i64 t22), (23, i64 t23), (30, .sl false 4 t30.length ((ePl).f t30)), (31, i64 t31), (32, i64 a.1)], [(5, ⟨true, 0, [i64 b5_0, i64 b5_1, i64 b5_2, i64 b5_3]⟩), (7, ⟨true, 0, [i64 b7_0, i64 b7_1, i64 b7_2, i64 b7_3]⟩), (503, ⟨true, 4, (eSpot).f a.2⟩)]⟩ := by
  refine loopN_ind (fun rec2 hrec2 a r h => ?_)
  obtain ⟨t32, l503⟩ := a
  unfold Dimpl_corners_1 at h
  refine x_frk 6 [] onil h (by kernel_rfl) (fun h => ?_) (fun h => ?_)
  · obtain ⟨v4, hv4, h⟩ := bind_some h
    obtain ⟨v5, hv5, h⟩ := bind_some h
    refine x_frk 27 [(0, .val (.cptr (ePl.c v4 ++ (ePl).f ((t30).drop (Int.toNat t32 + 1))))), (6, .call [] [] (.tup [.agg [i64 v5.1.X, i64 v5.1.Y, i64 v5.1.Z, i64 v5.1.W], bl v5.2]) [])] (ocons (ix ePl hv4) (ocons (Timpl_meet3 (Y := Y) n (Pl.mk b5_0 b5_1 b5_2 b5_3) (Pl.mk b7_0 b7_1 b7_2 b7_3) v4 _ hv5) onil)) h (by kernel_rfl) (fun h => ?_) (fun h => ?_)
    · obtain ⟨v6, hv6, h⟩ := bind_some h
      exact x_to 6 [(2, .call [] [] (i64 v6) [])] (ocons (Timpl_inCell (Y := Y) n t0 v5.1 _ hv6) onil) (Timpl_corners_0 n rec2 rec1 rec0 t23 t30 t31 b7_0 b7_1 b7_2 b7_3 t14 t21 t22 b5_0 b5_1 b5_2 b5_3 t0 t12 t13 hrec2 hrec1 hrec0 t32 (decide (v6 ≥ 0)) v5.1.X v5.1.Y v5.1.Z v5.1.W l503 r h) (by kernel_rfl)
    · exact x_to 14 [] onil (hrec2 (w64 (t32 + 1), l503) r h) (by kernel_rfl)
  · exact x_to 7 [] onil (hrec1 (w64 (t23 + 1), l503) r h) (by kernel_rfl)
def Dimpl_corners_2 (n : Nat) (rec0 : (Int × List Spot) → Option (List Spot)) (t0 : List Pl) (t12 : List Pl) (t13 t14 : Int) (t21 : List Pl) (t22 b5_0 b5_1 b5_2 b5_3 : Int) (rec1 : (Int × List Spot) → Option (List Spot)) (a : (Int × List Spot)) : Option (List Spot) :=
  match a with
  | (t23, l503) => frk (decide (t23 < t22)) ((lget t21 t23).bind fun v2 => (lsl t0 0 t23).bind fun v3 => loopN (Dimpl_corners_1 n rec1 rec0 t14 t21 t22 b5_0 b5_1 b5_2 b5_3 t0 t12 t13 t23 v3 (v3.length : Int) v2.A v2.B v2.C v2.D) n (0, l503)) (rec0 (w64 (t14 + 1), l503))
theorem Timpl_corners_2 {Y} (n : Nat) (rec0 : (Int × List Spot) → Option (List Spot)) (t0 : List Pl) (t12 : List Pl) (t13 : Int) (hrec0 : ∀ (a : (Int × List Spot)) (r : (List Spot)), rec0 a = some r → Wk Tryz.prog H Y 50 [.code (cp [1, 1, 0, 1, 0] (bodyOf Tryz.f50)), .blk 0, .code (cp [1, 1, 1] (bodyOf Tryz.f50))] (FinX Tryz.prog Tryz.f50 [] (.sl true 4 r.length ((eSpot).f r)) []) ⟨[(0, .sl false 4 t0.length ((ePl).f t0)), (3, .msl 503 a.2.length), (12, .sl false 4 t12.length ((ePl).f t12)), (13, i64 t13), (14, i64 a.1)], [(503, ⟨true, 4, (eSpot).f a.2⟩)]⟩) (t14 : Int) (t21 : List Pl) (t22 b5_0 b5_1 b5_2 b5_3 : Int) : ∀ (m : Nat) (a : (Int × List Spot)) (r : (List Spot)), loopN (Dimpl_corners_2 n rec0 t0 t12 t13 t14 t21 t22 b5_0 b5_1 b5_2 b5_3) m a = some r → Wk Tryz.prog H Y 50 [.code (cp [1, 1, 0, 1, 0, 0, 1, 1, 0, 0, 1, 1, 0] (bodyOf Tryz.f50)), .blk 2, .blk 1, .code (cp [1, 1, 0, 1, 0, 0, 1, 1, 1] (bodyOf Tryz.f50)), .lp (cp [1, 1, 0, 1, 0] (bodyOf Tryz.f50)), .blk 0, .code (cp [1, 1, 1] (bodyOf Tryz.f50))] (FinX Tryz.prog Tryz.f50 [] (.sl true 4 r.length ((eSpot).f r)) []) ⟨[(0, .sl false 4 t0.length ((ePl).f t0)), (3, .msl 503 a.2.length), (5, .ptr 5 0), (12, .sl false 4 t12.length ((ePl).f t12)), (13, i64 t13), (14, i64 t14), (21, .sl false 4 t21.length ((ePl).f t21)), (22, i64 t22), (23, i64 a.1)], [(5, ⟨true, 0, [i64 b5_0, i64 b5_1, i64 b5_2, i64 b5_3]⟩), (503, ⟨true, 4, (eSpot).f a.2⟩)]⟩ := by
  refine loopN_ind (fun rec1 hrec1 a r h => ?_)
  obtain ⟨t23, l503⟩ := a
  unfold Dimpl_corners_2 at h
  refine x_frk 6 [] onil h (by kernel_rfl) (fun h => ?_) (fun h => ?_)
  · obtain ⟨v2, hv2, h⟩ := bind_some h
    obtain ⟨v3, hv3, h⟩ := bind_some h
    exact x_to 21 [(1, .val (.cptr (ePl.c v2 ++ (ePl).f ((t21).drop (Int.toNat t23 + 1))))), (6, .val (.sl false 4 v3.length ((ePl).f v3)))] (ocons (ix ePl hv2) (ocons (slF ePl hv3) onil)) (Timpl_corners_1 n rec1 rec0 t14 t21 t22 b5_0 b5_1 b5_2 b5_3 t0 t12 t13 hrec1 hrec0 t23 v3 (v3.length : Int) v2.A v2.B v2.C v2.D n (0, l503) r h) (by kernel_rfl)
  · exact x_to 7 [] onil (hrec0 (w64 (t14 + 1), l503) r h) (by kernel_rfl)
def Dimpl_corners_4 (_n : Nat) (l503 : List Spot) : Option (List Spot) :=
  (DcutSpot l503).bind fun v9 => some v9
theorem Timpl_corners_4 {Y} (n : Nat) (l503 : List Spot) (r : (List Spot)) (h : Dimpl_corners_4 n l503 = some r) : Wk Tryz.prog H Y 50 [.code (cp [1, 1, 1, 1, 0] (bodyOf Tryz.f50)), .code (cp [1, 1, 1, 1, 1] (bodyOf Tryz.f50))] (FinX Tryz.prog Tryz.f50 [] (.sl true 4 r.length ((eSpot).f r)) []) ⟨[(3, .msl 503 l503.length)], [(503, ⟨true, 4, (eSpot).f l503⟩)]⟩ := by
  unfold Dimpl_corners_4 at h
  obtain ⟨v9, hv9, h⟩ := bind_some h
  refine x_cut (f := 110) (g := 109) (ta := 3) (d0 := 59) (d1 := 60) (d2 := 61) (da := 2) (b := 503) (n := l503.length) (z := 4) (st := true) (cs := eSpot.f l503) (T := .sl true 4 v9.length (eSpot.f v9)) rfl (fun _ _ _ h => h) (by kernel_rfl) (by kernel_rfl) (by kernel_rfl) (by simp [nlkLs, nlk, nlkL, nLk, nLkSp]) (by decide) (Enc.len _ _) (cutSpot_t hv9) ?_
  replace h := Option.some.inj h; subst h
  exact x_end 0 [] [] onil onil (by kernel_rfl)
def Dimpl_corners_3 (n : Nat) (l503 : List Spot) : Option (List Spot) :=
  (DsrtSpot l503).bind fun v8 => Dimpl_corners_4 n v8
theorem Timpl_corners_3 {Y} (n : Nat) (l503 : List Spot) (r : (List Spot)) (h : Dimpl_corners_3 n l503 = some r) : Wk Tryz.prog H Y 50 [.code (cp [1, 1, 1, 0] (bodyOf Tryz.f50)), .code (cp [1, 1, 1, 1] (bodyOf Tryz.f50))] (FinX Tryz.prog Tryz.f50 [] (.sl true 4 r.length ((eSpot).f r)) []) ⟨[(3, .msl 503 l503.length)], [(503, ⟨true, 4, (eSpot).f l503⟩)]⟩ := by
  unfold Dimpl_corners_3 at h
  obtain ⟨v8, hv8, h⟩ := bind_some h
  obtain ⟨hlv8, htv8⟩ := srtSpot_t hv8
  refine x_sort (f := 107) (ta := 3) (dl := 57) (dr := 58) (b := 503) (n := l503.length) (z := 4) (g := 108) (st := true) (cs := eSpot.f l503) (cs' := eSpot.f v8) (rv := .tuple #[]) rfl (fun _ _ _ h => h) (by kernel_rfl) (by kernel_rfl) (by kernel_rfl) (by simp [nlkLs, nlk, nlkL, nLk, nLkSp]) (by decide) (Enc.len _ _) (by rw [Enc.len, hlv8]; rfl) (nLkSp _) htv8 ?_
  exact x_to 2 [(0, .fix 3 (.msl 503 v8.length))] (ocons (congrArg (AV.msl 503) hlv8.symm) onil) (Timpl_corners_4 n v8 r h) (by kernel_rfl)
def Dimpl_corners_5 (n : Nat) (t0 : List Pl) (t12 : List Pl) (t13 : Int) (rec0 : (Int × List Spot) → Option (List Spot)) (a : (Int × List Spot)) : Option (List Spot) :=
  match a with
  | (t14, l503) => frk (decide (t14 < t13)) ((lget t12 t14).bind fun v0 => (lsl t0 0 t14).bind fun v1 => loopN (Dimpl_corners_2 n rec0 t0 t12 t13 t14 v1 (v1.length : Int) v0.A v0.B v0.C v0.D) n (0, l503)) (Dimpl_corners_3 n l503)
theorem Timpl_corners_5 {Y} (n : Nat) (t0 : List Pl) (t12 : List Pl) (t13 : Int) : ∀ (m : Nat) (a : (Int × List Spot)) (r : (List Spot)), loopN (Dimpl_corners_5 n t0 t12 t13) m a = some r → Wk Tryz.prog H Y 50 [.code (cp [1, 1, 0, 1, 0] (bodyOf Tryz.f50)), .blk 0, .code (cp [1, 1, 1] (bodyOf Tryz.f50))] (FinX Tryz.prog Tryz.f50 [] (.sl true 4 r.length ((eSpot).f r)) []) ⟨[(0, .sl false 4 t0.length ((ePl).f t0)), (3, .msl 503 a.2.length), (12, .sl false 4 t12.length ((ePl).f t12)), (13, i64 t13), (14, i64 a.1)], [(503, ⟨true, 4, (eSpot).f a.2⟩)]⟩ := by
  refine loopN_ind (fun rec0 hrec0 a r h => ?_)
  obtain ⟨t14, l503⟩ := a
  unfold Dimpl_corners_5 at h
  refine x_frk 6 [] onil h (by kernel_rfl) (fun h => ?_) (fun h => ?_)
  · obtain ⟨v0, hv0, h⟩ := bind_some h
    obtain ⟨v1, hv1, h⟩ := bind_some h
    exact x_to 21 [(1, .val (.cptr (ePl.c v0 ++ (ePl).f ((t12).drop (Int.toNat t14 + 1))))), (6, .val (.sl false 4 v1.length ((ePl).f v1)))] (ocons (ix ePl hv0) (ocons (slF ePl hv1) onil)) (Timpl_corners_2 n rec0 t0 t12 t13 hrec0 t14 v1 (v1.length : Int) v0.A v0.B v0.C v0.D n (0, l503) r h) (by kernel_rfl)
  · exact x_to 2 [] onil (Timpl_corners_3 n l503 r h) (by kernel_rfl)
def Dimpl_corners (n : Nat) (a0 : (List Pl)) : Option (List Spot) :=
  loopN (Dimpl_corners_5 n a0 a0 (a0.length : Int)) n (0, [])
theorem Timpl_corners {Y} (n : Nat) (a0 : (List Pl)) (r : (List Spot)) (h : Dimpl_corners n a0 = some r) : Big Tryz.prog H Y (.call 50 [.sl false 4 a0.length ((ePl).f a0)] (lk []) (.sl true 4 r.length ((eSpot).f r)) (lk [])) := by
  unfold Dimpl_corners at h
  refine x_call (fn := Tryz.f50) (c := bodyOf Tryz.f50) (bs0 := []) Tryz.func50 (by kernel_rfl) (by kernel_rfl) ?_
  exact x_to 17 [(2, .virt 3 503 4)] (ocons (rflV .nil) (ocons (show 503 < 1000 ∧ 4 ≠ 0 by decide) onil)) (Timpl_corners_5 n a0 a0 (a0.length : Int) n (0, []) r h) (by kernel_rfl)
/-! impl.floor -/
def Dimpl_floor (a0 a1 : Int) : Option Int :=
  (qt .i64 a0 a1).bind fun v0 => (rm .i64 a0 a1).bind fun v1 => frk (decide (v1 < 0)) (some (w64 (v0 - 1))) (some v0)
theorem Timpl_floor {Y} (a0 a1 r : Int) (h : Dimpl_floor a0 a1 = some r) : Big Tryz.prog H Y (.call 51 [i64 a0, i64 a1] (lk []) (i64 r) (lk [])) := by
  unfold Dimpl_floor at h
  refine x_call (fn := Tryz.f51) (c := bodyOf Tryz.f51) (bs0 := []) Tryz.func51 (by kernel_rfl) (by kernel_rfl) ?_
  obtain ⟨v0, hv0, h⟩ := bind_some h
  obtain ⟨v1, hv1, h⟩ := bind_some h
  refine x_frk 19 [(3, .val (i64 v0)), (3, .val (i64 v1))] (ocons (qtOk hv0) (ocons (rmOk hv1) onil)) h (by kernel_rfl) (fun h => ?_) (fun h => ?_)
  · replace h := Option.some.inj h; subst h
    exact x_end 10 [] [] onil onil (by kernel_rfl)
  · replace h := Option.some.inj h; subst h
    exact x_end 6 [] [] onil onil (by kernel_rfl)
/-! impl.PtOk -/
def Dimpl_PtOk (a0 : Pt) : Option Bool :=
  (Dimpl_inRange a0.X (-1000000) 1000000).bind fun v0 => frk v0 ((Dimpl_inRange a0.Y (-1000000) 1000000).bind fun v1 => frk v1 ((Dimpl_inRange a0.Z (-1000000) 1000000).bind fun v2 => some v2) (some false)) (some false)
theorem Timpl_PtOk {Y} (a0 : Pt) (r : Bool) (h : Dimpl_PtOk a0 = some r) : Big Tryz.prog H Y (.call 52 [.agg [i64 a0.X, i64 a0.Y, i64 a0.Z]] (lk []) (bl r) (lk [])) := by
  unfold Dimpl_PtOk at h
  refine x_call (fn := Tryz.f52) (c := bodyOf Tryz.f52) (bs0 := []) Tryz.func52 (by kernel_rfl) (by kernel_rfl) ?_
  obtain ⟨v0, hv0, h⟩ := bind_some h
  refine x_frk 11 [(4, .call [] [] (bl v0) [])] (ocons (Timpl_inRange (Y := Y) a0.X (-1000000) 1000000 _ hv0) onil) h (by kernel_rfl) (fun h => ?_) (fun h => ?_)
  · obtain ⟨v1, hv1, h⟩ := bind_some h
    refine x_frk 5 [(2, .call [] [] (bl v1) [])] (ocons (Timpl_inRange (Y := Y) a0.Y (-1000000) 1000000 _ hv1) onil) h (by kernel_rfl) (fun h => ?_) (fun h => ?_)
    · obtain ⟨v2, hv2, h⟩ := bind_some h
      replace h := Option.some.inj h; subst h
      exact x_end 6 [(2, .call [] [] (bl v2) [])] [] (ocons (Timpl_inRange (Y := Y) a0.Z (-1000000) 1000000 _ hv2) onil) onil (by kernel_rfl)
    · replace h := Option.some.inj h; subst h
      exact x_end 6 [] [] onil onil (by kernel_rfl)
  · replace h := Option.some.inj h; subst h
    exact x_end 11 [] [] onil onil (by kernel_rfl)
/-! impl.Box -/
def Dimpl_Box_2 (_n : Nat) (t106 : Bool) (_b2_0 _b2_1 _b2_2 _b3_0 _b3_1 _b3_2 b8_0 b8_1 b8_2 b9_0 b9_1 b9_2 : Int) : Option (Pt × Pt × Bool) :=
  frk t106 (some ((Pt.mk 0 0 0), (Pt.mk 0 0 0), false)) (some ((Pt.mk b8_0 b8_1 b8_2), (Pt.mk b9_0 b9_1 b9_2), true))
theorem Timpl_Box_2 {Y} (n : Nat) (t106 : Bool) (b2_0 b2_1 b2_2 b3_0 b3_1 b3_2 b8_0 b8_1 b8_2 b9_0 b9_1 b9_2 : Int) (r : (Pt × Pt × Bool)) (h : Dimpl_Box_2 n t106 b2_0 b2_1 b2_2 b3_0 b3_1 b3_2 b8_0 b8_1 b8_2 b9_0 b9_1 b9_2 = some r) : Wk Tryz.prog H Y 10 [.code (cp [1, 1, 1, 1, 1, 1, 1, 0, 1] (bodyOf Tryz.f10)), .code (cp [1, 1, 1, 1, 1, 1, 1, 1] (bodyOf Tryz.f10))] (FinX Tryz.prog Tryz.f10 [] (.tup [.agg [i64 r.1.X, i64 r.1.Y, i64 r.1.Z], .agg [i64 r.2.1.X, i64 r.2.1.Y, i64 r.2.1.Z], bl r.2.2]) []) ⟨[(2, .ptr 2 0), (3, .ptr 3 0), (8, .ptr 8 0), (9, .ptr 9 0), (106, bl t106)], [(2, ⟨true, 0, [i64 b2_0, i64 b2_1, i64 b2_2]⟩), (3, ⟨true, 0, [i64 b3_0, i64 b3_1, i64 b3_2]⟩), (8, ⟨true, 0, [i64 b8_0, i64 b8_1, i64 b8_2]⟩), (9, ⟨true, 0, [i64 b9_0, i64 b9_1, i64 b9_2]⟩)]⟩ := by
  unfold Dimpl_Box_2 at h
  refine x_frk 0 [] onil h (by kernel_rfl) (fun h => ?_) (fun h => ?_)
  · replace h := Option.some.inj h; subst h
    exact x_end 8 [] [] onil onil (by kernel_rfl)
  · replace h := Option.some.inj h; subst h
    exact x_end 9 [] [] onil onil (by kernel_rfl)
def Dimpl_Box_1 (n : Nat) (b2_0 b2_1 b2_2 b3_0 b3_1 b3_2 b8_0 b8_1 b8_2 b9_0 b9_1 b9_2 : Int) : Option (Pt × Pt × Bool) :=
  (Dimpl_PtOk (Pt.mk b8_0 b8_1 b8_2)).bind fun v12 => frk (!v12) (some ((Pt.mk 0 0 0), (Pt.mk 0 0 0), false)) ((Dimpl_PtOk (Pt.mk b9_0 b9_1 b9_2)).bind fun v13 => Dimpl_Box_2 n (!v13) b2_0 b2_1 b2_2 b3_0 b3_1 b3_2 b8_0 b8_1 b8_2 b9_0 b9_1 b9_2)
theorem Timpl_Box_1 {Y} (n : Nat) (b2_0 b2_1 b2_2 b3_0 b3_1 b3_2 b8_0 b8_1 b8_2 b9_0 b9_1 b9_2 : Int) (r : (Pt × Pt × Bool)) (h : Dimpl_Box_1 n b2_0 b2_1 b2_2 b3_0 b3_1 b3_2 b8_0 b8_1 b8_2 b9_0 b9_1 b9_2 = some r) : Wk Tryz.prog H Y 10 [.code (cp [1, 1, 1, 1, 1, 1, 1, 0, 0] (bodyOf Tryz.f10)), .code (cp [1, 1, 1, 1, 1, 1, 1, 0, 1] (bodyOf Tryz.f10)), .code (cp [1, 1, 1, 1, 1, 1, 1, 1] (bodyOf Tryz.f10))] (FinX Tryz.prog Tryz.f10 [] (.tup [.agg [i64 r.1.X, i64 r.1.Y, i64 r.1.Z], .agg [i64 r.2.1.X, i64 r.2.1.Y, i64 r.2.1.Z], bl r.2.2]) []) ⟨[(2, .ptr 2 0), (3, .ptr 3 0), (8, .ptr 8 0), (9, .ptr 9 0)], [(2, ⟨true, 0, [i64 b2_0, i64 b2_1, i64 b2_2]⟩), (3, ⟨true, 0, [i64 b3_0, i64 b3_1, i64 b3_2]⟩), (8, ⟨true, 0, [i64 b8_0, i64 b8_1, i64 b8_2]⟩), (9, ⟨true, 0, [i64 b9_0, i64 b9_1, i64 b9_2]⟩)]⟩ := by
  unfold Dimpl_Box_1 at h
  obtain ⟨v12, hv12, h⟩ := bind_some h
  refine x_frk 5 [(1, .call [] [] (bl v12) [])] (ocons (Timpl_PtOk (Y := Y) (Pt.mk b8_0 b8_1 b8_2) _ hv12) onil) h (by kernel_rfl) (fun h => ?_) (fun h => ?_)
  · replace h := Option.some.inj h; subst h
    exact x_end 14 [] [] onil onil (by kernel_rfl)
  · obtain ⟨v13, hv13, h⟩ := bind_some h
    exact x_to 5 [(1, .call [] [] (bl v13) [])] (ocons (Timpl_PtOk (Y := Y) (Pt.mk b9_0 b9_1 b9_2) _ hv13) onil) (Timpl_Box_2 n (!v13) b2_0 b2_1 b2_2 b3_0 b3_1 b3_2 b8_0 b8_1 b8_2 b9_0 b9_1 b9_2 r h) (by kernel_rfl)
def Dimpl_Box_3 (n : Nat) (t37 b2_0 b2_1 b2_2 b3_0 b3_1 b3_2 : Int) (l505 : List Spot) (rec1 : (Int × Int × Int × Int × Int × Int × Int) → Option (Pt × Pt × Bool)) (a : (Int × Int × Int × Int × Int × Int × Int)) : Option (Pt × Pt × Bool) :=
  match a with
  | (t38, b8_0, b8_1, b8_2, b9_0, b9_1, b9_2) => frk (decide (t38 < t37)) ((lget l505 t38).bind fun v5 => (Dimpl_floor v5.X v5.W).bind fun v6 => (Dimpl_floor v5.Y v5.W).bind fun v7 => (Dimpl_floor v5.Z v5.W).bind fun v8 => (Dimpl_floor (w64 (0 - v5.X)) v5.W).bind fun v9 => (Dimpl_floor (w64 (0 - v5.Y)) v5.W).bind fun v10 => (Dimpl_floor (w64 (0 - v5.Z)) v5.W).bind fun v11 => rec1 (w64 (t38 + 1), minN b8_0 [v6], minN b8_1 [v7], minN b8_2 [v8], maxN b9_0 [w64 (0 - v9)], maxN b9_1 [w64 (0 - v10)], maxN b9_2 [w64 (0 - v11)])) (Dimpl_Box_1 n b2_0 b2_1 b2_2 b3_0 b3_1 b3_2 b8_0 b8_1 b8_2 b9_0 b9_1 b9_2)
theorem Timpl_Box_3 {Y} (n : Nat) (t37 b2_0 b2_1 b2_2 b3_0 b3_1 b3_2 : Int) (l505 : List Spot) : ∀ (m : Nat) (a : (Int × Int × Int × Int × Int × Int × Int)) (r : (Pt × Pt × Bool)), loopN (Dimpl_Box_3 n t37 b2_0 b2_1 b2_2 b3_0 b3_1 b3_2 l505) m a = some r → Wk Tryz.prog H Y 10 [.code (cp [1, 1, 1, 1, 1, 1, 0, 1, 0] (bodyOf Tryz.f10)), .blk 2, .code (cp [1, 1, 1, 1, 1, 1, 1] (bodyOf Tryz.f10))] (FinX Tryz.prog Tryz.f10 [] (.tup [.agg [i64 r.1.X, i64 r.1.Y, i64 r.1.Z], .agg [i64 r.2.1.X, i64 r.2.1.Y, i64 r.2.1.Z], bl r.2.2]) []) ⟨[(2, .ptr 2 0), (3, .ptr 3 0), (8, .ptr 8 0), (9, .ptr 9 0), (36, .msl 505 l505.length), (37, i64 t37), (38, i64 a.1)], [(2, ⟨true, 0, [i64 b2_0, i64 b2_1, i64 b2_2]⟩), (3, ⟨true, 0, [i64 b3_0, i64 b3_1, i64 b3_2]⟩), (8, ⟨true, 0, [i64 a.2.1, i64 a.2.2.1, i64 a.2.2.2.1]⟩), (9, ⟨true, 0, [i64 a.2.2.2.2.1, i64 a.2.2.2.2.2.1, i64 a.2.2.2.2.2.2]⟩), (505, ⟨true, 4, (eSpot).f l505⟩)]⟩ := by
  refine loopN_ind (fun _rec1 hrec1 a r h => ?_)
  obtain ⟨t38, b8_0, b8_1, b8_2, b9_0, b9_1, b9_2⟩ := a
  unfold Dimpl_Box_3 at h
  refine x_frk 6 [] onil h (by kernel_rfl) (fun h => ?_) (fun h => ?_)
  · obtain ⟨v5, hv5, h⟩ := bind_some h
    obtain ⟨v6, hv6, h⟩ := bind_some h
    obtain ⟨v7, hv7, h⟩ := bind_some h
    obtain ⟨v8, hv8, h⟩ := bind_some h
    obtain ⟨v9, hv9, h⟩ := bind_some h
    obtain ⟨v10, hv10, h⟩ := bind_some h
    obtain ⟨v11, hv11, h⟩ := bind_some h
    exact x_to 79 [(0, .unit), (0, .cells [i64 v5.X, i64 v5.Y, i64 v5.Z, i64 v5.W]), (8, .call [] [] (i64 v6) []), (0, .val (.lit (.int .i64 (minN b8_0 [v6])))), (6, .call [] [] (i64 v7) []), (0, .val (.lit (.int .i64 (minN b8_1 [v7])))), (6, .call [] [] (i64 v8) []), (0, .val (.lit (.int .i64 (minN b8_2 [v8])))), (9, .call [] [] (i64 v9) []), (1, .val (.lit (.int .i64 (maxN b9_0 [w64 (0 - v9)])))), (7, .call [] [] (i64 v10) []), (1, .val (.lit (.int .i64 (maxN b9_1 [w64 (0 - v10)])))), (7, .call [] [] (i64 v11) []), (1, .val (.lit (.int .i64 (maxN b9_2 [w64 (0 - v11)]))))] (ocons (inr hv5) (ocons (ldA eSpot hv5 0 4 rfl rfl) (ocons (Timpl_floor (Y := Y) v5.X v5.W _ hv6) (ocons (minNok .i64 [v6] b8_0) (ocons (Timpl_floor (Y := Y) v5.Y v5.W _ hv7) (ocons (minNok .i64 [v7] b8_1) (ocons (Timpl_floor (Y := Y) v5.Z v5.W _ hv8) (ocons (minNok .i64 [v8] b8_2) (ocons (Timpl_floor (Y := Y) (w64 (0 - v5.X)) v5.W _ hv9) (ocons (maxNok .i64 [w64 (0 - v9)] b9_0) (ocons (Timpl_floor (Y := Y) (w64 (0 - v5.Y)) v5.W _ hv10) (ocons (maxNok .i64 [w64 (0 - v10)] b9_1) (ocons (Timpl_floor (Y := Y) (w64 (0 - v5.Z)) v5.W _ hv11) (ocons (maxNok .i64 [w64 (0 - v11)] b9_2) onil)))))))))))))) (hrec1 (w64 (t38 + 1), minN b8_0 [v6], minN b8_1 [v7], minN b8_2 [v8], maxN b9_0 [w64 (0 - v9)], maxN b9_1 [w64 (0 - v10)], maxN b9_2 [w64 (0 - v11)]) r h) (by kernel_rfl)
  · exact x_to 3 [] onil (Timpl_Box_1 n b2_0 b2_1 b2_2 b3_0 b3_1 b3_2 b8_0 b8_1 b8_2 b9_0 b9_1 b9_2 r h) (by kernel_rfl)
def Dimpl_Box_0 (n : Nat) (t31 : Bool) (b2_0 b2_1 b2_2 b3_0 b3_1 b3_2 : Int) (l505 : List Spot) : Option (Pt × Pt × Bool) :=
  frk t31 (some ((Pt.mk 0 0 0), (Pt.mk 0 0 0), false)) (loopN (Dimpl_Box_3 n (l505.length : Int) b2_0 b2_1 b2_2 b3_0 b3_1 b3_2 l505) n (0, 1000000000, 1000000000, 1000000000, (-1000000000), (-1000000000), (-1000000000)))
theorem Timpl_Box_0 {Y} (n : Nat) (t31 : Bool) (b2_0 b2_1 b2_2 b3_0 b3_1 b3_2 : Int) (l505 : List Spot) (r : (Pt × Pt × Bool)) (h : Dimpl_Box_0 n t31 b2_0 b2_1 b2_2 b3_0 b3_1 b3_2 l505 = some r) : Wk Tryz.prog H Y 10 [.code (cp [1, 1, 1, 0, 1] (bodyOf Tryz.f10)), .code (cp [1, 1, 1, 1] (bodyOf Tryz.f10))] (FinX Tryz.prog Tryz.f10 [] (.tup [.agg [i64 r.1.X, i64 r.1.Y, i64 r.1.Z], .agg [i64 r.2.1.X, i64 r.2.1.Y, i64 r.2.1.Z], bl r.2.2]) []) ⟨[(2, .ptr 2 0), (3, .ptr 3 0), (5, .msl 505 l505.length), (31, bl t31)], [(2, ⟨true, 0, [i64 b2_0, i64 b2_1, i64 b2_2]⟩), (3, ⟨true, 0, [i64 b3_0, i64 b3_1, i64 b3_2]⟩), (505, ⟨true, 4, (eSpot).f l505⟩)]⟩ := by
  unfold Dimpl_Box_0 at h
  refine x_frk 0 [] onil h (by kernel_rfl) (fun h => ?_) (fun h => ?_)
  · replace h := Option.some.inj h; subst h
    exact x_end 8 [] [] onil onil (by kernel_rfl)
  · exact x_to 21 [] onil (Timpl_Box_3 n (l505.length : Int) b2_0 b2_1 b2_2 b3_0 b3_1 b3_2 l505 n (0, 1000000000, 1000000000, 1000000000, (-1000000000), (-1000000000), (-1000000000)) r h) (by kernel_rfl)
def Dimpl_Box_4 (n : Nat) (t13 : List (List Pl)) (t14 b2_0 b2_1 b2_2 b3_0 b3_1 b3_2 : Int) (rec0 : (Int × List Spot) → Option (Pt × Pt × Bool)) (a : (Int × List Spot)) : Option (Pt × Pt × Bool) :=
  match a with
  | (t15, l505) => frk (decide (t15 < t14)) ((lget t13 t15).bind fun v1 => (Dimpl_bounded n v1).bind fun v2 => frk (!v2) (some ((Pt.mk 0 0 0), (Pt.mk 0 0 0), false)) ((Dimpl_corners n v1).bind fun v3 => chk (apB 32 (l505.length + v3.length)) (rec0 (w64 (t15 + 1), (l505 ++ v3))))) (Dimpl_Box_0 n ((l505.length : Int) == 0) b2_0 b2_1 b2_2 b3_0 b3_1 b3_2 l505)
theorem Timpl_Box_4 {Y} (n : Nat) (t13 : List (List Pl)) (t14 b2_0 b2_1 b2_2 b3_0 b3_1 b3_2 : Int) : ∀ (m : Nat) (a : (Int × List Spot)) (r : (Pt × Pt × Bool)), loopN (Dimpl_Box_4 n t13 t14 b2_0 b2_1 b2_2 b3_0 b3_1 b3_2) m a = some r → Wk Tryz.prog H Y 10 [.code (cp [1, 1, 0, 1, 0] (bodyOf Tryz.f10)), .blk 0, .code (cp [1, 1, 1] (bodyOf Tryz.f10))] (FinX Tryz.prog Tryz.f10 [] (.tup [.agg [i64 r.1.X, i64 r.1.Y, i64 r.1.Z], .agg [i64 r.2.1.X, i64 r.2.1.Y, i64 r.2.1.Z], bl r.2.2]) []) ⟨[(2, .ptr 2 0), (3, .ptr 3 0), (5, .msl 505 a.2.length), (13, .sl false 1 t13.length ((ePls false).f t13)), (14, i64 t14), (15, i64 a.1)], [(2, ⟨true, 0, [i64 b2_0, i64 b2_1, i64 b2_2]⟩), (3, ⟨true, 0, [i64 b3_0, i64 b3_1, i64 b3_2]⟩), (505, ⟨true, 4, (eSpot).f a.2⟩)]⟩ := by
  refine loopN_ind (fun _rec0 hrec0 a r h => ?_)
  obtain ⟨t15, l505⟩ := a
  unfold Dimpl_Box_4 at h
  refine x_frk 6 [] onil h (by kernel_rfl) (fun h => ?_) (fun h => ?_)
  · obtain ⟨v1, hv1, h⟩ := bind_some h
    obtain ⟨v2, hv2, h⟩ := bind_some h
    refine x_frk 16 [(0, .val (.cptr ((ePls false).c v1 ++ (ePls false).f ((t13).drop (Int.toNat t15 + 1))))), (3, .call [] [] (bl v2) [])] (ocons (ix (ePls false) hv1) (ocons (Timpl_bounded (Y := Y) n v1 _ hv2) onil)) h (by kernel_rfl) (fun h => ?_) (fun h => ?_)
    · replace h := Option.some.inj h; subst h
      exact x_end 8 [] [] onil onil (by kernel_rfl)
    · obtain ⟨v3, hv3, h⟩ := bind_some h
      obtain ⟨c4, h⟩ := chk_some h
      exact x_to 15 [(2, .call [] [] (.sl false 4 v3.length ((eSpot).f v3)) []), (0, .app false (List.length (l505 ++ v3)) ((eSpot).f (l505 ++ v3))), (3, .ren 27 505)] (ocons (shSl (L := v3) eSpot eSpot sSpot (Timpl_corners (Y := Y) n v1 _ hv3)) (ocons (len_row' (L := l505) eSpot) (ocons (app_one (L := l505) (M := v3) eSpot c4) (ocons (app_new (L := l505) (M := v3) eSpot) (ocons (app_m (L := l505) (M := v3) eSpot rfl) (ocons (len_row' (L := v3) eSpot) (ocons (show 27 < 1000 ∧ 505 < 1000 by decide) onil))))))) (hrec0 (w64 (t15 + 1), (l505 ++ v3)) r h) (by kernel_rfl)
  · exact x_to 8 [] onil (Timpl_Box_0 n ((l505.length : Int) == 0) b2_0 b2_1 b2_2 b3_0 b3_1 b3_2 l505 r h) (by kernel_rfl)
def Dimpl_Box (n : Nat) (a0 : Sol) : Option (Pt × Pt × Bool) :=
  (Dimpl_Cells n a0 true).bind fun v0 => loopN (Dimpl_Box_4 n v0 (v0.length : Int) 0 0 0 0 0 0) n (0, [])
theorem Timpl_Box {Y} (n : Nat) (a0 : Sol) (r : (Pt × Pt × Bool)) (h : Dimpl_Box n a0 = some r) : Big Tryz.prog H Y (.call 10 [.agg [bl a0.inn, i64 a0.pl.A, i64 a0.pl.B, i64 a0.pl.C, i64 a0.pl.D, .sl false 6 a0.kids.length ((eSol false).f a0.kids)]] (lk []) (.tup [.agg [i64 r.1.X, i64 r.1.Y, i64 r.1.Z], .agg [i64 r.2.1.X, i64 r.2.1.Y, i64 r.2.1.Z], bl r.2.2]) (lk [])) := by
  unfold Dimpl_Box at h
  refine x_call (fn := Tryz.f10) (c := bodyOf Tryz.f10) (bs0 := []) Tryz.func10 (by kernel_rfl) (by kernel_rfl) ?_
  obtain ⟨v0, hv0, h⟩ := bind_some h
  exact x_to 21 [(5, .virt 5 505 4), (1, .call [] [] (.sl false 1 v0.length ((ePls false).f v0)) [])] (ocons (rflV .nil) (ocons (show 505 < 1000 ∧ 4 ≠ 0 by decide) (ocons (shSl (L := v0) (ePls true) (ePls false) (sPls true) (Timpl_Cells (Y := Y) n a0 true _ hv0)) onil))) (Timpl_Box_4 n v0 (v0.length : Int) 0 0 0 0 0 0 n (0, []) r h) (by kernel_rfl)
/-! laws.eqPt -/
def Dlaws_eqPt (a0 : Pt) (a1 : Pt) : Option Bool :=
  frk (a0.X != a1.X) (some false) (frk (a0.Y != a1.Y) (some false) (frk (a0.Z != a1.Z) (some false) (some true)))
theorem Tlaws_eqPt {Y} (a0 : Pt) (a1 : Pt) (r : Bool) (h : Dlaws_eqPt a0 a1 = some r) : Big Tryz.prog H Y (.call 11 [.agg [i64 a0.X, i64 a0.Y, i64 a0.Z], .agg [i64 a1.X, i64 a1.Y, i64 a1.Z]] (lk []) (bl r) (lk [])) := by
  unfold Dlaws_eqPt at h
  refine x_call (fn := Tryz.f11) (c := bodyOf Tryz.f11) (bs0 := []) Tryz.func11 (by kernel_rfl) (by kernel_rfl) ?_
  refine x_frk 15 [] onil h (by kernel_rfl) (fun h => ?_) (fun h => ?_)
  · replace h := Option.some.inj h; subst h
    exact x_end 4 [] [] onil onil (by kernel_rfl)
  · refine x_frk 10 [] onil h (by kernel_rfl) (fun h => ?_) (fun h => ?_)
    · replace h := Option.some.inj h; subst h
      exact x_end 4 [] [] onil onil (by kernel_rfl)
    · refine x_frk 10 [] onil h (by kernel_rfl) (fun h => ?_) (fun h => ?_)
      · replace h := Option.some.inj h; subst h
        exact x_end 4 [] [] onil onil (by kernel_rfl)
      · replace h := Option.some.inj h; subst h
        exact x_end 5 [] [] onil onil (by kernel_rfl)
/-! laws.eqPlane -/
def Dlaws_eqPlane (a0 : Pl) (a1 : Pl) : Option Bool :=
  frk (a0.A != a1.A) (some false) (frk (a0.B != a1.B) (some false) (frk (a0.C != a1.C) (some false) (frk (a0.D != a1.D) (some false) (some true))))
theorem Tlaws_eqPlane {Y} (a0 : Pl) (a1 : Pl) (r : Bool) (h : Dlaws_eqPlane a0 a1 = some r) : Big Tryz.prog H Y (.call 53 [.agg [i64 a0.A, i64 a0.B, i64 a0.C, i64 a0.D], .agg [i64 a1.A, i64 a1.B, i64 a1.C, i64 a1.D]] (lk []) (bl r) (lk [])) := by
  unfold Dlaws_eqPlane at h
  refine x_call (fn := Tryz.f53) (c := bodyOf Tryz.f53) (bs0 := []) Tryz.func53 (by kernel_rfl) (by kernel_rfl) ?_
  refine x_frk 15 [] onil h (by kernel_rfl) (fun h => ?_) (fun h => ?_)
  · replace h := Option.some.inj h; subst h
    exact x_end 4 [] [] onil onil (by kernel_rfl)
  · refine x_frk 10 [] onil h (by kernel_rfl) (fun h => ?_) (fun h => ?_)
    · replace h := Option.some.inj h; subst h
      exact x_end 4 [] [] onil onil (by kernel_rfl)
    · refine x_frk 10 [] onil h (by kernel_rfl) (fun h => ?_) (fun h => ?_)
      · replace h := Option.some.inj h; subst h
        exact x_end 4 [] [] onil onil (by kernel_rfl)
      · refine x_frk 10 [] onil h (by kernel_rfl) (fun h => ?_) (fun h => ?_)
        · replace h := Option.some.inj h; subst h
          exact x_end 4 [] [] onil onil (by kernel_rfl)
        · replace h := Option.some.inj h; subst h
          exact x_end 5 [] [] onil onil (by kernel_rfl)
/-! laws.eqSolidS -/
def Dlaws_eqSolidS_in_0 (_n : Nat) (self : (Sol × Sol) → Option Bool) (t0 t1 : List Sol) (rec0 : Int → Option Bool) (a : Int) : Option Bool :=
  match a with
  | t5 => frk (decide (t5 < (t0.length : Int))) ((lget t0 t5).bind fun v0 => (lget t1 t5).bind fun v1 => (self (v0, v1)).bind fun v2 => frk (!v2) (some false) (rec0 (w64 (t5 + 1)))) (some true)
theorem Tlaws_eqSolidS_in_0 {Y} (n : Nat) (self : (Sol × Sol) → Option Bool) (hself : ∀ (a : (Sol × Sol)) (r : Bool), self a = some r → Big Tryz.prog H Y (.call 12 [.agg [bl a.1.inn, i64 a.1.pl.A, i64 a.1.pl.B, i64 a.1.pl.C, i64 a.1.pl.D, .sl false 6 a.1.kids.length ((eSol false).f a.1.kids)], .agg [bl a.2.inn, i64 a.2.pl.A, i64 a.2.pl.B, i64 a.2.pl.C, i64 a.2.pl.D, .sl false 6 a.2.kids.length ((eSol false).f a.2.kids)]] (lk []) (bl r) (lk []))) (t0 t1 : List Sol) : ∀ (m : Nat) (a : Int) (r : Bool), loopN (Dlaws_eqSolidS_in_0 n self t0 t1) m a = some r → Wk Tryz.prog H Y 54 [.code (cp [1, 1, 0, 1, 0] (bodyOf Tryz.f54)), .blk 0, .code (cp [1, 1, 1] (bodyOf Tryz.f54))] (FinX Tryz.prog Tryz.f54 [] (bl r) []) ⟨[(0, .sl false 6 t0.length ((eSol false).f t0)), (1, .sl false 6 t1.length ((eSol false).f t1)), (5, i64 a)], []⟩ := by
  refine loopN_ind (fun _rec0 hrec0 a r h => ?_)
  obtain ⟨t5, rfl⟩ : ∃ x, x = a := ⟨a, rfl⟩
  unfold Dlaws_eqSolidS_in_0 at h
  refine x_frk 9 [] onil h (by kernel_rfl) (fun h => ?_) (fun h => ?_)
  · obtain ⟨v0, hv0, h⟩ := bind_some h
    obtain ⟨v1, hv1, h⟩ := bind_some h
    obtain ⟨v2, hv2, h⟩ := bind_some h
    refine x_frk 16 [(2, .val (.cptr ((eSol false).c v0 ++ (eSol false).f ((t0).drop (Int.toNat t5 + 1))))), (3, .val (.cptr ((eSol false).c v1 ++ (eSol false).f ((t1).drop (Int.toNat t5 + 1))))), (1, .call [] [] (bl v2) [])] (ocons (ix (eSol false) hv0) (ocons (ix (eSol false) hv1) (ocons (hself (v0, v1) _ hv2) onil))) h (by kernel_rfl) (fun h => ?_) (fun h => ?_)
    · replace h := Option.some.inj h; subst h
      exact x_end 4 [] [] onil onil (by kernel_rfl)
    · exact x_to 8 [] onil (hrec0 (w64 (t5 + 1)) r h) (by kernel_rfl)
  · replace h := Option.some.inj h; subst h
    exact x_end 5 [] [] onil onil (by kernel_rfl)
def Dlaws_eqSolidS_in (n : Nat) (self : (Sol × Sol) → Option Bool) (a0 : (List Sol)) (a1 : (List Sol)) : Option Bool :=
  frk ((a0.length : Int) != (a1.length : Int)) (some false) (loopN (Dlaws_eqSolidS_in_0 n self a0 a1) n 0)
theorem Tlaws_eqSolidS_in {Y} (n : Nat) (self : (Sol × Sol) → Option Bool) (hself : ∀ (a : (Sol × Sol)) (r : Bool), self a = some r → Big Tryz.prog H Y (.call 12 [.agg [bl a.1.inn, i64 a.1.pl.A, i64 a.1.pl.B, i64 a.1.pl.C, i64 a.1.pl.D, .sl false 6 a.1.kids.length ((eSol false).f a.1.kids)], .agg [bl a.2.inn, i64 a.2.pl.A, i64 a.2.pl.B, i64 a.2.pl.C, i64 a.2.pl.D, .sl false 6 a.2.kids.length ((eSol false).f a.2.kids)]] (lk []) (bl r) (lk []))) (a0 : (List Sol)) (a1 : (List Sol)) (r : Bool) (h : Dlaws_eqSolidS_in n self a0 a1 = some r) : Big Tryz.prog H Y (.call 54 [.sl false 6 a0.length ((eSol false).f a0), .sl false 6 a1.length ((eSol false).f a1)] (lk []) (bl r) (lk [])) := by
  unfold Dlaws_eqSolidS_in at h
  refine x_call (fn := Tryz.f54) (c := bodyOf Tryz.f54) (bs0 := []) Tryz.func54 (by kernel_rfl) (by kernel_rfl) ?_
  refine x_frk 13 [] onil h (by kernel_rfl) (fun h => ?_) (fun h => ?_)
  · replace h := Option.some.inj h; subst h
    exact x_end 4 [] [] onil onil (by kernel_rfl)
  · exact x_to 7 [] onil (Tlaws_eqSolidS_in_0 n self hself a0 a1 n 0 r h) (by kernel_rfl)
/-! laws.eqSolid -/
def Dlaws_eqSolid_b (n : Nat) (self : (Sol × Sol) → Option Bool) (a : (Sol × Sol)) : Option Bool :=
  match a with
  | (a0, a1) => frk (!(a0.inn == a1.inn)) (some false) ((Dlaws_eqPlane a0.pl a1.pl).bind fun v0 => frk (!v0) (some false) ((Dlaws_eqSolidS_in n self a0.kids a1.kids).bind fun v1 => frk (!v1) (some false) (some true)))
def Dlaws_eqSolid (n : Nat) (a0 : Sol) (a1 : Sol) : Option Bool := loopN (Dlaws_eqSolid_b n) n (a0, a1)
theorem Tlaws_eqSolid_b {Y} (n : Nat) : ∀ (m : Nat) (a : (Sol × Sol)) (r : Bool), loopN (Dlaws_eqSolid_b n) m a = some r → ∀ (_ : Unit), Big Tryz.prog H Y (.call 12 [.agg [bl a.1.inn, i64 a.1.pl.A, i64 a.1.pl.B, i64 a.1.pl.C, i64 a.1.pl.D, .sl false 6 a.1.kids.length ((eSol false).f a.1.kids)], .agg [bl a.2.inn, i64 a.2.pl.A, i64 a.2.pl.B, i64 a.2.pl.C, i64 a.2.pl.D, .sl false 6 a.2.kids.length ((eSol false).f a.2.kids)]] (lk []) (bl r) (lk [])) := by
  refine loopN_ind (fun self hs a r h => ?_)
  have hself : ∀ (a : (Sol × Sol)) (r : Bool), self a = some r → Big Tryz.prog H Y (.call 12 [.agg [bl a.1.inn, i64 a.1.pl.A, i64 a.1.pl.B, i64 a.1.pl.C, i64 a.1.pl.D, .sl false 6 a.1.kids.length ((eSol false).f a.1.kids)], .agg [bl a.2.inn, i64 a.2.pl.A, i64 a.2.pl.B, i64 a.2.pl.C, i64 a.2.pl.D, .sl false 6 a.2.kids.length ((eSol false).f a.2.kids)]] (lk []) (bl r) (lk [])) := fun a r h => hs a r h ()
  intro _
  obtain ⟨a0, a1⟩ := a
  unfold Dlaws_eqSolid_b at h
  refine x_call (fn := Tryz.f12) (c := bodyOf Tryz.f12) (bs0 := []) Tryz.func12 (by kernel_rfl) (by kernel_rfl) ?_
  refine x_frk 15 [] onil h (by kernel_rfl) (fun h => ?_) (fun h => ?_)
  · replace h := Option.some.inj h; subst h
    exact x_end 4 [] [] onil onil (by kernel_rfl)
  · obtain ⟨v0, hv0, h⟩ := bind_some h
    refine x_frk 11 [(4, .call [] [] (bl v0) [])] (ocons (Tlaws_eqPlane (Y := Y) a0.pl a1.pl _ hv0) onil) h (by kernel_rfl) (fun h => ?_) (fun h => ?_)
    · replace h := Option.some.inj h; subst h
      exact x_end 4 [] [] onil onil (by kernel_rfl)
    · obtain ⟨v1, hv1, h⟩ := bind_some h
      refine x_frk 11 [(4, .call [] [] (bl v1) [])] (ocons (Tlaws_eqSolidS_in (Y := Y) n self hself a0.kids a1.kids _ hv1) onil) h (by kernel_rfl) (fun h => ?_) (fun h => ?_)
      · replace h := Option.some.inj h; subst h
        exact x_end 4 [] [] onil onil (by kernel_rfl)
      · replace h := Option.some.inj h; subst h
        exact x_end 5 [] [] onil onil (by kernel_rfl)
theorem Tlaws_eqSolid {Y} (n : Nat) (a0 : Sol) (a1 : Sol) (r : Bool) (h : Dlaws_eqSolid n a0 a1 = some r) : Big Tryz.prog H Y (.call 12 [.agg [bl a0.inn, i64 a0.pl.A, i64 a0.pl.B, i64 a0.pl.C, i64 a0.pl.D, .sl false 6 a0.kids.length ((eSol false).f a0.kids)], .agg [bl a1.inn, i64 a1.pl.A, i64 a1.pl.B, i64 a1.pl.C, i64 a1.pl.D, .sl false 6 a1.kids.length ((eSol false).f a1.kids)]] (lk []) (bl r) (lk [])) := Tlaws_eqSolid_b n n (a0, a1) r h ()
/-! laws.FnExactBox -/
def Dlaws_FnExactBox_0 (n : Nat) (t45 b1_0 : Bool) (b1_1 b1_2 b1_3 b1_4 : Int) (b1_5 : List Sol) (b7_0 : Bool) (b7_1 b7_2 b7_3 b7_4 : Int) (b7_5 : List Sol) : Option Bool :=
  frk t45 (some false) ((Dlaws_toSolid n (Sol.mk b1_0 (Pl.mk b1_1 b1_2 b1_3 b1_4) b1_5)).bind fun v7 => (Dlaws_eqSolid n (Sol.mk b7_0 (Pl.mk b7_1 b7_2 b7_3 b7_4) b7_5) v7).bind fun v8 => frk (!v8) (some false) (some true))
theorem Tlaws_FnExactBox_0 {Y} (n : Nat) (t45 b1_0 : Bool) (b1_1 b1_2 b1_3 b1_4 : Int) (b1_5 : List Sol) (b7_0 : Bool) (b7_1 b7_2 b7_3 b7_4 : Int) (b7_5 : List Sol) (r : Bool) (h : Dlaws_FnExactBox_0 n t45 b1_0 b1_1 b1_2 b1_3 b1_4 b1_5 b7_0 b7_1 b7_2 b7_3 b7_4 b7_5 = some r) : Wk Tryz.prog H Y 3 [.code (cp [1, 1, 1, 1, 1, 1, 1, 0, 1] (bodyOf Tryz.f3)), .code (cp [1, 1, 1, 1, 1, 1, 1, 1] (bodyOf Tryz.f3))] (FinX Tryz.prog Tryz.f3 [] (bl r) []) ⟨[(1, .ptr 1 0), (7, .ptr 7 0), (45, bl t45)], [(1, ⟨true, 0, [bl b1_0, i64 b1_1, i64 b1_2, i64 b1_3, i64 b1_4, .sl false 6 b1_5.length ((eSol false).f b1_5)]⟩), (7, ⟨true, 0, [bl b7_0, i64 b7_1, i64 b7_2, i64 b7_3, i64 b7_4, .sl true 6 b7_5.length ((eSol true).f b7_5)]⟩)]⟩ := by
  unfold Dlaws_FnExactBox_0 at h
  refine x_frk 0 [] onil h (by kernel_rfl) (fun h => ?_) (fun h => ?_)
  · replace h := Option.some.inj h; subst h
    exact x_end 4 [] [] onil onil (by kernel_rfl)
  · obtain ⟨v7, hv7, h⟩ := bind_some h
    obtain ⟨v8, hv8, h⟩ := bind_some h
    refine x_frk 10 [(0, .rows [(eSol false).f b7_5]), (1, .call [] [] (.agg [bl v7.inn, i64 v7.pl.A, i64 v7.pl.B, i64 v7.pl.C, i64 v7.pl.D, .sl true 6 v7.kids.length ((eSol true).f v7.kids)]) []), (0, .call [] [(eSol false).f v7.kids] (bl v8) [])] (ocons (Enc.share (eSol true) (eSol false) (sSol true) b7_5) (ocons (Tlaws_toSolid (Y := Y) n (Sol.mk b1_0 (Pl.mk b1_1 b1_2 b1_3 b1_4) b1_5) _ hv7) (ocons (Tlaws_eqSolid (Y := Y) n (Sol.mk b7_0 (Pl.mk b7_1 b7_2 b7_3 b7_4) b7_5) v7 _ hv8) (ocons (Enc.share (eSol true) (eSol false) (sSol true) v7.kids) onil)))) h (by kernel_rfl) (fun h => ?_) (fun h => ?_)
    · replace h := Option.some.inj h; subst h
      exact x_end 4 [] [] onil onil (by kernel_rfl)
    · replace h := Option.some.inj h; subst h
      exact x_end 5 [] [] onil onil (by kernel_rfl)
def Dlaws_FnExactBox (n : Nat) (a0 : Sol) : Option Bool :=
  (Dlaws_szSolid n a0 1048576).bind fun v0 => frk (decide (v0 < 0)) (some true) ((Dlaws_toSolid n a0).bind fun v1 => (Dspec_Box n v1).bind fun v2 => (Dlaws_toSolid n a0).bind fun v3 => (Dimpl_Box n v3).bind fun v4 => (Dlaws_eqPt v4.1 v2.1).bind fun v5 => frk (!v5) (some false) ((Dlaws_eqPt v4.2.1 v2.2.1).bind fun v6 => frk (!v6) (some false) (Dlaws_FnExactBox_0 n (!(v4.2.2 == v2.2.2)) a0.inn a0.pl.A a0.pl.B a0.pl.C a0.pl.D a0.kids v3.inn v3.pl.A v3.pl.B v3.pl.C v3.pl.D v3.kids)))
theorem Tlaws_FnExactBox {Y} (n : Nat) (a0 : Sol) (r : Bool) (h : Dlaws_FnExactBox n a0 = some r) : Big Tryz.prog H Y (.call 3 [.agg [bl a0.inn, i64 a0.pl.A, i64 a0.pl.B, i64 a0.pl.C, i64 a0.pl.D, .sl false 6 a0.kids.length ((eSol false).f a0.kids)]] (lk []) (bl r) (lk [])) := by
  unfold Dlaws_FnExactBox at h
  refine x_call (fn := Tryz.f3) (c := bodyOf Tryz.f3) (bs0 := []) Tryz.func3 (by kernel_rfl) (by kernel_rfl) ?_
  obtain ⟨v0, hv0, h⟩ := bind_some h
  refine x_frk 22 [(5, .call [] [] (i64 v0) [])] (ocons (Tlaws_szSolid (Y := Y) n a0 1048576 _ hv0) onil) h (by kernel_rfl) (fun h => ?_) (fun h => ?_)
  · replace h := Option.some.inj h; subst h
    exact x_end 4 [] [] onil onil (by kernel_rfl)
  · obtain ⟨v1, hv1, h⟩ := bind_some h
    obtain ⟨v2, hv2, h⟩ := bind_some h
    obtain ⟨v3, hv3, h⟩ := bind_some h
    obtain ⟨v4, hv4, h⟩ := bind_some h
    obtain ⟨v5, hv5, h⟩ := bind_some h
    refine x_frk 45 [(1, .call [] [] (.agg [bl v1.inn, i64 v1.pl.A, i64 v1.pl.B, i64 v1.pl.C, i64 v1.pl.D, .sl true 6 v1.kids.length ((eSol true).f v1.kids)]) []), (0, .call [] [(eSol false).f v1.kids] (.tup [.agg [i64 v2.1.X, i64 v2.1.Y, i64 v2.1.Z], .agg [i64 v2.2.1.X, i64 v2.2.1.Y, i64 v2.2.1.Z], bl v2.2.2]) []), (10, .call [] [] (.agg [bl v3.inn, i64 v3.pl.A, i64 v3.pl.B, i64 v3.pl.C, i64 v3.pl.D, .sl true 6 v3.kids.length ((eSol true).f v3.kids)]) []), (2, .rows [(eSol false).f v3.kids]), (0, .call [] [] (.tup [.agg [i64 v4.1.X, i64 v4.1.Y, i64 v4.1.Z], .agg [i64 v4.2.1.X, i64 v4.2.1.Y, i64 v4.2.1.Z], bl v4.2.2]) []), (11, .call [] [] (bl v5) [])] (ocons (Tlaws_toSolid (Y := Y) n a0 _ hv1) (ocons (Tspec_Box (Y := Y) n v1 _ hv2) (ocons (Enc.share (eSol true) (eSol false) (sSol true) v1.kids) (ocons (Tlaws_toSolid (Y := Y) n a0 _ hv3) (ocons (Enc.share (eSol true) (eSol false) (sSol true) v3.kids) (ocons (Timpl_Box (Y := Y) n v3 _ hv4) (ocons (Tlaws_eqPt (Y := Y) v4.1 v2.1 _ hv5) onil))))))) h (by kernel_rfl) (fun h => ?_) (fun h => ?_)
    · replace h := Option.some.inj h; subst h
      exact x_end 16 [] [] onil onil (by kernel_rfl)
    · obtain ⟨v6, hv6, h⟩ := bind_some h
      refine x_frk 6 [(2, .call [] [] (bl v6) [])] (ocons (Tlaws_eqPt (Y := Y) v4.2.1 v2.2.1 _ hv6) onil) h (by kernel_rfl) (fun h => ?_) (fun h => ?_)
      · replace h := Option.some.inj h; subst h
        exact x_end 10 [] [] onil onil (by kernel_rfl)
      · exact x_to 5 [] onil (Tlaws_FnExactBox_0 n (!(v4.2.2 == v2.2.2)) a0.inn a0.pl.A a0.pl.B a0.pl.C a0.pl.D a0.kids v3.inn v3.pl.A v3.pl.B v3.pl.C v3.pl.D v3.kids r h) (by kernel_rfl)
end Evl.T
