/- Walks. No condition. -/
import Derived.Test.YtooimdakbnmopaaWy
namespace Evl.T
open Go Evl Go.Proofs
set_option maxRecDepth 100000
/-! spec.l11Take -/
def Dspec_l11Take_2 (_n : Nat) (_self1 : ((Int × Bool) × Bool × Sol × (List Pl)) → Option (Sol × (Int × Bool))) (_b8_0 : Bool) (_b8_1 : Int) (_b8_2 : Int) (_b8_3 : Int) (_b8_4 : Int) (b1000_0 : Int) (b1000_1 : Bool) : Option (Sol × (Int × Bool)) :=
  (Dspec_Leaf false).bind fun v10 => some (v10, (b1000_0, b1000_1))
theorem Tspec_l11Take_2 {Y} (n : Nat) (self1 : ((Int × Bool) × Bool × Sol × (List Pl)) → Option (Sol × (Int × Bool))) (_hself1 : ∀ (a : ((Int × Bool) × Bool × Sol × (List Pl))) (r : (Sol × (Int × Bool))), self1 a = some r → Big Try.prog H Y (.call 126 [.ptr 1000 0, bl a.2.1, .agg [bl a.2.2.1.inn, i64 a.2.2.1.pl.A, i64 a.2.2.1.pl.B, i64 a.2.2.1.pl.C, i64 a.2.2.1.pl.D, .sl false 6 a.2.2.1.kids.length ((eSol false).f a.2.2.1.kids)], .sl false 4 a.2.2.2.length ((ePl).f a.2.2.2)] (lk [(1000, ⟨true, 0, [i64 a.1.1, bl a.1.2]⟩)]) (.agg [bl r.1.inn, i64 r.1.pl.A, i64 r.1.pl.B, i64 r.1.pl.C, i64 r.1.pl.D, .sl true 6 r.1.kids.length ((eSol true).f r.1.kids)]) (lk [(1000, ⟨true, 0, [i64 r.2.1, bl r.2.2]⟩)]))) (b8_0 : Bool) (b8_1 : Int) (b8_2 : Int) (b8_3 : Int) (b8_4 : Int) (b1000_0 : Int) (b1000_1 : Bool) (r : (Sol × (Int × Bool))) (h : Dspec_l11Take_2 n self1 b8_0 b8_1 b8_2 b8_3 b8_4 b1000_0 b1000_1 = some r) : Wk Try.prog H Y 126 [.code (cp [1, 1, 1, 1, 0, 0, 1, 1, 1, 1, 1, 0, 1, 0] (bodyOf Try.f126)), .code (cp [1, 1, 1, 1, 0, 0, 1, 1, 1, 1, 1, 0, 1, 1] (bodyOf Try.f126)), .blk 0, .code (cp [1, 1, 1, 1, 1] (bodyOf Try.f126))] (FinX Try.prog Try.f126 [(1000, ⟨true, 0, [.bad, .bad]⟩)] (.agg [bl r.1.inn, i64 r.1.pl.A, i64 r.1.pl.B, i64 r.1.pl.C, i64 r.1.pl.D, .sl true 6 r.1.kids.length ((eSol true).f r.1.kids)]) [(1000, ⟨true, 0, [i64 r.2.1, bl r.2.2]⟩)]) ⟨[(8, .ptr 8 0)], [(8, ⟨true, 0, [bl b8_0, i64 b8_1, i64 b8_2, i64 b8_3, i64 b8_4, .nil]⟩), (1000, ⟨true, 0, [i64 b1000_0, bl b1000_1]⟩)]⟩ := by
  unfold Dspec_l11Take_2 at h
  obtain ⟨v10, hv10, h⟩ := bind_some h
  replace h := Option.some.inj h; subst h
  exact x_end 4 [(0, .call [] [] (.agg [bl v10.inn, i64 v10.pl.A, i64 v10.pl.B, i64 v10.pl.C, i64 v10.pl.D, .sl true 6 v10.kids.length ((eSol true).f v10.kids)]) [])] [] (ocons (Tspec_Leaf (Y := Y) false _ hv10) onil) onil (by kernel_rfl)
def Dspec_l11Take_3 (_n : Nat) (self1 : ((Int × Bool) × Bool × Sol × (List Pl)) → Option (Sol × (Int × Bool))) (t1 : Bool) (t3 : List Pl) (t62 : Bool) (_b6_0 : Bool) (b6_1 : Int) (b6_2 : Int) (b6_3 : Int) (b6_4 : Int) (b6_5 : List Sol) (_b8_0 : Bool) (_b8_1 : Int) (_b8_2 : Int) (_b8_3 : Int) (_b8_4 : Int) (b1000_0 : Int) (b1000_1 : Bool) : Option (Sol × (Int × Bool)) :=
  frk t62 ((Dspec_Leaf false).bind fun v11 => some (v11, (b1000_0, true))) ((lget b6_5 0).bind fun v12 => (Dspec_l8Path t3 (Pl.mk b6_1 b6_2 b6_3 b6_4)).bind fun v13 => (self1 ((b1000_0, b1000_1), t1, v12, v13)).bind fun v14 => (lget b6_5 1).bind fun v15 => (Dspec_l3Flip (Pl.mk b6_1 b6_2 b6_3 b6_4)).bind fun v16 => (Dspec_l8Path t3 v16).bind fun v17 => (self1 (v14.2, t1, v15, v17)).bind fun v18 => (Dspec_l11Nodeo1o2 (Pl.mk b6_1 b6_2 b6_3 b6_4) v14.1 v18.1).bind fun v19 => some (v19, v18.2))
theorem Tspec_l11Take_3 {Y} (n : Nat) (self1 : ((Int × Bool) × Bool × Sol × (List Pl)) → Option (Sol × (Int × Bool))) (hself1 : ∀ (a : ((Int × Bool) × Bool × Sol × (List Pl))) (r : (Sol × (Int × Bool))), self1 a = some r → Big Try.prog H Y (.call 126 [.ptr 1000 0, bl a.2.1, .agg [bl a.2.2.1.inn, i64 a.2.2.1.pl.A, i64 a.2.2.1.pl.B, i64 a.2.2.1.pl.C, i64 a.2.2.1.pl.D, .sl false 6 a.2.2.1.kids.length ((eSol false).f a.2.2.1.kids)], .sl false 4 a.2.2.2.length ((ePl).f a.2.2.2)] (lk [(1000, ⟨true, 0, [i64 a.1.1, bl a.1.2]⟩)]) (.agg [bl r.1.inn, i64 r.1.pl.A, i64 r.1.pl.B, i64 r.1.pl.C, i64 r.1.pl.D, .sl true 6 r.1.kids.length ((eSol true).f r.1.kids)]) (lk [(1000, ⟨true, 0, [i64 r.2.1, bl r.2.2]⟩)]))) (t1 : Bool) (t3 : List Pl) (t62 : Bool) (b6_0 : Bool) (b6_1 : Int) (b6_2 : Int) (b6_3 : Int) (b6_4 : Int) (b6_5 : List Sol) (b8_0 : Bool) (b8_1 : Int) (b8_2 : Int) (b8_3 : Int) (b8_4 : Int) (b1000_0 : Int) (b1000_1 : Bool) (r : (Sol × (Int × Bool))) (h : Dspec_l11Take_3 n self1 t1 t3 t62 b6_0 b6_1 b6_2 b6_3 b6_4 b6_5 b8_0 b8_1 b8_2 b8_3 b8_4 b1000_0 b1000_1 = some r) : Wk Try.prog H Y 126 [.code (cp [1, 1, 1, 1, 0, 0, 1, 1, 1, 1, 1] (bodyOf Try.f126)), .blk 0, .code (cp [1, 1, 1, 1, 1] (bodyOf Try.f126))] (FinX Try.prog Try.f126 [(1000, ⟨true, 0, [.bad, .bad]⟩)] (.agg [bl r.1.inn, i64 r.1.pl.A, i64 r.1.pl.B, i64 r.1.pl.C, i64 r.1.pl.D, .sl true 6 r.1.kids.length ((eSol true).f r.1.kids)]) [(1000, ⟨true, 0, [i64 r.2.1, bl r.2.2]⟩)]) ⟨[(0, .ptr 1000 0), (1, bl t1), (3, .sl false 4 t3.length ((ePl).f t3)), (6, .ptr 6 0), (8, .ptr 8 0), (62, bl t62)], [(6, ⟨true, 0, [bl b6_0, i64 b6_1, i64 b6_2, i64 b6_3, i64 b6_4, .sl false 6 b6_5.length ((eSol false).f b6_5)]⟩), (8, ⟨true, 0, [bl b8_0, i64 b8_1, i64 b8_2, i64 b8_3, i64 b8_4, .nil]⟩), (1000, ⟨true, 0, [i64 b1000_0, bl b1000_1]⟩)]⟩ := by
  unfold Dspec_l11Take_3 at h
  refine x_frk 0 [] onil h (by kernel_rfl) (fun h => ?_) (fun h => ?_)
  · obtain ⟨v11, hv11, h⟩ := bind_some h
    replace h := Option.some.inj h; subst h
    exact x_end 12 [(4, .call [] [] (.agg [bl v11.inn, i64 v11.pl.A, i64 v11.pl.B, i64 v11.pl.C, i64 v11.pl.D, .sl true 6 v11.kids.length ((eSol true).f v11.kids)]) [])] [] (ocons (Tspec_Leaf (Y := Y) false _ hv11) onil) onil (by kernel_rfl)
  · obtain ⟨v12, hv12, h⟩ := bind_some h
    obtain ⟨v13, hv13, h⟩ := bind_some h
    obtain ⟨v14, hv14, h⟩ := bind_some h
    obtain ⟨v15, hv15, h⟩ := bind_some h
    obtain ⟨v16, hv16, h⟩ := bind_some h
    obtain ⟨v17, hv17, h⟩ := bind_some h
    obtain ⟨v18, hv18, h⟩ := bind_some h
    obtain ⟨v19, hv19, h⟩ := bind_some h
    replace h := Option.some.inj h; subst h
    exact x_end 38 [(4, .val (.cptr ((eSol false).c v12 ++ (eSol false).f ((b6_5).drop (Int.toNat 0 + 1))))), (4, .call [] [] (.sl false 4 v13.length ((ePl).f v13)) []), (0, .call [] [] (.agg [bl v14.1.inn, i64 v14.1.pl.A, i64 v14.1.pl.B, i64 v14.1.pl.C, i64 v14.1.pl.D, .sl true 6 v14.1.kids.length ((eSol true).f v14.1.kids)]) [(1000, ⟨true, 0, [i64 v14.2.1, bl v14.2.2]⟩)]), (9, .val (.cptr ((eSol false).c v15 ++ (eSol false).f ((b6_5).drop (Int.toNat 1 + 1))))), (4, .call [] [] (.agg [i64 v16.A, i64 v16.B, i64 v16.C, i64 v16.D]) []), (0, .call [] [] (.sl false 4 v17.length ((ePl).f v17)) []), (0, .call [] [] (.agg [bl v18.1.inn, i64 v18.1.pl.A, i64 v18.1.pl.B, i64 v18.1.pl.C, i64 v18.1.pl.D, .sl true 6 v18.1.kids.length ((eSol true).f v18.1.kids)]) [(1000, ⟨true, 0, [i64 v18.2.1, bl v18.2.2]⟩)]), (0, .call [] [] (.agg [bl v19.inn, i64 v19.pl.A, i64 v19.pl.B, i64 v19.pl.C, i64 v19.pl.D, .sl true 6 v19.kids.length ((eSol true).f v19.kids)]) [])] [] (ocons (ix (eSol false) hv12) (ocons (shSl (L := v13) ePl ePl sPl (Tspec_l8Path (Y := Y) t3 (Pl.mk b6_1 b6_2 b6_3 b6_4) _ hv13)) (ocons (hself1 ((b1000_0, b1000_1), t1, v12, v13) _ hv14) (ocons (ix (eSol false) hv15) (ocons (Tspec_l3Flip (Y := Y) (Pl.mk b6_1 b6_2 b6_3 b6_4) _ hv16) (ocons (shSl (L := v17) ePl ePl sPl (Tspec_l8Path (Y := Y) t3 v16 _ hv17)) (ocons (hself1 (v14.2, t1, v15, v17) _ hv18) (ocons (Tspec_l11Nodeo1o2 (Y := Y) (Pl.mk b6_1 b6_2 b6_3 b6_4) v14.1 v18.1 _ hv19) onil)))))))) onil (by kernel_rfl)
def Dspec_l11Take_1 (n : Nat) (self1 : ((Int × Bool) × Bool × Sol × (List Pl)) → Option (Sol × (Int × Bool))) (t1 : Bool) (t3 : List Pl) (t48 : Bool) (b6_0 : Bool) (b6_1 : Int) (b6_2 : Int) (b6_3 : Int) (b6_4 : Int) (b6_5 : List Sol) (b8_0 : Bool) (b8_1 : Int) (b8_2 : Int) (b8_3 : Int) (b8_4 : Int) (b1000_0 : Int) (b1000_1 : Bool) : Option (Sol × (Int × Bool)) :=
  frk t48 ((lget b6_5 1).bind fun v8 => (self1 ((b1000_0, b1000_1), t1, v8, t3)).bind fun v9 => some v9) (frk b1000_1 (Dspec_l11Take_2 n self1 b8_0 b8_1 b8_2 b8_3 b8_4 b1000_0 true) (Dspec_l11Take_3 n self1 t1 t3 ((t3.length : Int) == 24) b6_0 b6_1 b6_2 b6_3 b6_4 b6_5 b8_0 b8_1 b8_2 b8_3 b8_4 b1000_0 b1000_1))
theorem Tspec_l11Take_1 {Y} (n : Nat) (self1 : ((Int × Bool) × Bool × Sol × (List Pl)) → Option (Sol × (Int × Bool))) (hself1 : ∀ (a : ((Int × Bool) × Bool × Sol × (List Pl))) (r : (Sol × (Int × Bool))), self1 a = some r → Big Try.prog H Y (.call 126 [.ptr 1000 0, bl a.2.1, .agg [bl a.2.2.1.inn, i64 a.2.2.1.pl.A, i64 a.2.2.1.pl.B, i64 a.2.2.1.pl.C, i64 a.2.2.1.pl.D, .sl false 6 a.2.2.1.kids.length ((eSol false).f a.2.2.1.kids)], .sl false 4 a.2.2.2.length ((ePl).f a.2.2.2)] (lk [(1000, ⟨true, 0, [i64 a.1.1, bl a.1.2]⟩)]) (.agg [bl r.1.inn, i64 r.1.pl.A, i64 r.1.pl.B, i64 r.1.pl.C, i64 r.1.pl.D, .sl true 6 r.1.kids.length ((eSol true).f r.1.kids)]) (lk [(1000, ⟨true, 0, [i64 r.2.1, bl r.2.2]⟩)]))) (t1 : Bool) (t3 : List Pl) (t48 : Bool) (b6_0 : Bool) (b6_1 : Int) (b6_2 : Int) (b6_3 : Int) (b6_4 : Int) (b6_5 : List Sol) (b8_0 : Bool) (b8_1 : Int) (b8_2 : Int) (b8_3 : Int) (b8_4 : Int) (b1000_0 : Int) (b1000_1 : Bool) (r : (Sol × (Int × Bool))) (h : Dspec_l11Take_1 n self1 t1 t3 t48 b6_0 b6_1 b6_2 b6_3 b6_4 b6_5 b8_0 b8_1 b8_2 b8_3 b8_4 b1000_0 b1000_1 = some r) : Wk Try.prog H Y 126 [.code (cp [1, 1, 1, 1, 0, 0, 1, 1, 1] (bodyOf Try.f126)), .blk 0, .code (cp [1, 1, 1, 1, 1] (bodyOf Try.f126))] (FinX Try.prog Try.f126 [(1000, ⟨true, 0, [.bad, .bad]⟩)] (.agg [bl r.1.inn, i64 r.1.pl.A, i64 r.1.pl.B, i64 r.1.pl.C, i64 r.1.pl.D, .sl true 6 r.1.kids.length ((eSol true).f r.1.kids)]) [(1000, ⟨true, 0, [i64 r.2.1, bl r.2.2]⟩)]) ⟨[(0, .ptr 1000 0), (1, bl t1), (3, .sl false 4 t3.length ((ePl).f t3)), (6, .ptr 6 0), (8, .ptr 8 0), (48, bl t48)], [(6, ⟨true, 0, [bl b6_0, i64 b6_1, i64 b6_2, i64 b6_3, i64 b6_4, .sl false 6 b6_5.length ((eSol false).f b6_5)]⟩), (8, ⟨true, 0, [bl b8_0, i64 b8_1, i64 b8_2, i64 b8_3, i64 b8_4, .nil]⟩), (1000, ⟨true, 0, [i64 b1000_0, bl b1000_1]⟩)]⟩ := by
  unfold Dspec_l11Take_1 at h
  refine x_frk 0 [] onil h (by kernel_rfl) (fun h => ?_) (fun h => ?_)
  · obtain ⟨v8, hv8, h⟩ := bind_some h
    obtain ⟨v9, hv9, h⟩ := bind_some h
    replace h := Option.some.inj h; subst h
    exact x_end 12 [(4, .val (.cptr ((eSol false).c v8 ++ (eSol false).f ((b6_5).drop (Int.toNat 1 + 1))))), (2, .call [] [] (.agg [bl v9.1.inn, i64 v9.1.pl.A, i64 v9.1.pl.B, i64 v9.1.pl.C, i64 v9.1.pl.D, .sl true 6 v9.1.kids.length ((eSol true).f v9.1.kids)]) [(1000, ⟨true, 0, [i64 v9.2.1, bl v9.2.2]⟩)])] [] (ocons (ix (eSol false) hv8) (ocons (hself1 ((b1000_0, b1000_1), t1, v8, t3) _ hv9) onil)) onil (by kernel_rfl)
  · refine x_frk 7 [] onil h (by kernel_rfl) (fun h => ?_) (fun h => ?_)
    · exact x_to 15 [] onil (Tspec_l11Take_2 n self1 hself1 b8_0 b8_1 b8_2 b8_3 b8_4 b1000_0 true r h) (by kernel_rfl)
    · exact x_to 6 [] onil (Tspec_l11Take_3 n self1 hself1 t1 t3 ((t3.length : Int) == 24) b6_0 b6_1 b6_2 b6_3 b6_4 b6_5 b8_0 b8_1 b8_2 b8_3 b8_4 b1000_0 b1000_1 r h) (by kernel_rfl)
def Dspec_l11Take_4 (n : Nat) (self1 : ((Int × Bool) × Bool × Sol × (List Pl)) → Option (Sol × (Int × Bool))) (t1 : Bool) (t3 : List Pl) (b6_0 : Bool) (b6_1 : Int) (b6_2 : Int) (b6_3 : Int) (b6_4 : Int) (b6_5 : List Sol) (b8_0 : Bool) (b8_1 : Int) (b8_2 : Int) (b8_3 : Int) (b8_4 : Int) (b1000_0 : Int) (b1000_1 : Bool) : Option (Sol × (Int × Bool)) :=
  frk b1000_1 (Dspec_l11Take_2 n self1 b8_0 b8_1 b8_2 b8_3 b8_4 b1000_0 true) (Dspec_l11Take_3 n self1 t1 t3 ((t3.length : Int) == 24) b6_0 b6_1 b6_2 b6_3 b6_4 b6_5 b8_0 b8_1 b8_2 b8_3 b8_4 b1000_0 b1000_1)
theorem Tspec_l11Take_4 {Y} (n : Nat) (self1 : ((Int × Bool) × Bool × Sol × (List Pl)) → Option (Sol × (Int × Bool))) (hself1 : ∀ (a : ((Int × Bool) × Bool × Sol × (List Pl))) (r : (Sol × (Int × Bool))), self1 a = some r → Big Try.prog H Y (.call 126 [.ptr 1000 0, bl a.2.1, .agg [bl a.2.2.1.inn, i64 a.2.2.1.pl.A, i64 a.2.2.1.pl.B, i64 a.2.2.1.pl.C, i64 a.2.2.1.pl.D, .sl false 6 a.2.2.1.kids.length ((eSol false).f a.2.2.1.kids)], .sl false 4 a.2.2.2.length ((ePl).f a.2.2.2)] (lk [(1000, ⟨true, 0, [i64 a.1.1, bl a.1.2]⟩)]) (.agg [bl r.1.inn, i64 r.1.pl.A, i64 r.1.pl.B, i64 r.1.pl.C, i64 r.1.pl.D, .sl true 6 r.1.kids.length ((eSol true).f r.1.kids)]) (lk [(1000, ⟨true, 0, [i64 r.2.1, bl r.2.2]⟩)]))) (t1 : Bool) (t3 : List Pl) (b6_0 : Bool) (b6_1 : Int) (b6_2 : Int) (b6_3 : Int) (b6_4 : Int) (b6_5 : List Sol) (b8_0 : Bool) (b8_1 : Int) (b8_2 : Int) (b8_3 : Int) (b8_4 : Int) (b1000_0 : Int) (b1000_1 : Bool) (r : (Sol × (Int × Bool))) (h : Dspec_l11Take_4 n self1 t1 t3 b6_0 b6_1 b6_2 b6_3 b6_4 b6_5 b8_0 b8_1 b8_2 b8_3 b8_4 b1000_0 b1000_1 = some r) : Wk Try.prog H Y 126 [.code (cp [1, 1, 1, 1, 0, 0, 1, 1, 1, 1, 0] (bodyOf Try.f126)), .code (cp [1, 1, 1, 1, 0, 0, 1, 1, 1, 1, 1] (bodyOf Try.f126)), .blk 0, .code (cp [1, 1, 1, 1, 1] (bodyOf Try.f126))] (FinX Try.prog Try.f126 [(1000, ⟨true, 0, [.bad, .bad]⟩)] (.agg [bl r.1.inn, i64 r.1.pl.A, i64 r.1.pl.B, i64 r.1.pl.C, i64 r.1.pl.D, .sl true 6 r.1.kids.length ((eSol true).f r.1.kids)]) [(1000, ⟨true, 0, [i64 r.2.1, bl r.2.2]⟩)]) ⟨[(0, .ptr 1000 0), (1, bl t1), (3, .sl false 4 t3.length ((ePl).f t3)), (6, .ptr 6 0), (8, .ptr 8 0)], [(6, ⟨true, 0, [bl b6_0, i64 b6_1, i64 b6_2, i64 b6_3, i64 b6_4, .sl false 6 b6_5.length ((eSol false).f b6_5)]⟩), (8, ⟨true, 0, [bl b8_0, i64 b8_1, i64 b8_2, i64 b8_3, i64 b8_4, .nil]⟩), (1000, ⟨true, 0, [i64 b1000_0, bl b1000_1]⟩)]⟩ := by
  unfold Dspec_l11Take_4 at h
  refine x_frk 6 [] onil h (by kernel_rfl) (fun h => ?_) (fun h => ?_)
  · exact x_to 15 [] onil (Tspec_l11Take_2 n self1 hself1 b8_0 b8_1 b8_2 b8_3 b8_4 b1000_0 true r h) (by kernel_rfl)
  · exact x_to 6 [] onil (Tspec_l11Take_3 n self1 hself1 t1 t3 ((t3.length : Int) == 24) b6_0 b6_1 b6_2 b6_3 b6_4 b6_5 b8_0 b8_1 b8_2 b8_3 b8_4 b1000_0 b1000_1 r h) (by kernel_rfl)
def Dspec_l11Take_0 (n : Nat) (self1 : ((Int × Bool) × Bool × Sol × (List Pl)) → Option (Sol × (Int × Bool))) (t1 : Bool) (t3 : List Pl) (t9 : Bool) (t10 : Bool) (t34 : Bool) (b6_0 : Bool) (b6_1 : Int) (b6_2 : Int) (b6_3 : Int) (b6_4 : Int) (b6_5 : List Sol) (b8_0 : Bool) (b8_1 : Int) (b8_2 : Int) (b8_3 : Int) (b8_4 : Int) (b1000_0 : Int) (b1000_1 : Bool) : Option (Sol × (Int × Bool)) :=
  frk t34 ((lget b6_5 0).bind fun v6 => (self1 ((b1000_0, b1000_1), t1, v6, t3)).bind fun v7 => some v7) (frk t10 (Dspec_l11Take_1 n self1 t1 t3 (!t9) b6_0 b6_1 b6_2 b6_3 b6_4 b6_5 b8_0 b8_1 b8_2 b8_3 b8_4 b1000_0 b1000_1) (Dspec_l11Take_4 n self1 t1 t3 b6_0 b6_1 b6_2 b6_3 b6_4 b6_5 b8_0 b8_1 b8_2 b8_3 b8_4 b1000_0 b1000_1))
theorem Tspec_l11Take_0 {Y} (n : Nat) (self1 : ((Int × Bool) × Bool × Sol × (List Pl)) → Option (Sol × (Int × Bool))) (hself1 : ∀ (a : ((Int × Bool) × Bool × Sol × (List Pl))) (r : (Sol × (Int × Bool))), self1 a = some r → Big Try.prog H Y (.call 126 [.ptr 1000 0, bl a.2.1, .agg [bl a.2.2.1.inn, i64 a.2.2.1.pl.A, i64 a.2.2.1.pl.B, i64 a.2.2.1.pl.C, i64 a.2.2.1.pl.D, .sl false 6 a.2.2.1.kids.length ((eSol false).f a.2.2.1.kids)], .sl false 4 a.2.2.2.length ((ePl).f a.2.2.2)] (lk [(1000, ⟨true, 0, [i64 a.1.1, bl a.1.2]⟩)]) (.agg [bl r.1.inn, i64 r.1.pl.A, i64 r.1.pl.B, i64 r.1.pl.C, i64 r.1.pl.D, .sl true 6 r.1.kids.length ((eSol true).f r.1.kids)]) (lk [(1000, ⟨true, 0, [i64 r.2.1, bl r.2.2]⟩)]))) (t1 : Bool) (t3 : List Pl) (t9 : Bool) (t10 : Bool) (t34 : Bool) (b6_0 : Bool) (b6_1 : Int) (b6_2 : Int) (b6_3 : Int) (b6_4 : Int) (b6_5 : List Sol) (b8_0 : Bool) (b8_1 : Int) (b8_2 : Int) (b8_3 : Int) (b8_4 : Int) (b1000_0 : Int) (b1000_1 : Bool) (r : (Sol × (Int × Bool))) (h : Dspec_l11Take_0 n self1 t1 t3 t9 t10 t34 b6_0 b6_1 b6_2 b6_3 b6_4 b6_5 b8_0 b8_1 b8_2 b8_3 b8_4 b1000_0 b1000_1 = some r) : Wk Try.prog H Y 126 [.code (cp [1, 1, 1, 1, 0, 0, 1] (bodyOf Try.f126)), .blk 0, .code (cp [1, 1, 1, 1, 1] (bodyOf Try.f126))] (FinX Try.prog Try.f126 [(1000, ⟨true, 0, [.bad, .bad]⟩)] (.agg [bl r.1.inn, i64 r.1.pl.A, i64 r.1.pl.B, i64 r.1.pl.C, i64 r.1.pl.D, .sl true 6 r.1.kids.length ((eSol true).f r.1.kids)]) [(1000, ⟨true, 0, [i64 r.2.1, bl r.2.2]⟩)]) ⟨[(0, .ptr 1000 0), (1, bl t1), (3, .sl false 4 t3.length ((ePl).f t3)), (6, .ptr 6 0), (8, .ptr 8 0), (9, bl t9), (10, bl t10), (34, bl t34)], [(6, ⟨true, 0, [bl b6_0, i64 b6_1, i64 b6_2, i64 b6_3, i64 b6_4, .sl false 6 b6_5.length ((eSol false).f b6_5)]⟩), (8, ⟨true, 0, [bl b8_0, i64 b8_1, i64 b8_2, i64 b8_3, i64 b8_4, .nil]⟩), (1000, ⟨true, 0, [i64 b1000_0, bl b1000_1]⟩)]⟩ := by
  unfold Dspec_l11Take_0 at h
  refine x_frk 0 [] onil h (by kernel_rfl) (fun h => ?_) (fun h => ?_)
  · obtain ⟨v6, hv6, h⟩ := bind_some h
    obtain ⟨v7, hv7, h⟩ := bind_some h
    replace h := Option.some.inj h; subst h
    exact x_end 12 [(4, .val (.cptr ((eSol false).c v6 ++ (eSol false).f ((b6_5).drop (Int.toNat 0 + 1))))), (2, .call [] [] (.agg [bl v7.1.inn, i64 v7.1.pl.A, i64 v7.1.pl.B, i64 v7.1.pl.C, i64 v7.1.pl.D, .sl true 6 v7.1.kids.length ((eSol true).f v7.1.kids)]) [(1000, ⟨true, 0, [i64 v7.2.1, bl v7.2.2]⟩)])] [] (ocons (ix (eSol false) hv6) (ocons (hself1 ((b1000_0, b1000_1), t1, v6, t3) _ hv7) onil)) onil (by kernel_rfl)
  · refine x_frk 4 [] onil h (by kernel_rfl) (fun h => ?_) (fun h => ?_)
    · exact x_to 5 [] onil (Tspec_l11Take_1 n self1 hself1 t1 t3 (!t9) b6_0 b6_1 b6_2 b6_3 b6_4 b6_5 b8_0 b8_1 b8_2 b8_3 b8_4 b1000_0 b1000_1 r h) (by kernel_rfl)
    · exact x_to 7 [] onil (Tspec_l11Take_4 n self1 hself1 t1 t3 b6_0 b6_1 b6_2 b6_3 b6_4 b6_5 b8_0 b8_1 b8_2 b8_3 b8_4 b1000_0 b1000_1 r h) (by kernel_rfl)
def Dspec_l11Take_5 (n : Nat) (self1 : ((Int × Bool) × Bool × Sol × (List Pl)) → Option (Sol × (Int × Bool))) (t1 : Bool) (t3 : List Pl) (t9 : Bool) (t10 : Bool) (b6_0 : Bool) (b6_1 : Int) (b6_2 : Int) (b6_3 : Int) (b6_4 : Int) (b6_5 : List Sol) (b8_0 : Bool) (b8_1 : Int) (b8_2 : Int) (b8_3 : Int) (b8_4 : Int) (b1000_0 : Int) (b1000_1 : Bool) : Option (Sol × (Int × Bool)) :=
  frk t10 (Dspec_l11Take_1 n self1 t1 t3 (!t9) b6_0 b6_1 b6_2 b6_3 b6_4 b6_5 b8_0 b8_1 b8_2 b8_3 b8_4 b1000_0 b1000_1) (Dspec_l11Take_4 n self1 t1 t3 b6_0 b6_1 b6_2 b6_3 b6_4 b6_5 b8_0 b8_1 b8_2 b8_3 b8_4 b1000_0 b1000_1)
theorem Tspec_l11Take_5 {Y} (n : Nat) (self1 : ((Int × Bool) × Bool × Sol × (List Pl)) → Option (Sol × (Int × Bool))) (hself1 : ∀ (a : ((Int × Bool) × Bool × Sol × (List Pl))) (r : (Sol × (Int × Bool))), self1 a = some r → Big Try.prog H Y (.call 126 [.ptr 1000 0, bl a.2.1, .agg [bl a.2.2.1.inn, i64 a.2.2.1.pl.A, i64 a.2.2.1.pl.B, i64 a.2.2.1.pl.C, i64 a.2.2.1.pl.D, .sl false 6 a.2.2.1.kids.length ((eSol false).f a.2.2.1.kids)], .sl false 4 a.2.2.2.length ((ePl).f a.2.2.2)] (lk [(1000, ⟨true, 0, [i64 a.1.1, bl a.1.2]⟩)]) (.agg [bl r.1.inn, i64 r.1.pl.A, i64 r.1.pl.B, i64 r.1.pl.C, i64 r.1.pl.D, .sl true 6 r.1.kids.length ((eSol true).f r.1.kids)]) (lk [(1000, ⟨true, 0, [i64 r.2.1, bl r.2.2]⟩)]))) (t1 : Bool) (t3 : List Pl) (t9 : Bool) (t10 : Bool) (b6_0 : Bool) (b6_1 : Int) (b6_2 : Int) (b6_3 : Int) (b6_4 : Int) (b6_5 : List Sol) (b8_0 : Bool) (b8_1 : Int) (b8_2 : Int) (b8_3 : Int) (b8_4 : Int) (b1000_0 : Int) (b1000_1 : Bool) (r : (Sol × (Int × Bool))) (h : Dspec_l11Take_5 n self1 t1 t3 t9 t10 b6_0 b6_1 b6_2 b6_3 b6_4 b6_5 b8_0 b8_1 b8_2 b8_3 b8_4 b1000_0 b1000_1 = some r) : Wk Try.prog H Y 126 [.code (cp [1, 1, 1, 1, 0, 0, 1, 1, 0] (bodyOf Try.f126)), .code (cp [1, 1, 1, 1, 0, 0, 1, 1, 1] (bodyOf Try.f126)), .blk 0, .code (cp [1, 1, 1, 1, 1] (bodyOf Try.f126))] (FinX Try.prog Try.f126 [(1000, ⟨true, 0, [.bad, .bad]⟩)] (.agg [bl r.1.inn, i64 r.1.pl.A, i64 r.1.pl.B, i64 r.1.pl.C, i64 r.1.pl.D, .sl true 6 r.1.kids.length ((eSol true).f r.1.kids)]) [(1000, ⟨true, 0, [i64 r.2.1, bl r.2.2]⟩)]) ⟨[(0, .ptr 1000 0), (1, bl t1), (3, .sl false 4 t3.length ((ePl).f t3)), (6, .ptr 6 0), (8, .ptr 8 0), (9, bl t9), (10, bl t10)], [(6, ⟨true, 0, [bl b6_0, i64 b6_1, i64 b6_2, i64 b6_3, i64 b6_4, .sl false 6 b6_5.length ((eSol false).f b6_5)]⟩), (8, ⟨true, 0, [bl b8_0, i64 b8_1, i64 b8_2, i64 b8_3, i64 b8_4, .nil]⟩), (1000, ⟨true, 0, [i64 b1000_0, bl b1000_1]⟩)]⟩ := by
  unfold Dspec_l11Take_5 at h
  refine x_frk 3 [] onil h (by kernel_rfl) (fun h => ?_) (fun h => ?_)
  · exact x_to 5 [] onil (Tspec_l11Take_1 n self1 hself1 t1 t3 (!t9) b6_0 b6_1 b6_2 b6_3 b6_4 b6_5 b8_0 b8_1 b8_2 b8_3 b8_4 b1000_0 b1000_1 r h) (by kernel_rfl)
  · exact x_to 7 [] onil (Tspec_l11Take_4 n self1 hself1 t1 t3 b6_0 b6_1 b6_2 b6_3 b6_4 b6_5 b8_0 b8_1 b8_2 b8_3 b8_4 b1000_0 b1000_1 r h) (by kernel_rfl)
def Dspec_l11Take_b (n : Nat) (self1 : ((Int × Bool) × Bool × Sol × (List Pl)) → Option (Sol × (Int × Bool))) (a : ((Int × Bool) × Bool × Sol × (List Pl))) : Option (Sol × (Int × Bool)) :=
  match a with
  | (a0, a1, a2, a3) => (Dspec_l8Leaf a2).bind fun v0 => frk v0 ((Dspec_l11In a0.1 a1 a2.inn).bind fun v1 => (Dspec_Leaf v1).bind fun v2 => some (v2, a0)) ((Dspec_l6With n a3 a2.pl).bind fun v3 => (Dspec_l3Flip a2.pl).bind fun v4 => (Dspec_l6With n a3 v4).bind fun v5 => frk (!v3) (Dspec_l11Take_0 n self1 a1 a3 (!v3) (!v5) (!(!v5)) a2.inn a2.pl.A a2.pl.B a2.pl.C a2.pl.D a2.kids false 0 0 0 0 a0.1 a0.2) (Dspec_l11Take_5 n self1 a1 a3 (!v3) (!v5) a2.inn a2.pl.A a2.pl.B a2.pl.C a2.pl.D a2.kids false 0 0 0 0 a0.1 a0.2))
def Dspec_l11Take (n : Nat) (a0 : (Int × Bool)) (a1 : Bool) (a2 : Sol) (a3 : (List Pl)) : Option (Sol × (Int × Bool)) := loopN (Dspec_l11Take_b n) n (a0, a1, a2, a3)
theorem Tspec_l11Take_b {Y} (n : Nat) : ∀ (m : Nat) (a : ((Int × Bool) × Bool × Sol × (List Pl))) (r : (Sol × (Int × Bool))), loopN (Dspec_l11Take_b n) m a = some r → ∀ (_ : Unit), Big Try.prog H Y (.call 126 [.ptr 1000 0, bl a.2.1, .agg [bl a.2.2.1.inn, i64 a.2.2.1.pl.A, i64 a.2.2.1.pl.B, i64 a.2.2.1.pl.C, i64 a.2.2.1.pl.D, .sl false 6 a.2.2.1.kids.length ((eSol false).f a.2.2.1.kids)], .sl false 4 a.2.2.2.length ((ePl).f a.2.2.2)] (lk [(1000, ⟨true, 0, [i64 a.1.1, bl a.1.2]⟩)]) (.agg [bl r.1.inn, i64 r.1.pl.A, i64 r.1.pl.B, i64 r.1.pl.C, i64 r.1.pl.D, .sl true 6 r.1.kids.length ((eSol true).f r.1.kids)]) (lk [(1000, ⟨true, 0, [i64 r.2.1, bl r.2.2]⟩)])) := by
  refine loopN_ind (fun self1 hs a r h => ?_)
  have hself1 : ∀ (a : ((Int × Bool) × Bool × Sol × (List Pl))) (r : (Sol × (Int × Bool))), self1 a = some r → Big Try.prog H Y (.call 126 [.ptr 1000 0, bl a.2.1, .agg [bl a.2.2.1.inn, i64 a.2.2.1.pl.A, i64 a.2.2.1.pl.B, i64 a.2.2.1.pl.C, i64 a.2.2.1.pl.D, .sl false 6 a.2.2.1.kids.length ((eSol false).f a.2.2.1.kids)], .sl false 4 a.2.2.2.length ((ePl).f a.2.2.2)] (lk [(1000, ⟨true, 0, [i64 a.1.1, bl a.1.2]⟩)]) (.agg [bl r.1.inn, i64 r.1.pl.A, i64 r.1.pl.B, i64 r.1.pl.C, i64 r.1.pl.D, .sl true 6 r.1.kids.length ((eSol true).f r.1.kids)]) (lk [(1000, ⟨true, 0, [i64 r.2.1, bl r.2.2]⟩)])) := fun a r h => hs a r h ()
  intro _
  obtain ⟨a0, a1, a2, a3⟩ := a
  unfold Dspec_l11Take_b at h
  refine x_call (fn := Try.f126) (c := bodyOf Try.f126) (bs0 := [(1000, ⟨true, 0, [.bad, .bad]⟩)]) Try.func126 (by kernel_rfl) (by kernel_rfl) ?_
  obtain ⟨v0, hv0, h⟩ := bind_some h
  refine x_frk 11 [(3, .call [] [] (bl v0) [])] (ocons (Tspec_l8Leaf (Y := Y) a2 _ hv0) onil) h (by kernel_rfl) (fun h => ?_) (fun h => ?_)
  · obtain ⟨v1, hv1, h⟩ := bind_some h
    obtain ⟨v2, hv2, h⟩ := bind_some h
    replace h := Option.some.inj h; subst h
    exact x_end 13 [(7, .call [] [] (bl v1) []), (0, .call [] [] (.agg [bl v2.inn, i64 v2.pl.A, i64 v2.pl.B, i64 v2.pl.C, i64 v2.pl.D, .sl true 6 v2.kids.length ((eSol true).f v2.kids)]) [])] [] (ocons (Tspec_l11In (Y := Y) a0.1 a1 a2.inn _ hv1) (ocons (Tspec_Leaf (Y := Y) v1 _ hv2) onil)) onil (by kernel_rfl)
  · obtain ⟨v3, hv3, h⟩ := bind_some h
    obtain ⟨v4, hv4, h⟩ := bind_some h
    obtain ⟨v5, hv5, h⟩ := bind_some h
    refine x_frk 26 [(3, .call [] [] (bl v3) []), (5, .call [] [] (.agg [i64 v4.A, i64 v4.B, i64 v4.C, i64 v4.D]) []), (0, .call [] [] (bl v5) [])] (ocons (Tspec_l6With (Y := Y) n a3 a2.pl _ hv3) (ocons (Tspec_l3Flip (Y := Y) a2.pl _ hv4) (ocons (Tspec_l6With (Y := Y) n a3 v4 _ hv5) onil))) h (by kernel_rfl) (fun h => ?_) (fun h => ?_)
    · exact x_to 5 [] onil (Tspec_l11Take_0 n self1 hself1 a1 a3 (!v3) (!v5) (!(!v5)) a2.inn a2.pl.A a2.pl.B a2.pl.C a2.pl.D a2.kids false 0 0 0 0 a0.1 a0.2 r h) (by kernel_rfl)
    · exact x_to 7 [] onil (Tspec_l11Take_5 n self1 hself1 a1 a3 (!v3) (!v5) a2.inn a2.pl.A a2.pl.B a2.pl.C a2.pl.D a2.kids false 0 0 0 0 a0.1 a0.2 r h) (by kernel_rfl)
theorem Tspec_l11Take {Y} (n : Nat) (a0 : (Int × Bool)) (a1 : Bool) (a2 : Sol) (a3 : (List Pl)) (r : (Sol × (Int × Bool))) (h : Dspec_l11Take n a0 a1 a2 a3 = some r) : Big Try.prog H Y (.call 126 [.ptr 1000 0, bl a1, .agg [bl a2.inn, i64 a2.pl.A, i64 a2.pl.B, i64 a2.pl.C, i64 a2.pl.D, .sl false 6 a2.kids.length ((eSol false).f a2.kids)], .sl false 4 a3.length ((ePl).f a3)] (lk [(1000, ⟨true, 0, [i64 a0.1, bl a0.2]⟩)]) (.agg [bl r.1.inn, i64 r.1.pl.A, i64 r.1.pl.B, i64 r.1.pl.C, i64 r.1.pl.D, .sl true 6 r.1.kids.length ((eSol true).f r.1.kids)]) (lk [(1000, ⟨true, 0, [i64 r.2.1, bl r.2.2]⟩)])) := Tspec_l11Take_b n n (a0, a1, a2, a3) r h ()
/-! spec.l11Both -/
def Dspec_l11Both_b (n : Nat) (self : ((Int × Bool) × Sol × Sol × (List Pl)) → Option (Sol × (Int × Bool))) (a : ((Int × Bool) × Sol × Sol × (List Pl))) : Option (Sol × (Int × Bool)) :=
  match a with
  | (a0, a1, a2, a3) => (Dspec_l8Leaf a1).bind fun v0 => frk v0 ((Dspec_l11Take n a0 a1.inn a2 a3).bind fun v1 => some v1) ((lget a1.kids 0).bind fun v2 => (Dspec_l8Path a3 a1.pl).bind fun v3 => (self (a0, v2, a2, v3)).bind fun v4 => (lget a1.kids 1).bind fun v5 => (Dspec_l3Flip a1.pl).bind fun v6 => (Dspec_l8Path a3 v6).bind fun v7 => (self (v4.2, v5, a2, v7)).bind fun v8 => (Dspec_l11Nodeo1o2 a1.pl v4.1 v8.1).bind fun v9 => some (v9, v8.2))
def Dspec_l11Both (n : Nat) (a0 : (Int × Bool)) (a1 : Sol) (a2 : Sol) (a3 : (List Pl)) : Option (Sol × (Int × Bool)) := loopN (Dspec_l11Both_b n) n (a0, a1, a2, a3)
theorem Tspec_l11Both_b {Y} (n : Nat) : ∀ (m : Nat) (a : ((Int × Bool) × Sol × Sol × (List Pl))) (r : (Sol × (Int × Bool))), loopN (Dspec_l11Both_b n) m a = some r → ∀ (_ : Unit), Big Try.prog H Y (.call 87 [.ptr 1000 0, .agg [bl a.2.1.inn, i64 a.2.1.pl.A, i64 a.2.1.pl.B, i64 a.2.1.pl.C, i64 a.2.1.pl.D, .sl false 6 a.2.1.kids.length ((eSol false).f a.2.1.kids)], .agg [bl a.2.2.1.inn, i64 a.2.2.1.pl.A, i64 a.2.2.1.pl.B, i64 a.2.2.1.pl.C, i64 a.2.2.1.pl.D, .sl false 6 a.2.2.1.kids.length ((eSol false).f a.2.2.1.kids)], .sl false 4 a.2.2.2.length ((ePl).f a.2.2.2)] (lk [(1000, ⟨true, 0, [i64 a.1.1, bl a.1.2]⟩)]) (.agg [bl r.1.inn, i64 r.1.pl.A, i64 r.1.pl.B, i64 r.1.pl.C, i64 r.1.pl.D, .sl true 6 r.1.kids.length ((eSol true).f r.1.kids)]) (lk [(1000, ⟨true, 0, [i64 r.2.1, bl r.2.2]⟩)])) := by
  refine loopN_ind (fun self hs a r h => ?_)
  have hself : ∀ (a : ((Int × Bool) × Sol × Sol × (List Pl))) (r : (Sol × (Int × Bool))), self a = some r → Big Try.prog H Y (.call 87 [.ptr 1000 0, .agg [bl a.2.1.inn, i64 a.2.1.pl.A, i64 a.2.1.pl.B, i64 a.2.1.pl.C, i64 a.2.1.pl.D, .sl false 6 a.2.1.kids.length ((eSol false).f a.2.1.kids)], .agg [bl a.2.2.1.inn, i64 a.2.2.1.pl.A, i64 a.2.2.1.pl.B, i64 a.2.2.1.pl.C, i64 a.2.2.1.pl.D, .sl false 6 a.2.2.1.kids.length ((eSol false).f a.2.2.1.kids)], .sl false 4 a.2.2.2.length ((ePl).f a.2.2.2)] (lk [(1000, ⟨true, 0, [i64 a.1.1, bl a.1.2]⟩)]) (.agg [bl r.1.inn, i64 r.1.pl.A, i64 r.1.pl.B, i64 r.1.pl.C, i64 r.1.pl.D, .sl true 6 r.1.kids.length ((eSol true).f r.1.kids)]) (lk [(1000, ⟨true, 0, [i64 r.2.1, bl r.2.2]⟩)])) := fun a r h => hs a r h ()
  intro _
  obtain ⟨a0, a1, a2, a3⟩ := a
  unfold Dspec_l11Both_b at h
  refine x_call (fn := Try.f87) (c := bodyOf Try.f87) (bs0 := [(1000, ⟨true, 0, [.bad, .bad]⟩)]) Try.func87 (by kernel_rfl) (by kernel_rfl) ?_
  obtain ⟨v0, hv0, h⟩ := bind_some h
  refine x_frk 12 [(4, .call [] [] (bl v0) [])] (ocons (Tspec_l8Leaf (Y := Y) a1 _ hv0) onil) h (by kernel_rfl) (fun h => ?_) (fun h => ?_)
  · obtain ⟨v1, hv1, h⟩ := bind_some h
    replace h := Option.some.inj h; subst h
    exact x_end 10 [(5, .call [] [] (.agg [bl v1.1.inn, i64 v1.1.pl.A, i64 v1.1.pl.B, i64 v1.1.pl.C, i64 v1.1.pl.D, .sl true 6 v1.1.kids.length ((eSol true).f v1.1.kids)]) [(1000, ⟨true, 0, [i64 v1.2.1, bl v1.2.2]⟩)])] [] (ocons (Tspec_l11Take (Y := Y) n a0 a1.inn a2 a3 _ hv1) onil) onil (by kernel_rfl)
  · obtain ⟨v2, hv2, h⟩ := bind_some h
    obtain ⟨v3, hv3, h⟩ := bind_some h
    obtain ⟨v4, hv4, h⟩ := bind_some h
    obtain ⟨v5, hv5, h⟩ := bind_some h
    obtain ⟨v6, hv6, h⟩ := bind_some h
    obtain ⟨v7, hv7, h⟩ := bind_some h
    obtain ⟨v8, hv8, h⟩ := bind_some h
    obtain ⟨v9, hv9, h⟩ := bind_some h
    replace h := Option.some.inj h; subst h
    exact x_end 37 [(3, .val (.cptr ((eSol false).c v2 ++ (eSol false).f ((a1.kids).drop (Int.toNat 0 + 1))))), (5, .call [] [] (.sl false 4 v3.length ((ePl).f v3)) []), (0, .call [] [] (.agg [bl v4.1.inn, i64 v4.1.pl.A, i64 v4.1.pl.B, i64 v4.1.pl.C, i64 v4.1.pl.D, .sl true 6 v4.1.kids.length ((eSol true).f v4.1.kids)]) [(1000, ⟨true, 0, [i64 v4.2.1, bl v4.2.2]⟩)]), (8, .val (.cptr ((eSol false).c v5 ++ (eSol false).f ((a1.kids).drop (Int.toNat 1 + 1))))), (5, .call [] [] (.agg [i64 v6.A, i64 v6.B, i64 v6.C, i64 v6.D]) []), (0, .call [] [] (.sl false 4 v7.length ((ePl).f v7)) []), (0, .call [] [] (.agg [bl v8.1.inn, i64 v8.1.pl.A, i64 v8.1.pl.B, i64 v8.1.pl.C, i64 v8.1.pl.D, .sl true 6 v8.1.kids.length ((eSol true).f v8.1.kids)]) [(1000, ⟨true, 0, [i64 v8.2.1, bl v8.2.2]⟩)]), (0, .call [] [] (.agg [bl v9.inn, i64 v9.pl.A, i64 v9.pl.B, i64 v9.pl.C, i64 v9.pl.D, .sl true 6 v9.kids.length ((eSol true).f v9.kids)]) [])] [] (ocons (ix (eSol false) hv2) (ocons (shSl (L := v3) ePl ePl sPl (Tspec_l8Path (Y := Y) a3 a1.pl _ hv3)) (ocons (hself (a0, v2, a2, v3) _ hv4) (ocons (ix (eSol false) hv5) (ocons (Tspec_l3Flip (Y := Y) a1.pl _ hv6) (ocons (shSl (L := v7) ePl ePl sPl (Tspec_l8Path (Y := Y) a3 v6 _ hv7)) (ocons (hself (v4.2, v5, a2, v7) _ hv8) (ocons (Tspec_l11Nodeo1o2 (Y := Y) a1.pl v4.1 v8.1 _ hv9) onil)))))))) onil (by kernel_rfl)
theorem Tspec_l11Both {Y} (n : Nat) (a0 : (Int × Bool)) (a1 : Sol) (a2 : Sol) (a3 : (List Pl)) (r : (Sol × (Int × Bool))) (h : Dspec_l11Both n a0 a1 a2 a3 = some r) : Big Try.prog H Y (.call 87 [.ptr 1000 0, .agg [bl a1.inn, i64 a1.pl.A, i64 a1.pl.B, i64 a1.pl.C, i64 a1.pl.D, .sl false 6 a1.kids.length ((eSol false).f a1.kids)], .agg [bl a2.inn, i64 a2.pl.A, i64 a2.pl.B, i64 a2.pl.C, i64 a2.pl.D, .sl false 6 a2.kids.length ((eSol false).f a2.kids)], .sl false 4 a3.length ((ePl).f a3)] (lk [(1000, ⟨true, 0, [i64 a0.1, bl a0.2]⟩)]) (.agg [bl r.1.inn, i64 r.1.pl.A, i64 r.1.pl.B, i64 r.1.pl.C, i64 r.1.pl.D, .sl true 6 r.1.kids.length ((eSol true).f r.1.kids)]) (lk [(1000, ⟨true, 0, [i64 r.2.1, bl r.2.2]⟩)])) := Tspec_l11Both_b n n (a0, a1, a2, a3) r h ()
/-! spec.Put -/
def Dspec_Put_0 (_n : Nat) (_b6_0 : Bool) (_b6_1 : Int) (_b6_2 : Int) (_b6_3 : Int) (_b6_4 : Int) : Option (Sol × Bool) :=
  (Dspec_Leaf false).bind fun v1 => some (v1, false)
theorem Tspec_Put_0 {Y} (n : Nat) (b6_0 : Bool) (b6_1 : Int) (b6_2 : Int) (b6_3 : Int) (b6_4 : Int) (r : (Sol × Bool)) (h : Dspec_Put_0 n b6_0 b6_1 b6_2 b6_3 b6_4 = some r) : Wk Try.prog H Y 39 [.code (cp [1, 0, 1, 0, 0] (bodyOf Try.f39)), .code (cp [1, 0, 1, 0, 1] (bodyOf Try.f39)), .code (cp [1, 1] (bodyOf Try.f39))] (FinX Try.prog Try.f39 [] (.tup [.agg [bl r.1.inn, i64 r.1.pl.A, i64 r.1.pl.B, i64 r.1.pl.C, i64 r.1.pl.D, .sl true 6 r.1.kids.length ((eSol true).f r.1.kids)], bl r.2]) []) ⟨[(6, .ptr 6 0)], [(6, ⟨true, 0, [bl b6_0, i64 b6_1, i64 b6_2, i64 b6_3, i64 b6_4, .nil]⟩)]⟩ := by
  unfold Dspec_Put_0 at h
  obtain ⟨v1, hv1, h⟩ := bind_some h
  replace h := Option.some.inj h; subst h
  exact x_end 5 [(0, .call [] [] (.agg [bl v1.inn, i64 v1.pl.A, i64 v1.pl.B, i64 v1.pl.C, i64 v1.pl.D, .sl true 6 v1.kids.length ((eSol true).f v1.kids)]) [])] [] (ocons (Tspec_Leaf (Y := Y) false _ hv1) onil) onil (by kernel_rfl)
def Dspec_Put_2 (_n : Nat) (_b6_0 : Bool) (_b6_1 : Int) (_b6_2 : Int) (_b6_3 : Int) (_b6_4 : Int) : Option (Sol × Bool) :=
  (Dspec_Leaf false).bind fun v6 => some (v6, false)
theorem Tspec_Put_2 {Y} (n : Nat) (b6_0 : Bool) (b6_1 : Int) (b6_2 : Int) (b6_3 : Int) (b6_4 : Int) (r : (Sol × Bool)) (h : Dspec_Put_2 n b6_0 b6_1 b6_2 b6_3 b6_4 = some r) : Wk Try.prog H Y 39 [.code (cp [1, 1, 1, 1, 0, 1, 0, 0] (bodyOf Try.f39)), .code (cp [1, 1, 1, 1, 0, 1, 0, 1] (bodyOf Try.f39)), .code (cp [1, 1, 1, 1, 1] (bodyOf Try.f39))] (FinX Try.prog Try.f39 [] (.tup [.agg [bl r.1.inn, i64 r.1.pl.A, i64 r.1.pl.B, i64 r.1.pl.C, i64 r.1.pl.D, .sl true 6 r.1.kids.length ((eSol true).f r.1.kids)], bl r.2]) []) ⟨[(6, .ptr 6 0)], [(6, ⟨true, 0, [bl b6_0, i64 b6_1, i64 b6_2, i64 b6_3, i64 b6_4, .nil]⟩)]⟩ := by
  unfold Dspec_Put_2 at h
  obtain ⟨v6, hv6, h⟩ := bind_some h
  replace h := Option.some.inj h; subst h
  exact x_end 5 [(0, .call [] [] (.agg [bl v6.inn, i64 v6.pl.A, i64 v6.pl.B, i64 v6.pl.C, i64 v6.pl.D, .sl true 6 v6.kids.length ((eSol true).f v6.kids)]) [])] [] (ocons (Tspec_Leaf (Y := Y) false _ hv6) onil) onil (by kernel_rfl)
def Dspec_Put_3 (_n : Nat) (t40 : Bool) (_b6_0 : Bool) (_b6_1 : Int) (_b6_2 : Int) (_b6_3 : Int) (_b6_4 : Int) (b9_0 : Bool) (b9_1 : Int) (b9_2 : Int) (b9_3 : Int) (b9_4 : Int) (b9_5 : List Sol) : Option (Sol × Bool) :=
  frk t40 ((Dspec_Leaf false).bind fun v8 => some (v8, false)) (some ((Sol.mk b9_0 (Pl.mk b9_1 b9_2 b9_3 b9_4) b9_5), true))
theorem Tspec_Put_3 {Y} (n : Nat) (t40 : Bool) (b6_0 : Bool) (b6_1 : Int) (b6_2 : Int) (b6_3 : Int) (b6_4 : Int) (b9_0 : Bool) (b9_1 : Int) (b9_2 : Int) (b9_3 : Int) (b9_4 : Int) (b9_5 : List Sol) (r : (Sol × Bool)) (h : Dspec_Put_3 n t40 b6_0 b6_1 b6_2 b6_3 b6_4 b9_0 b9_1 b9_2 b9_3 b9_4 b9_5 = some r) : Wk Try.prog H Y 39 [.code (cp [1, 1, 1, 1, 0, 1] (bodyOf Try.f39)), .code (cp [1, 1, 1, 1, 1] (bodyOf Try.f39))] (FinX Try.prog Try.f39 [] (.tup [.agg [bl r.1.inn, i64 r.1.pl.A, i64 r.1.pl.B, i64 r.1.pl.C, i64 r.1.pl.D, .sl true 6 r.1.kids.length ((eSol true).f r.1.kids)], bl r.2]) []) ⟨[(6, .ptr 6 0), (9, .ptr 9 0), (40, bl t40)], [(6, ⟨true, 0, [bl b6_0, i64 b6_1, i64 b6_2, i64 b6_3, i64 b6_4, .nil]⟩), (9, ⟨true, 0, [bl b9_0, i64 b9_1, i64 b9_2, i64 b9_3, i64 b9_4, .sl true 6 b9_5.length ((eSol true).f b9_5)]⟩)]⟩ := by
  unfold Dspec_Put_3 at h
  refine x_frk 0 [] onil h (by kernel_rfl) (fun h => ?_) (fun h => ?_)
  · obtain ⟨v8, hv8, h⟩ := bind_some h
    replace h := Option.some.inj h; subst h
    exact x_end 6 [(0, .call [] [] (.agg [bl v8.inn, i64 v8.pl.A, i64 v8.pl.B, i64 v8.pl.C, i64 v8.pl.D, .sl true 6 v8.kids.length ((eSol true).f v8.kids)]) [])] [] (ocons (Tspec_Leaf (Y := Y) false _ hv8) onil) onil (by kernel_rfl)
  · replace h := Option.some.inj h; subst h
    exact x_end 7 [] [] onil onil (by kernel_rfl)
def Dspec_Put_1 (n : Nat) (t2 : Int) (t22 : Bool) (b3_0 : Bool) (b3_1 : Int) (b3_2 : Int) (b3_3 : Int) (b3_4 : Int) (b3_5 : List Sol) (b4_0 : Bool) (b4_1 : Int) (b4_2 : Int) (b4_3 : Int) (b4_4 : Int) (b4_5 : List Sol) (b6_0 : Bool) (b6_1 : Int) (b6_2 : Int) (b6_3 : Int) (b6_4 : Int) : Option (Sol × Bool) :=
  frk t22 ((Dspec_Leaf false).bind fun v4 => some (v4, false)) ((Dspec_l11Both n (t2, false) (Sol.mk b3_0 (Pl.mk b3_1 b3_2 b3_3 b3_4) b3_5) (Sol.mk b4_0 (Pl.mk b4_1 b4_2 b4_3 b4_4) b4_5) []).bind fun v5 => frk v5.2.2 (Dspec_Put_2 n b6_0 b6_1 b6_2 b6_3 b6_4) ((Dspec_l8Count n v5.1 301).bind fun v7 => Dspec_Put_3 n (decide (v7 > 300)) b6_0 b6_1 b6_2 b6_3 b6_4 v5.1.inn v5.1.pl.A v5.1.pl.B v5.1.pl.C v5.1.pl.D v5.1.kids))
theorem Tspec_Put_1 {Y} (n : Nat) (t2 : Int) (t22 : Bool) (b3_0 : Bool) (b3_1 : Int) (b3_2 : Int) (b3_3 : Int) (b3_4 : Int) (b3_5 : List Sol) (b4_0 : Bool) (b4_1 : Int) (b4_2 : Int) (b4_3 : Int) (b4_4 : Int) (b4_5 : List Sol) (b6_0 : Bool) (b6_1 : Int) (b6_2 : Int) (b6_3 : Int) (b6_4 : Int) (r : (Sol × Bool)) (h : Dspec_Put_1 n t2 t22 b3_0 b3_1 b3_2 b3_3 b3_4 b3_5 b4_0 b4_1 b4_2 b4_3 b4_4 b4_5 b6_0 b6_1 b6_2 b6_3 b6_4 = some r) : Wk Try.prog H Y 39 [.code (cp [1, 0, 1] (bodyOf Try.f39)), .code (cp [1, 1] (bodyOf Try.f39))] (FinX Try.prog Try.f39 [] (.tup [.agg [bl r.1.inn, i64 r.1.pl.A, i64 r.1.pl.B, i64 r.1.pl.C, i64 r.1.pl.D, .sl true 6 r.1.kids.length ((eSol true).f r.1.kids)], bl r.2]) []) ⟨[(2, i64 t2), (3, .ptr 3 0), (4, .ptr 4 0), (6, .ptr 6 0), (22, bl t22)], [(3, ⟨true, 0, [bl b3_0, i64 b3_1, i64 b3_2, i64 b3_3, i64 b3_4, .sl false 6 b3_5.length ((eSol false).f b3_5)]⟩), (4, ⟨true, 0, [bl b4_0, i64 b4_1, i64 b4_2, i64 b4_3, i64 b4_4, .sl false 6 b4_5.length ((eSol false).f b4_5)]⟩), (6, ⟨true, 0, [bl b6_0, i64 b6_1, i64 b6_2, i64 b6_3, i64 b6_4, .nil]⟩)]⟩ := by
  unfold Dspec_Put_1 at h
  refine x_frk 0 [] onil h (by kernel_rfl) (fun h => ?_) (fun h => ?_)
  · obtain ⟨v4, hv4, h⟩ := bind_some h
    replace h := Option.some.inj h; subst h
    exact x_end 6 [(0, .call [] [] (.agg [bl v4.inn, i64 v4.pl.A, i64 v4.pl.B, i64 v4.pl.C, i64 v4.pl.D, .sl true 6 v4.kids.length ((eSol true).f v4.kids)]) [])] [] (ocons (Tspec_Leaf (Y := Y) false _ hv4) onil) onil (by kernel_rfl)
  · obtain ⟨v5, hv5, h⟩ := bind_some h
    refine x_frk 26 [(8, .call [] [(ePl).f []] (.agg [bl v5.1.inn, i64 v5.1.pl.A, i64 v5.1.pl.B, i64 v5.1.pl.C, i64 v5.1.pl.D, .sl true 6 v5.1.kids.length ((eSol true).f v5.1.kids)]) [(1000, ⟨true, 0, [i64 v5.2.1, bl v5.2.2]⟩)])] (ocons (Tspec_l11Both (Y := Y) n (t2, false) (Sol.mk b3_0 (Pl.mk b3_1 b3_2 b3_3 b3_4) b3_5) (Sol.mk b4_0 (Pl.mk b4_1 b4_2 b4_3 b4_4) b4_5) [] _ hv5) (ocons (len_row (L := []) ePl) (ocons (Enc.share ePl ePl sPl []) (ocons (show hasSh (.agg [bl v5.1.inn, i64 v5.1.pl.A, i64 v5.1.pl.B, i64 v5.1.pl.C, i64 v5.1.pl.D, .sl true 6 v5.1.kids.length ((eSol true).f v5.1.kids)]) = false by simp [hasSh, hasShL, nSh]) onil)))) h (by kernel_rfl) (fun h => ?_) (fun h => ?_)
    · exact x_to 7 [] onil (Tspec_Put_2 n b6_0 b6_1 b6_2 b6_3 b6_4 r h) (by kernel_rfl)
    · obtain ⟨v7, hv7, h⟩ := bind_some h
      exact x_to 5 [(0, .rows [(eSol false).f v5.1.kids]), (0, .call [] [] (i64 v7) [])] (ocons (Enc.share (eSol true) (eSol false) (sSol true) v5.1.kids) (ocons (Tspec_l8Count (Y := Y) n v5.1 301 _ hv7) onil)) (Tspec_Put_3 n (decide (v7 > 300)) b6_0 b6_1 b6_2 b6_3 b6_4 v5.1.inn v5.1.pl.A v5.1.pl.B v5.1.pl.C v5.1.pl.D v5.1.kids r h) (by kernel_rfl)
def Dspec_Put (n : Nat) (a0 : Sol) (a1 : Sol) (a2 : Int) : Option (Sol × Bool) :=
  (Dspec_SolidOk n a0).bind fun v0 => frk (!v0) (Dspec_Put_0 n false 0 0 0 0) ((Dspec_SolidOk n a1).bind fun v2 => frk (!v2) (Dspec_Put_0 n false 0 0 0 0) ((Dspec_l1In a2 1 4).bind fun v3 => Dspec_Put_1 n a2 (!v3) a0.inn a0.pl.A a0.pl.B a0.pl.C a0.pl.D a0.kids a1.inn a1.pl.A a1.pl.B a1.pl.C a1.pl.D a1.kids false 0 0 0 0))
theorem Tspec_Put {Y} (n : Nat) (a0 : Sol) (a1 : Sol) (a2 : Int) (r : (Sol × Bool)) (h : Dspec_Put n a0 a1 a2 = some r) : Big Try.prog H Y (.call 39 [.agg [bl a0.inn, i64 a0.pl.A, i64 a0.pl.B, i64 a0.pl.C, i64 a0.pl.D, .sl false 6 a0.kids.length ((eSol false).f a0.kids)], .agg [bl a1.inn, i64 a1.pl.A, i64 a1.pl.B, i64 a1.pl.C, i64 a1.pl.D, .sl false 6 a1.kids.length ((eSol false).f a1.kids)], i64 a2] (lk []) (.tup [.agg [bl r.1.inn, i64 r.1.pl.A, i64 r.1.pl.B, i64 r.1.pl.C, i64 r.1.pl.D, .sl true 6 r.1.kids.length ((eSol true).f r.1.kids)], bl r.2]) (lk [])) := by
  unfold Dspec_Put at h
  refine x_call (fn := Try.f39) (c := bodyOf Try.f39) (bs0 := []) Try.func39 (by kernel_rfl) (by kernel_rfl) ?_
  obtain ⟨v0, hv0, h⟩ := bind_some h
  refine x_frk 14 [(5, .call [] [] (bl v0) [])] (ocons (Tspec_SolidOk (Y := Y) n a0 _ hv0) onil) h (by kernel_rfl) (fun h => ?_) (fun h => ?_)
  · exact x_to 12 [] onil (Tspec_Put_0 n false 0 0 0 0 r h) (by kernel_rfl)
  · obtain ⟨v2, hv2, h⟩ := bind_some h
    refine x_frk 5 [(1, .call [] [] (bl v2) [])] (ocons (Tspec_SolidOk (Y := Y) n a1 _ hv2) onil) h (by kernel_rfl) (fun h => ?_) (fun h => ?_)
    · exact x_to 7 [] onil (Tspec_Put_0 n false 0 0 0 0 r h) (by kernel_rfl)
    · obtain ⟨v3, hv3, h⟩ := bind_some h
      exact x_to 5 [(1, .call [] [] (bl v3) [])] (ocons (Tspec_l1In (Y := Y) a2 1 4 _ hv3) onil) (Tspec_Put_1 n a2 (!v3) a0.inn a0.pl.A a0.pl.B a0.pl.C a0.pl.D a0.kids a1.inn a1.pl.A a1.pl.B a1.pl.C a1.pl.D a1.kids false 0 0 0 0 r h) (by kernel_rfl)
/-! spec.l13Has -/
def Dspec_l13Has_b (_n : Nat) (self : (Sol × Bool) → Option Bool) (a : (Sol × Bool)) : Option Bool :=
  match a with
  | (a0, a1) => (Dspec_l8Leaf a0).bind fun v0 => frk v0 (some (a0.inn == a1)) ((lget a0.kids 0).bind fun v1 => (self (v1, a1)).bind fun v2 => frk v2 (some true) ((lget a0.kids 1).bind fun v3 => (self (v3, a1)).bind fun v4 => some v4))
def Dspec_l13Has (n : Nat) (a0 : Sol) (a1 : Bool) : Option Bool := loopN (Dspec_l13Has_b n) n (a0, a1)
theorem Tspec_l13Has_b {Y} (n : Nat) : ∀ (m : Nat) (a : (Sol × Bool)) (r : Bool), loopN (Dspec_l13Has_b n) m a = some r → ∀ (_ : Unit), Big Try.prog H Y (.call 118 [.agg [bl a.1.inn, i64 a.1.pl.A, i64 a.1.pl.B, i64 a.1.pl.C, i64 a.1.pl.D, .sl false 6 a.1.kids.length ((eSol false).f a.1.kids)], bl a.2] (lk []) (bl r) (lk [])) := by
  refine loopN_ind (fun self hs a r h => ?_)
  have hself : ∀ (a : (Sol × Bool)) (r : Bool), self a = some r → Big Try.prog H Y (.call 118 [.agg [bl a.1.inn, i64 a.1.pl.A, i64 a.1.pl.B, i64 a.1.pl.C, i64 a.1.pl.D, .sl false 6 a.1.kids.length ((eSol false).f a.1.kids)], bl a.2] (lk []) (bl r) (lk [])) := fun a r h => hs a r h ()
  intro _
  obtain ⟨a0, a1⟩ := a
  unfold Dspec_l13Has_b at h
  refine x_call (fn := Try.f118) (c := bodyOf Try.f118) (bs0 := []) Try.func118 (by kernel_rfl) (by kernel_rfl) ?_
  obtain ⟨v0, hv0, h⟩ := bind_some h
  refine x_frk 11 [(3, .call [] [] (bl v0) [])] (ocons (Tspec_l8Leaf (Y := Y) a0 _ hv0) onil) h (by kernel_rfl) (fun h => ?_) (fun h => ?_)
  · replace h := Option.some.inj h; subst h
    exact x_end 8 [] [] onil onil (by kernel_rfl)
  · obtain ⟨v1, hv1, h⟩ := bind_some h
    obtain ⟨v2, hv2, h⟩ := bind_some h
    refine x_frk 10 [(2, .val (.cptr ((eSol false).c v1 ++ (eSol false).f ((a0.kids).drop (Int.toNat 0 + 1))))), (2, .call [] [] (bl v2) [])] (ocons (ix (eSol false) hv1) (ocons (hself (v1, a1) _ hv2) onil)) h (by kernel_rfl) (fun h => ?_) (fun h => ?_)
    · replace h := Option.some.inj h; subst h
      exact x_end 9 [] [] onil onil (by kernel_rfl)
    · obtain ⟨v3, hv3, h⟩ := bind_some h
      obtain ⟨v4, hv4, h⟩ := bind_some h
      replace h := Option.some.inj h; subst h
      exact x_end 9 [(2, .val (.cptr ((eSol false).c v3 ++ (eSol false).f ((a0.kids).drop (Int.toNat 1 + 1))))), (2, .call [] [] (bl v4) [])] [] (ocons (ix (eSol false) hv3) (ocons (hself (v3, a1) _ hv4) onil)) onil (by kernel_rfl)
theorem Tspec_l13Has {Y} (n : Nat) (a0 : Sol) (a1 : Bool) (r : Bool) (h : Dspec_l13Has n a0 a1 = some r) : Big Try.prog H Y (.call 118 [.agg [bl a0.inn, i64 a0.pl.A, i64 a0.pl.B, i64 a0.pl.C, i64 a0.pl.D, .sl false 6 a0.kids.length ((eSol false).f a0.kids)], bl a1] (lk []) (bl r) (lk [])) := Tspec_l13Has_b n n (a0, a1) r h ()
/-! spec.l13Empty -/
def Dspec_l13Empty (n : Nat) (a0 : Sol) (a1 : Sol) (a2 : Int) : Option Bool :=
  (Dspec_Put n a0 a1 a2).bind fun v0 => frk v0.2 ((Dspec_l13Has n v0.1 true).bind fun v1 => some (!v1)) (some false)
theorem Tspec_l13Empty {Y} (n : Nat) (a0 : Sol) (a1 : Sol) (a2 : Int) (r : Bool) (h : Dspec_l13Empty n a0 a1 a2 = some r) : Big Try.prog H Y (.call 81 [.agg [bl a0.inn, i64 a0.pl.A, i64 a0.pl.B, i64 a0.pl.C, i64 a0.pl.D, .sl false 6 a0.kids.length ((eSol false).f a0.kids)], .agg [bl a1.inn, i64 a1.pl.A, i64 a1.pl.B, i64 a1.pl.C, i64 a1.pl.D, .sl false 6 a1.kids.length ((eSol false).f a1.kids)], i64 a2] (lk []) (bl r) (lk [])) := by
  unfold Dspec_l13Empty at h
  refine x_call (fn := Try.f81) (c := bodyOf Try.f81) (bs0 := []) Try.func81 (by kernel_rfl) (by kernel_rfl) ?_
  obtain ⟨v0, hv0, h⟩ := bind_some h
  refine x_frk 23 [(6, .call [] [] (.tup [.agg [bl v0.1.inn, i64 v0.1.pl.A, i64 v0.1.pl.B, i64 v0.1.pl.C, i64 v0.1.pl.D, .sl true 6 v0.1.kids.length ((eSol true).f v0.1.kids)], bl v0.2]) [])] (ocons (Tspec_Put (Y := Y) n a0 a1 a2 _ hv0) onil) h (by kernel_rfl) (fun h => ?_) (fun h => ?_)
  · obtain ⟨v1, hv1, h⟩ := bind_some h
    replace h := Option.some.inj h; subst h
    exact x_end 6 [(0, .rows [(eSol false).f v0.1.kids]), (0, .call [] [] (bl v1) [])] [] (ocons (Enc.share (eSol true) (eSol false) (sSol true) v0.1.kids) (ocons (Tspec_l13Has (Y := Y) n v0.1 true _ hv1) onil)) onil (by kernel_rfl)
  · replace h := Option.some.inj h; subst h
    exact x_end 6 [] [] onil onil (by kernel_rfl)
/-! spec.Apart -/
def Dspec_Apart (n : Nat) (a0 : Sol) (a1 : Sol) : Option Bool :=
  (Dspec_l13Empty n a0 a1 1).bind fun v0 => some v0
theorem Tspec_Apart {Y} (n : Nat) (a0 : Sol) (a1 : Sol) (r : Bool) (h : Dspec_Apart n a0 a1 = some r) : Big Try.prog H Y (.call 29 [.agg [bl a0.inn, i64 a0.pl.A, i64 a0.pl.B, i64 a0.pl.C, i64 a0.pl.D, .sl false 6 a0.kids.length ((eSol false).f a0.kids)], .agg [bl a1.inn, i64 a1.pl.A, i64 a1.pl.B, i64 a1.pl.C, i64 a1.pl.D, .sl false 6 a1.kids.length ((eSol false).f a1.kids)]] (lk []) (bl r) (lk [])) := by
  unfold Dspec_Apart at h
  refine x_call (fn := Try.f29) (c := bodyOf Try.f29) (bs0 := []) Try.func29 (by kernel_rfl) (by kernel_rfl) ?_
  obtain ⟨v0, hv0, h⟩ := bind_some h
  replace h := Option.some.inj h; subst h
  exact x_end 13 [(5, .call [] [] (bl v0) [])] [] (ocons (Tspec_l13Empty (Y := Y) n a0 a1 1 _ hv0) onil) onil (by kernel_rfl)
/-! impl.isOp -/
def Dimpl_isOp (a0 : Int) : Option Bool :=
  (Dimpl_inRange a0 1 4).bind fun v0 => some v0
theorem Timpl_isOp {Y} (a0 : Int) (r : Bool) (h : Dimpl_isOp a0 = some r) : Big Try.prog H Y (.call 89 [i64 a0] (lk []) (bl r) (lk [])) := by
  unfold Dimpl_isOp at h
  refine x_call (fn := Try.f89) (c := bodyOf Try.f89) (bs0 := []) Try.func89 (by kernel_rfl) (by kernel_rfl) ?_
  obtain ⟨v0, hv0, h⟩ := bind_some h
  replace h := Option.some.inj h; subst h
  exact x_end 10 [(2, .call [] [] (bl v0) [])] [] (ocons (Timpl_inRange (Y := Y) a0 1 4 _ hv0) onil) onil (by kernel_rfl)
/-! impl.Leaf -/
def Dimpl_Leaf (a0 : Bool) : Option Sol :=
  some (Sol.mk a0 (Pl.mk 0 0 0 0) [])
theorem Timpl_Leaf {Y} (a0 : Bool) (r : Sol) (h : Dimpl_Leaf a0 = some r) : Big Try.prog H Y (.call 55 [bl a0] (lk []) (.agg [bl r.inn, i64 r.pl.A, i64 r.pl.B, i64 r.pl.C, i64 r.pl.D, .sl true 6 r.kids.length ((eSol true).f r.kids)]) (lk [])) := by
  unfold Dimpl_Leaf at h
  refine x_call (fn := Try.f55) (c := bodyOf Try.f55) (bs0 := []) Try.func55 (by kernel_rfl) (by kernel_rfl) ?_
  replace h := Option.some.inj h; subst h
  exact x_end 10 [] [(true, 6)] onil onil (by kernel_rfl)
/-! impl.merger).leaf -/
def Dimpl_merger_leaf (a0 : (Int × Int × Bool)) (a1 : Bool) (a2 : Bool) : Option (Sol × (Int × Int × Bool)) :=
  frk (a0.1 == 1) (frk a1 ((Dimpl_Leaf a2).bind fun v0 => some (v0, a0)) ((Dimpl_Leaf false).bind fun v1 => some (v1, a0))) (frk (a0.1 == 2) (frk a1 ((Dimpl_Leaf true).bind fun v2 => some (v2, a0)) ((Dimpl_Leaf a2).bind fun v3 => some (v3, a0))) (frk (a0.1 == 3) (frk a1 ((Dimpl_Leaf (!a2)).bind fun v4 => some (v4, a0)) ((Dimpl_Leaf false).bind fun v5 => some (v5, a0))) ((Dimpl_Leaf (!(a1 == a2))).bind fun v6 => some (v6, a0))))
theorem Timpl_merger_leaf {Y} (a0 : (Int × Int × Bool)) (a1 : Bool) (a2 : Bool) (r : (Sol × (Int × Int × Bool))) (h : Dimpl_merger_leaf a0 a1 a2 = some r) : Big Try.prog H Y (.call 162 [.ptr 1000 0, bl a1, bl a2] (lk [(1000, ⟨true, 0, [i64 a0.1, i64 a0.2.1, bl a0.2.2]⟩)]) (.agg [bl r.1.inn, i64 r.1.pl.A, i64 r.1.pl.B, i64 r.1.pl.C, i64 r.1.pl.D, .sl true 6 r.1.kids.length ((eSol true).f r.1.kids)]) (lk [(1000, ⟨true, 0, [i64 r.2.1, i64 r.2.2.1, bl r.2.2.2]⟩)])) := by
  unfold Dimpl_merger_leaf at h
  refine x_call (fn := Try.f162) (c := bodyOf Try.f162) (bs0 := [(1000, ⟨true, 0, [.bad, .bad, .bad]⟩)]) Try.func162 (by kernel_rfl) (by kernel_rfl) ?_
  refine x_frk 18 [] onil h (by kernel_rfl) (fun h => ?_) (fun h => ?_)
  · refine x_frk 4 [] onil h (by kernel_rfl) (fun h => ?_) (fun h => ?_)
    · obtain ⟨v0, hv0, h⟩ := bind_some h
      replace h := Option.some.inj h; subst h
      exact x_end 5 [(2, .call [] [] (.agg [bl v0.inn, i64 v0.pl.A, i64 v0.pl.B, i64 v0.pl.C, i64 v0.pl.D, .sl true 6 v0.kids.length ((eSol true).f v0.kids)]) [])] [] (ocons (Timpl_Leaf (Y := Y) a2 _ hv0) onil) onil (by kernel_rfl)
    · obtain ⟨v1, hv1, h⟩ := bind_some h
      replace h := Option.some.inj h; subst h
      exact x_end 5 [(2, .call [] [] (.agg [bl v1.inn, i64 v1.pl.A, i64 v1.pl.B, i64 v1.pl.C, i64 v1.pl.D, .sl true 6 v1.kids.length ((eSol true).f v1.kids)]) [])] [] (ocons (Timpl_Leaf (Y := Y) false _ hv1) onil) onil (by kernel_rfl)
  · refine x_frk 5 [] onil h (by kernel_rfl) (fun h => ?_) (fun h => ?_)
    · refine x_frk 4 [] onil h (by kernel_rfl) (fun h => ?_) (fun h => ?_)
      · obtain ⟨v2, hv2, h⟩ := bind_some h
        replace h := Option.some.inj h; subst h
        exact x_end 5 [(2, .call [] [] (.agg [bl v2.inn, i64 v2.pl.A, i64 v2.pl.B, i64 v2.pl.C, i64 v2.pl.D, .sl true 6 v2.kids.length ((eSol true).f v2.kids)]) [])] [] (ocons (Timpl_Leaf (Y := Y) true _ hv2) onil) onil (by kernel_rfl)
      · obtain ⟨v3, hv3, h⟩ := bind_some h
        replace h := Option.some.inj h; subst h
        exact x_end 5 [(2, .call [] [] (.agg [bl v3.inn, i64 v3.pl.A, i64 v3.pl.B, i64 v3.pl.C, i64 v3.pl.D, .sl true 6 v3.kids.length ((eSol true).f v3.kids)]) [])] [] (ocons (Timpl_Leaf (Y := Y) a2 _ hv3) onil) onil (by kernel_rfl)
    · refine x_frk 5 [] onil h (by kernel_rfl) (fun h => ?_) (fun h => ?_)
      · refine x_frk 4 [] onil h (by kernel_rfl) (fun h => ?_) (fun h => ?_)
        · obtain ⟨v4, hv4, h⟩ := bind_some h
          replace h := Option.some.inj h; subst h
          exact x_end 6 [(3, .call [] [] (.agg [bl v4.inn, i64 v4.pl.A, i64 v4.pl.B, i64 v4.pl.C, i64 v4.pl.D, .sl true 6 v4.kids.length ((eSol true).f v4.kids)]) [])] [] (ocons (Timpl_Leaf (Y := Y) (!a2) _ hv4) onil) onil (by kernel_rfl)
        · obtain ⟨v5, hv5, h⟩ := bind_some h
          replace h := Option.some.inj h; subst h
          exact x_end 6 [(3, .call [] [] (.agg [bl v5.inn, i64 v5.pl.A, i64 v5.pl.B, i64 v5.pl.C, i64 v5.pl.D, .sl true 6 v5.kids.length ((eSol true).f v5.kids)]) [])] [] (ocons (Timpl_Leaf (Y := Y) false _ hv5) onil) onil (by kernel_rfl)
      · obtain ⟨v6, hv6, h⟩ := bind_some h
        replace h := Option.some.inj h; subst h
        exact x_end 10 [(3, .call [] [] (.agg [bl v6.inn, i64 v6.pl.A, i64 v6.pl.B, i64 v6.pl.C, i64 v6.pl.D, .sl true 6 v6.kids.length ((eSol true).f v6.kids)]) [])] [] (ocons (Timpl_Leaf (Y := Y) (!(a1 == a2)) _ hv6) onil) onil (by kernel_rfl)
/-! impl.node -/
def Dimpl_nodeo1o2 (a0 : Pl) (a1 : Sol) (a2 : Sol) : Option Sol :=
  some (Sol.mk false a0 [a1, a2])
theorem Timpl_nodeo1o2 {Y} (a0 : Pl) (a1 : Sol) (a2 : Sol) (r : Sol) (h : Dimpl_nodeo1o2 a0 a1 a2 = some r) : Big Try.prog H Y (.call 107 [.agg [i64 a0.A, i64 a0.B, i64 a0.C, i64 a0.D], .agg [bl a1.inn, i64 a1.pl.A, i64 a1.pl.B, i64 a1.pl.C, i64 a1.pl.D, .sl true 6 a1.kids.length ((eSol true).f a1.kids)], .agg [bl a2.inn, i64 a2.pl.A, i64 a2.pl.B, i64 a2.pl.C, i64 a2.pl.D, .sl true 6 a2.kids.length ((eSol true).f a2.kids)]] (lk []) (.agg [bl r.inn, i64 r.pl.A, i64 r.pl.B, i64 r.pl.C, i64 r.pl.D, .sl true 6 r.kids.length ((eSol true).f r.kids)]) (lk [])) := by
  unfold Dimpl_nodeo1o2 at h
  refine x_call (fn := Try.f107) (c := bodyOf Try.f107) (bs0 := []) Try.func107 (by kernel_rfl) (by kernel_rfl) ?_
  replace h := Option.some.inj h; subst h
  exact x_end 17 [(8, .fixb 10 ⟨true, 6, (eSol true).f [a1, a2]⟩)] [] (ocons (boxSol true true [a1, a2]) onil) (ocons (len_row (L := [a1, a2]) (eSol true)) onil) (by kernel_rfl)
/-! impl.merger).join -/
def Dimpl_merger_joino2o3_1 (b5_0 : Int) (b5_1 : Int) (b5_2 : Int) (b5_3 : Int) (b6_0 : Bool) (b6_1 : Int) (b6_2 : Int) (b6_3 : Int) (b6_4 : Int) (b6_5 : List Sol) (b7_0 : Bool) (b7_1 : Int) (b7_2 : Int) (b7_3 : Int) (b7_4 : Int) (b7_5 : List Sol) (_b8_0 : Bool) (_b8_1 : Int) (_b8_2 : Int) (_b8_3 : Int) (_b8_4 : Int) (b1000_0 : Int) (b1000_1 : Int) (b1000_2 : Bool) : Option (Sol × (Int × Int × Bool)) :=
  (Dimpl_nodeo1o2 (Pl.mk b5_0 b5_1 b5_2 b5_3) (Sol.mk b6_0 (Pl.mk b6_1 b6_2 b6_3 b6_4) b6_5) (Sol.mk b7_0 (Pl.mk b7_1 b7_2 b7_3 b7_4) b7_5)).bind fun v3 => some (v3, (b1000_0, b1000_1, b1000_2))
theorem Timpl_merger_joino2o3_1 {Y} (b5_0 : Int) (b5_1 : Int) (b5_2 : Int) (b5_3 : Int) (b6_0 : Bool) (b6_1 : Int) (b6_2 : Int) (b6_3 : Int) (b6_4 : Int) (b6_5 : List Sol) (b7_0 : Bool) (b7_1 : Int) (b7_2 : Int) (b7_3 : Int) (b7_4 : Int) (b7_5 : List Sol) (b8_0 : Bool) (b8_1 : Int) (b8_2 : Int) (b8_3 : Int) (b8_4 : Int) (b1000_0 : Int) (b1000_1 : Int) (b1000_2 : Bool) (r : (Sol × (Int × Int × Bool))) (h : Dimpl_merger_joino2o3_1 b5_0 b5_1 b5_2 b5_3 b6_0 b6_1 b6_2 b6_3 b6_4 b6_5 b7_0 b7_1 b7_2 b7_3 b7_4 b7_5 b8_0 b8_1 b8_2 b8_3 b8_4 b1000_0 b1000_1 b1000_2 = some r) : Wk Try.prog H Y 150 [.code (cp [1, 1, 1, 1, 0] (bodyOf Try.f150)), .code (cp [1, 1, 1, 1, 1] (bodyOf Try.f150))] (FinX Try.prog Try.f150 [(1000, ⟨true, 0, [.bad, .bad, .bad]⟩)] (.agg [bl r.1.inn, i64 r.1.pl.A, i64 r.1.pl.B, i64 r.1.pl.C, i64 r.1.pl.D, .sl true 6 r.1.kids.length ((eSol true).f r.1.kids)]) [(1000, ⟨true, 0, [i64 r.2.1, i64 r.2.2.1, bl r.2.2.2]⟩)]) ⟨[(5, .ptr 5 0), (6, .ptr 6 0), (7, .ptr 7 0), (8, .ptr 8 0)], [(5, ⟨true, 0, [i64 b5_0, i64 b5_1, i64 b5_2, i64 b5_3]⟩), (6, ⟨true, 0, [bl b6_0, i64 b6_1, i64 b6_2, i64 b6_3, i64 b6_4, .sl true 6 b6_5.length ((eSol true).f b6_5)]⟩), (7, ⟨true, 0, [bl b7_0, i64 b7_1, i64 b7_2, i64 b7_3, i64 b7_4, .sl true 6 b7_5.length ((eSol true).f b7_5)]⟩), (8, ⟨true, 0, [bl b8_0, i64 b8_1, i64 b8_2, i64 b8_3, i64 b8_4, .nil]⟩), (1000, ⟨true, 0, [i64 b1000_0, i64 b1000_1, bl b1000_2]⟩)]⟩ := by
  unfold Dimpl_merger_joino2o3_1 at h
  obtain ⟨v3, hv3, h⟩ := bind_some h
  replace h := Option.some.inj h; subst h
  exact x_end 7 [(3, .call [] [] (.agg [bl v3.inn, i64 v3.pl.A, i64 v3.pl.B, i64 v3.pl.C, i64 v3.pl.D, .sl true 6 v3.kids.length ((eSol true).f v3.kids)]) [])] [] (ocons (Timpl_nodeo1o2 (Y := Y) (Pl.mk b5_0 b5_1 b5_2 b5_3) (Sol.mk b6_0 (Pl.mk b6_1 b6_2 b6_3 b6_4) b6_5) (Sol.mk b7_0 (Pl.mk b7_1 b7_2 b7_3 b7_4) b7_5) _ hv3) onil) onil (by kernel_rfl)
def Dimpl_merger_joino2o3_0 (t19 : Bool) (b5_0 : Int) (b5_1 : Int) (b5_2 : Int) (b5_3 : Int) (b6_0 : Bool) (b6_1 : Int) (b6_2 : Int) (b6_3 : Int) (b6_4 : Int) (b6_5 : List Sol) (b7_0 : Bool) (b7_1 : Int) (b7_2 : Int) (b7_3 : Int) (b7_4 : Int) (b7_5 : List Sol) (b8_0 : Bool) (b8_1 : Int) (b8_2 : Int) (b8_3 : Int) (b8_4 : Int) (b1000_0 : Int) (b1000_1 : Int) (b1000_2 : Bool) : Option (Sol × (Int × Int × Bool)) :=
  frk t19 ((Dimpl_Leaf b6_0).bind fun v2 => some (v2, (b1000_0, b1000_1, b1000_2))) (frk b1000_2 (Dimpl_merger_joino2o3_1 b5_0 b5_1 b5_2 b5_3 b6_0 b6_1 b6_2 b6_3 b6_4 b6_5 b7_0 b7_1 b7_2 b7_3 b7_4 b7_5 b8_0 b8_1 b8_2 b8_3 b8_4 b1000_0 (w64 (b1000_1 + 1)) true) (Dimpl_merger_joino2o3_1 b5_0 b5_1 b5_2 b5_3 b6_0 b6_1 b6_2 b6_3 b6_4 b6_5 b7_0 b7_1 b7_2 b7_3 b7_4 b7_5 b8_0 b8_1 b8_2 b8_3 b8_4 b1000_0 (w64 (b1000_1 + 1)) (decide ((w64 (b1000_1 + 1)) > 300))))
theorem Timpl_merger_joino2o3_0 {Y} (t19 : Bool) (b5_0 : Int) (b5_1 : Int) (b5_2 : Int) (b5_3 : Int) (b6_0 : Bool) (b6_1 : Int) (b6_2 : Int) (b6_3 : Int) (b6_4 : Int) (b6_5 : List Sol) (b7_0 : Bool) (b7_1 : Int) (b7_2 : Int) (b7_3 : Int) (b7_4 : Int) (b7_5 : List Sol) (b8_0 : Bool) (b8_1 : Int) (b8_2 : Int) (b8_3 : Int) (b8_4 : Int) (b1000_0 : Int) (b1000_1 : Int) (b1000_2 : Bool) (r : (Sol × (Int × Int × Bool))) (h : Dimpl_merger_joino2o3_0 t19 b5_0 b5_1 b5_2 b5_3 b6_0 b6_1 b6_2 b6_3 b6_4 b6_5 b7_0 b7_1 b7_2 b7_3 b7_4 b7_5 b8_0 b8_1 b8_2 b8_3 b8_4 b1000_0 b1000_1 b1000_2 = some r) : Wk Try.prog H Y 150 [.code (cp [1, 0, 1] (bodyOf Try.f150)), .code (cp [1, 1] (bodyOf Try.f150))] (FinX Try.prog Try.f150 [(1000, ⟨true, 0, [.bad, .bad, .bad]⟩)] (.agg [bl r.1.inn, i64 r.1.pl.A, i64 r.1.pl.B, i64 r.1.pl.C, i64 r.1.pl.D, .sl true 6 r.1.kids.length ((eSol true).f r.1.kids)]) [(1000, ⟨true, 0, [i64 r.2.1, i64 r.2.2.1, bl r.2.2.2]⟩)]) ⟨[(0, .ptr 1000 0), (5, .ptr 5 0), (6, .ptr 6 0), (7, .ptr 7 0), (8, .ptr 8 0), (19, bl t19)], [(5, ⟨true, 0, [i64 b5_0, i64 b5_1, i64 b5_2, i64 b5_3]⟩), (6, ⟨true, 0, [bl b6_0, i64 b6_1, i64 b6_2, i64 b6_3, i64 b6_4, .sl true 6 b6_5.length ((eSol true).f b6_5)]⟩), (7, ⟨true, 0, [bl b7_0, i64 b7_1, i64 b7_2, i64 b7_3, i64 b7_4, .sl true 6 b7_5.length ((eSol true).f b7_5)]⟩), (8, ⟨true, 0, [bl b8_0, i64 b8_1, i64 b8_2, i64 b8_3, i64 b8_4, .nil]⟩), (1000, ⟨true, 0, [i64 b1000_0, i64 b1000_1, bl b1000_2]⟩)]⟩ := by
  unfold Dimpl_merger_joino2o3_0 at h
  refine x_frk 0 [] onil h (by kernel_rfl) (fun h => ?_) (fun h => ?_)
  · obtain ⟨v2, hv2, h⟩ := bind_some h
    replace h := Option.some.inj h; subst h
    exact x_end 7 [(2, .call [] [] (.agg [bl v2.inn, i64 v2.pl.A, i64 v2.pl.B, i64 v2.pl.C, i64 v2.pl.D, .sl true 6 v2.kids.length ((eSol true).f v2.kids)]) [])] [] (ocons (Timpl_Leaf (Y := Y) b6_0 _ hv2) onil) onil (by kernel_rfl)
  · refine x_frk 20 [] onil h (by kernel_rfl) (fun h => ?_) (fun h => ?_)
    · exact x_to 11 [] onil (Timpl_merger_joino2o3_1 b5_0 b5_1 b5_2 b5_3 b6_0 b6_1 b6_2 b6_3 b6_4 b6_5 b7_0 b7_1 b7_2 b7_3 b7_4 b7_5 b8_0 b8_1 b8_2 b8_3 b8_4 b1000_0 (w64 (b1000_1 + 1)) true r h) (by kernel_rfl)
    · exact x_to 11 [] onil (Timpl_merger_joino2o3_1 b5_0 b5_1 b5_2 b5_3 b6_0 b6_1 b6_2 b6_3 b6_4 b6_5 b7_0 b7_1 b7_2 b7_3 b7_4 b7_5 b8_0 b8_1 b8_2 b8_3 b8_4 b1000_0 (w64 (b1000_1 + 1)) (decide ((w64 (b1000_1 + 1)) > 300)) r h) (by kernel_rfl)
def Dimpl_merger_joino2o3_2 (b5_0 : Int) (b5_1 : Int) (b5_2 : Int) (b5_3 : Int) (b6_0 : Bool) (b6_1 : Int) (b6_2 : Int) (b6_3 : Int) (b6_4 : Int) (b6_5 : List Sol) (b7_0 : Bool) (b7_1 : Int) (b7_2 : Int) (b7_3 : Int) (b7_4 : Int) (b7_5 : List Sol) (b8_0 : Bool) (b8_1 : Int) (b8_2 : Int) (b8_3 : Int) (b8_4 : Int) (b1000_0 : Int) (b1000_1 : Int) (b1000_2 : Bool) : Option (Sol × (Int × Int × Bool)) :=
  frk b1000_2 (Dimpl_merger_joino2o3_1 b5_0 b5_1 b5_2 b5_3 b6_0 b6_1 b6_2 b6_3 b6_4 b6_5 b7_0 b7_1 b7_2 b7_3 b7_4 b7_5 b8_0 b8_1 b8_2 b8_3 b8_4 b1000_0 b1000_1 true) (Dimpl_merger_joino2o3_1 b5_0 b5_1 b5_2 b5_3 b6_0 b6_1 b6_2 b6_3 b6_4 b6_5 b7_0 b7_1 b7_2 b7_3 b7_4 b7_5 b8_0 b8_1 b8_2 b8_3 b8_4 b1000_0 b1000_1 (decide (b1000_1 > 300)))
theorem Timpl_merger_joino2o3_2 {Y} (b5_0 : Int) (b5_1 : Int) (b5_2 : Int) (b5_3 : Int) (b6_0 : Bool) (b6_1 : Int) (b6_2 : Int) (b6_3 : Int) (b6_4 : Int) (b6_5 : List Sol) (b7_0 : Bool) (b7_1 : Int) (b7_2 : Int) (b7_3 : Int) (b7_4 : Int) (b7_5 : List Sol) (b8_0 : Bool) (b8_1 : Int) (b8_2 : Int) (b8_3 : Int) (b8_4 : Int) (b1000_0 : Int) (b1000_1 : Int) (b1000_2 : Bool) (r : (Sol × (Int × Int × Bool))) (h : Dimpl_merger_joino2o3_2 b5_0 b5_1 b5_2 b5_3 b6_0 b6_1 b6_2 b6_3 b6_4 b6_5 b7_0 b7_1 b7_2 b7_3 b7_4 b7_5 b8_0 b8_1 b8_2 b8_3 b8_4 b1000_0 b1000_1 b1000_2 = some r) : Wk Try.prog H Y 150 [.code (cp [1, 1, 1, 0] (bodyOf Try.f150)), .code (cp [1, 1, 1, 1] (bodyOf Try.f150))] (FinX Try.prog Try.f150 [(1000, ⟨true, 0, [.bad, .bad, .bad]⟩)] (.agg [bl r.1.inn, i64 r.1.pl.A, i64 r.1.pl.B, i64 r.1.pl.C, i64 r.1.pl.D, .sl true 6 r.1.kids.length ((eSol true).f r.1.kids)]) [(1000, ⟨true, 0, [i64 r.2.1, i64 r.2.2.1, bl r.2.2.2]⟩)]) ⟨[(0, .ptr 1000 0), (5, .ptr 5 0), (6, .ptr 6 0), (7, .ptr 7 0), (8, .ptr 8 0)], [(5, ⟨true, 0, [i64 b5_0, i64 b5_1, i64 b5_2, i64 b5_3]⟩), (6, ⟨true, 0, [bl b6_0, i64 b6_1, i64 b6_2, i64 b6_3, i64 b6_4, .sl true 6 b6_5.length ((eSol true).f b6_5)]⟩), (7, ⟨true, 0, [bl b7_0, i64 b7_1, i64 b7_2, i64 b7_3, i64 b7_4, .sl true 6 b7_5.length ((eSol true).f b7_5)]⟩), (8, ⟨true, 0, [bl b8_0, i64 b8_1, i64 b8_2, i64 b8_3, i64 b8_4, .nil]⟩), (1000, ⟨true, 0, [i64 b1000_0, i64 b1000_1, bl b1000_2]⟩)]⟩ := by
  unfold Dimpl_merger_joino2o3_2 at h
  refine x_frk 7 [] onil h (by kernel_rfl) (fun h => ?_) (fun h => ?_)
  · exact x_to 11 [] onil (Timpl_merger_joino2o3_1 b5_0 b5_1 b5_2 b5_3 b6_0 b6_1 b6_2 b6_3 b6_4 b6_5 b7_0 b7_1 b7_2 b7_3 b7_4 b7_5 b8_0 b8_1 b8_2 b8_3 b8_4 b1000_0 b1000_1 true r h) (by kernel_rfl)
  · exact x_to 11 [] onil (Timpl_merger_joino2o3_1 b5_0 b5_1 b5_2 b5_3 b6_0 b6_1 b6_2 b6_3 b6_4 b6_5 b7_0 b7_1 b7_2 b7_3 b7_4 b7_5 b8_0 b8_1 b8_2 b8_3 b8_4 b1000_0 b1000_1 (decide (b1000_1 > 300)) r h) (by kernel_rfl)
def Dimpl_merger_joino2o3 (a0 : (Int × Int × Bool)) (a1 : Pl) (a2 : Sol) (a3 : Sol) : Option (Sol × (Int × Int × Bool)) :=
  (Dimpl_Solid_isLeaf a2).bind fun v0 => frk v0 ((Dimpl_Solid_isLeaf a3).bind fun v1 => frk v1 (Dimpl_merger_joino2o3_0 (a2.inn == a3.inn) a1.A a1.B a1.C a1.D a2.inn a2.pl.A a2.pl.B a2.pl.C a2.pl.D a2.kids a3.inn a3.pl.A a3.pl.B a3.pl.C a3.pl.D a3.kids false 0 0 0 0 a0.1 a0.2.1 a0.2.2) (Dimpl_merger_joino2o3_2 a1.A a1.B a1.C a1.D a2.inn a2.pl.A a2.pl.B a2.pl.C a2.pl.D a2.kids a3.inn a3.pl.A a3.pl.B a3.pl.C a3.pl.D a3.kids false 0 0 0 0 a0.1 (w64 (a0.2.1 + 1)) a0.2.2)) (Dimpl_merger_joino2o3_2 a1.A a1.B a1.C a1.D a2.inn a2.pl.A a2.pl.B a2.pl.C a2.pl.D a2.kids a3.inn a3.pl.A a3.pl.B a3.pl.C a3.pl.D a3.kids false 0 0 0 0 a0.1 (w64 (a0.2.1 + 1)) a0.2.2)
theorem Timpl_merger_joino2o3 {Y} (a0 : (Int × Int × Bool)) (a1 : Pl) (a2 : Sol) (a3 : Sol) (r : (Sol × (Int × Int × Bool))) (h : Dimpl_merger_joino2o3 a0 a1 a2 a3 = some r) : Big Try.prog H Y (.call 150 [.ptr 1000 0, .agg [i64 a1.A, i64 a1.B, i64 a1.C, i64 a1.D], .agg [bl a2.inn, i64 a2.pl.A, i64 a2.pl.B, i64 a2.pl.C, i64 a2.pl.D, .sl true 6 a2.kids.length ((eSol true).f a2.kids)], .agg [bl a3.inn, i64 a3.pl.A, i64 a3.pl.B, i64 a3.pl.C, i64 a3.pl.D, .sl true 6 a3.kids.length ((eSol true).f a3.kids)]] (lk [(1000, ⟨true, 0, [i64 a0.1, i64 a0.2.1, bl a0.2.2]⟩)]) (.agg [bl r.1.inn, i64 r.1.pl.A, i64 r.1.pl.B, i64 r.1.pl.C, i64 r.1.pl.D, .sl true 6 r.1.kids.length ((eSol true).f r.1.kids)]) (lk [(1000, ⟨true, 0, [i64 r.2.1, i64 r.2.2.1, bl r.2.2.2]⟩)])) := by
  unfold Dimpl_merger_joino2o3 at h
  refine x_call (fn := Try.f150) (c := bodyOf Try.f150) (bs0 := [(1000, ⟨true, 0, [.bad, .bad, .bad]⟩)]) Try.func150 (by kernel_rfl) (by kernel_rfl) ?_
  obtain ⟨v0, hv0, h⟩ := bind_some h
  refine x_frk 12 [(4, .call [] [(eSol false).f a2.kids] (bl v0) [])] (ocons (Timpl_Solid_isLeaf (Y := Y) a2 [] _ hv0) (ocons (Enc.share (eSol true) (eSol false) (sSol true) a2.kids) onil)) h (by kernel_rfl) (fun h => ?_) (fun h => ?_)
  · obtain ⟨v1, hv1, h⟩ := bind_some h
    refine x_frk 3 [(0, .call [] [(eSol false).f a3.kids] (bl v1) [])] (ocons (Timpl_Solid_isLeaf (Y := Y) a3 [] _ hv1) (ocons (Enc.share (eSol true) (eSol false) (sSol true) a3.kids) onil)) h (by kernel_rfl) (fun h => ?_) (fun h => ?_)
    · exact x_to 7 [] onil (Timpl_merger_joino2o3_0 (a2.inn == a3.inn) a1.A a1.B a1.C a1.D a2.inn a2.pl.A a2.pl.B a2.pl.C a2.pl.D a2.kids a3.inn a3.pl.A a3.pl.B a3.pl.C a3.pl.D a3.kids false 0 0 0 0 a0.1 a0.2.1 a0.2.2 r h) (by kernel_rfl)
    · exact x_to 21 [] onil (Timpl_merger_joino2o3_2 a1.A a1.B a1.C a1.D a2.inn a2.pl.A a2.pl.B a2.pl.C a2.pl.D a2.kids a3.inn a3.pl.A a3.pl.B a3.pl.C a3.pl.D a3.kids false 0 0 0 0 a0.1 (w64 (a0.2.1 + 1)) a0.2.2 r h) (by kernel_rfl)
  · exact x_to 24 [] onil (Timpl_merger_joino2o3_2 a1.A a1.B a1.C a1.D a2.inn a2.pl.A a2.pl.B a2.pl.C a2.pl.D a2.kids a3.inn a3.pl.A a3.pl.B a3.pl.C a3.pl.D a3.kids false 0 0 0 0 a0.1 (w64 (a0.2.1 + 1)) a0.2.2 r h) (by kernel_rfl)
/-! impl.merger).take -/
def Dimpl_merger_take_b (n : Nat) (self1 : ((Int × Int × Bool) × Bool × Sol × (List Pl)) → Option (Sol × (Int × Int × Bool))) (a : ((Int × Int × Bool) × Bool × Sol × (List Pl))) : Option (Sol × (Int × Int × Bool)) :=
  match a with
  | (a0, a1, a2, a3) => frk a0.2.2 (some ((Sol.mk false (Pl.mk 0 0 0 0) []), a0)) ((Dimpl_Solid_isLeaf a2).bind fun v0 => frk v0 ((Dimpl_merger_leaf a0 a1 a2.inn).bind fun v1 => some v1) ((Dimpl_flip a2.pl).bind fun v2 => (Dimpl_room n a3 v2).bind fun v3 => frk (!v3) ((lget a2.kids 0).bind fun v4 => (self1 (a0, a1, v4, a3)).bind fun v5 => some v5) ((Dimpl_room n a3 a2.pl).bind fun v6 => frk (!v6) ((lget a2.kids 1).bind fun v7 => (self1 (a0, a1, v7, a3)).bind fun v8 => some v8) (frk (decide ((a3.length : Int) ≥ 24)) (some ((Sol.mk false (Pl.mk 0 0 0 0) []), (a0.1, a0.2.1, true))) ((lget a2.kids 0).bind fun v9 => (Dimpl_with a3 a2.pl).bind fun v10 => (self1 (a0, a1, v9, v10)).bind fun v11 => (lget a2.kids 1).bind fun v12 => (Dimpl_with a3 v2).bind fun v13 => (self1 (v11.2, a1, v12, v13)).bind fun v14 => (Dimpl_merger_joino2o3 v14.2 a2.pl v11.1 v14.1).bind fun v15 => some v15)))))
def Dimpl_merger_take (n : Nat) (a0 : (Int × Int × Bool)) (a1 : Bool) (a2 : Sol) (a3 : (List Pl)) : Option (Sol × (Int × Int × Bool)) := loopN (Dimpl_merger_take_b n) n (a0, a1, a2, a3)
theorem Timpl_merger_take_b {Y} (n : Nat) : ∀ (m : Nat) (a : ((Int × Int × Bool) × Bool × Sol × (List Pl))) (r : (Sol × (Int × Int × Bool))), loopN (Dimpl_merger_take_b n) m a = some r → ∀ (_ : Unit), Big Try.prog H Y (.call 149 [.ptr 1000 0, bl a.2.1, .agg [bl a.2.2.1.inn, i64 a.2.2.1.pl.A, i64 a.2.2.1.pl.B, i64 a.2.2.1.pl.C, i64 a.2.2.1.pl.D, .sl false 6 a.2.2.1.kids.length ((eSol false).f a.2.2.1.kids)], .sl false 4 a.2.2.2.length ((ePl).f a.2.2.2)] (lk [(1000, ⟨true, 0, [i64 a.1.1, i64 a.1.2.1, bl a.1.2.2]⟩)]) (.agg [bl r.1.inn, i64 r.1.pl.A, i64 r.1.pl.B, i64 r.1.pl.C, i64 r.1.pl.D, .sl true 6 r.1.kids.length ((eSol true).f r.1.kids)]) (lk [(1000, ⟨true, 0, [i64 r.2.1, i64 r.2.2.1, bl r.2.2.2]⟩)])) := by
  refine loopN_ind (fun self1 hs a r h => ?_)
  have hself1 : ∀ (a : ((Int × Int × Bool) × Bool × Sol × (List Pl))) (r : (Sol × (Int × Int × Bool))), self1 a = some r → Big Try.prog H Y (.call 149 [.ptr 1000 0, bl a.2.1, .agg [bl a.2.2.1.inn, i64 a.2.2.1.pl.A, i64 a.2.2.1.pl.B, i64 a.2.2.1.pl.C, i64 a.2.2.1.pl.D, .sl false 6 a.2.2.1.kids.length ((eSol false).f a.2.2.1.kids)], .sl false 4 a.2.2.2.length ((ePl).f a.2.2.2)] (lk [(1000, ⟨true, 0, [i64 a.1.1, i64 a.1.2.1, bl a.1.2.2]⟩)]) (.agg [bl r.1.inn, i64 r.1.pl.A, i64 r.1.pl.B, i64 r.1.pl.C, i64 r.1.pl.D, .sl true 6 r.1.kids.length ((eSol true).f r.1.kids)]) (lk [(1000, ⟨true, 0, [i64 r.2.1, i64 r.2.2.1, bl r.2.2.2]⟩)])) := fun a r h => hs a r h ()
  intro _
  obtain ⟨a0, a1, a2, a3⟩ := a
  unfold Dimpl_merger_take_b at h
  refine x_call (fn := Try.f149) (c := bodyOf Try.f149) (bs0 := [(1000, ⟨true, 0, [.bad, .bad, .bad]⟩)]) Try.func149 (by kernel_rfl) (by kernel_rfl) ?_
  refine x_frk 13 [] onil h (by kernel_rfl) (fun h => ?_) (fun h => ?_)
  · replace h := Option.some.inj h; subst h
    exact x_end 5 [] [(true, 6)] onil onil (by kernel_rfl)
  · obtain ⟨v0, hv0, h⟩ := bind_some h
    refine x_frk 6 [(0, .call [] [] (bl v0) [])] (ocons (Timpl_Solid_isLeaf (Y := Y) a2 [] _ hv0) onil) h (by kernel_rfl) (fun h => ?_) (fun h => ?_)
    · obtain ⟨v1, hv1, h⟩ := bind_some h
      replace h := Option.some.inj h; subst h
      exact x_end 9 [(4, .call [] [] (.agg [bl v1.1.inn, i64 v1.1.pl.A, i64 v1.1.pl.B, i64 v1.1.pl.C, i64 v1.1.pl.D, .sl true 6 v1.1.kids.length ((eSol true).f v1.1.kids)]) [(1000, ⟨true, 0, [i64 v1.2.1, i64 v1.2.2.1, bl v1.2.2.2]⟩)])] [] (ocons (Timpl_merger_leaf (Y := Y) a0 a1 a2.inn _ hv1) onil) onil (by kernel_rfl)
    · obtain ⟨v2, hv2, h⟩ := bind_some h
      obtain ⟨v3, hv3, h⟩ := bind_some h
      refine x_frk 19 [(2, .call [] [] (.agg [i64 v2.A, i64 v2.B, i64 v2.C, i64 v2.D]) []), (4, .call [] [] (bl v3) [])] (ocons (Timpl_flip (Y := Y) a2.pl _ hv2) (ocons (Timpl_room (Y := Y) n a3 v2 _ hv3) onil)) h (by kernel_rfl) (fun h => ?_) (fun h => ?_)
      · obtain ⟨v4, hv4, h⟩ := bind_some h
        obtain ⟨v5, hv5, h⟩ := bind_some h
        replace h := Option.some.inj h; subst h
        exact x_end 12 [(4, .val (.cptr ((eSol false).c v4 ++ (eSol false).f ((a2.kids).drop (Int.toNat 0 + 1))))), (2, .call [] [] (.agg [bl v5.1.inn, i64 v5.1.pl.A, i64 v5.1.pl.B, i64 v5.1.pl.C, i64 v5.1.pl.D, .sl true 6 v5.1.kids.length ((eSol true).f v5.1.kids)]) [(1000, ⟨true, 0, [i64 v5.2.1, i64 v5.2.2.1, bl v5.2.2.2]⟩)])] [] (ocons (ix (eSol false) hv4) (ocons (hself1 (a0, a1, v4, a3) _ hv5) onil)) onil (by kernel_rfl)
      · obtain ⟨v6, hv6, h⟩ := bind_some h
        refine x_frk 9 [(3, .call [] [] (bl v6) [])] (ocons (Timpl_room (Y := Y) n a3 a2.pl _ hv6) onil) h (by kernel_rfl) (fun h => ?_) (fun h => ?_)
        · obtain ⟨v7, hv7, h⟩ := bind_some h
          obtain ⟨v8, hv8, h⟩ := bind_some h
          replace h := Option.some.inj h; subst h
          exact x_end 12 [(4, .val (.cptr ((eSol false).c v7 ++ (eSol false).f ((a2.kids).drop (Int.toNat 1 + 1))))), (2, .call [] [] (.agg [bl v8.1.inn, i64 v8.1.pl.A, i64 v8.1.pl.B, i64 v8.1.pl.C, i64 v8.1.pl.D, .sl true 6 v8.1.kids.length ((eSol true).f v8.1.kids)]) [(1000, ⟨true, 0, [i64 v8.2.1, i64 v8.2.2.1, bl v8.2.2.2]⟩)])] [] (ocons (ix (eSol false) hv7) (ocons (hself1 (a0, a1, v7, a3) _ hv8) onil)) onil (by kernel_rfl)
        · refine x_frk 7 [] onil h (by kernel_rfl) (fun h => ?_) (fun h => ?_)
          · replace h := Option.some.inj h; subst h
            exact x_end 12 [] [(true, 6)] onil onil (by kernel_rfl)
          · obtain ⟨v9, hv9, h⟩ := bind_some h
            obtain ⟨v10, hv10, h⟩ := bind_some h
            obtain ⟨v11, hv11, h⟩ := bind_some h
            obtain ⟨v12, hv12, h⟩ := bind_some h
            obtain ⟨v13, hv13, h⟩ := bind_some h
            obtain ⟨v14, hv14, h⟩ := bind_some h
            obtain ⟨v15, hv15, h⟩ := bind_some h
            replace h := Option.some.inj h; subst h
            exact x_end 43 [(4, .val (.cptr ((eSol false).c v9 ++ (eSol false).f ((a2.kids).drop (Int.toNat 0 + 1))))), (4, .call [] [] (.sl false 4 v10.length ((ePl).f v10)) []), (0, .call [] [] (.agg [bl v11.1.inn, i64 v11.1.pl.A, i64 v11.1.pl.B, i64 v11.1.pl.C, i64 v11.1.pl.D, .sl true 6 v11.1.kids.length ((eSol true).f v11.1.kids)]) [(1000, ⟨true, 0, [i64 v11.2.1, i64 v11.2.2.1, bl v11.2.2.2]⟩)]), (6, .val (.cptr ((eSol false).c v12 ++ (eSol false).f ((a2.kids).drop (Int.toNat 1 + 1))))), (3, .call [] [] (.sl false 4 v13.length ((ePl).f v13)) []), (0, .call [] [] (.agg [bl v14.1.inn, i64 v14.1.pl.A, i64 v14.1.pl.B, i64 v14.1.pl.C, i64 v14.1.pl.D, .sl true 6 v14.1.kids.length ((eSol true).f v14.1.kids)]) [(1000, ⟨true, 0, [i64 v14.2.1, i64 v14.2.2.1, bl v14.2.2.2]⟩)]), (7, .call [] [] (.agg [bl v15.1.inn, i64 v15.1.pl.A, i64 v15.1.pl.B, i64 v15.1.pl.C, i64 v15.1.pl.D, .sl true 6 v15.1.kids.length ((eSol true).f v15.1.kids)]) [(1000, ⟨true, 0, [i64 v15.2.1, i64 v15.2.2.1, bl v15.2.2.2]⟩)])] [] (ocons (ix (eSol false) hv9) (ocons (shSl (L := v10) ePl ePl sPl (Timpl_with (Y := Y) a3 a2.pl _ hv10)) (ocons (hself1 (a0, a1, v9, v10) _ hv11) (ocons (ix (eSol false) hv12) (ocons (shSl (L := v13) ePl ePl sPl (Timpl_with (Y := Y) a3 v2 _ hv13)) (ocons (hself1 (v11.2, a1, v12, v13) _ hv14) (ocons (Timpl_merger_joino2o3 (Y := Y) v14.2 a2.pl v11.1 v14.1 _ hv15) onil))))))) onil (by kernel_rfl)
theorem Timpl_merger_take {Y} (n : Nat) (a0 : (Int × Int × Bool)) (a1 : Bool) (a2 : Sol) (a3 : (List Pl)) (r : (Sol × (Int × Int × Bool))) (h : Dimpl_merger_take n a0 a1 a2 a3 = some r) : Big Try.prog H Y (.call 149 [.ptr 1000 0, bl a1, .agg [bl a2.inn, i64 a2.pl.A, i64 a2.pl.B, i64 a2.pl.C, i64 a2.pl.D, .sl false 6 a2.kids.length ((eSol false).f a2.kids)], .sl false 4 a3.length ((ePl).f a3)] (lk [(1000, ⟨true, 0, [i64 a0.1, i64 a0.2.1, bl a0.2.2]⟩)]) (.agg [bl r.1.inn, i64 r.1.pl.A, i64 r.1.pl.B, i64 r.1.pl.C, i64 r.1.pl.D, .sl true 6 r.1.kids.length ((eSol true).f r.1.kids)]) (lk [(1000, ⟨true, 0, [i64 r.2.1, i64 r.2.2.1, bl r.2.2.2]⟩)])) := Timpl_merger_take_b n n (a0, a1, a2, a3) r h ()
/-! impl.merger).put -/
def Dimpl_merger_put_b (n : Nat) (self : ((Int × Int × Bool) × Sol × Sol × (List Pl)) → Option (Sol × (Int × Int × Bool))) (a : ((Int × Int × Bool) × Sol × Sol × (List Pl))) : Option (Sol × (Int × Int × Bool)) :=
  match a with
  | (a0, a1, a2, a3) => frk a0.2.2 (some ((Sol.mk false (Pl.mk 0 0 0 0) []), a0)) ((Dimpl_Solid_isLeaf a1).bind fun v0 => frk v0 ((Dimpl_merger_take n a0 a1.inn a2 a3).bind fun v1 => some v1) ((lget a1.kids 0).bind fun v2 => (Dimpl_with a3 a1.pl).bind fun v3 => (self (a0, v2, a2, v3)).bind fun v4 => (lget a1.kids 1).bind fun v5 => (Dimpl_flip a1.pl).bind fun v6 => (Dimpl_with a3 v6).bind fun v7 => (self (v4.2, v5, a2, v7)).bind fun v8 => (Dimpl_merger_joino2o3 v8.2 a1.pl v4.1 v8.1).bind fun v9 => some v9))
def Dimpl_merger_put (n : Nat) (a0 : (Int × Int × Bool)) (a1 : Sol) (a2 : Sol) (a3 : (List Pl)) : Option (Sol × (Int × Int × Bool)) := loopN (Dimpl_merger_put_b n) n (a0, a1, a2, a3)
theorem Timpl_merger_put_b {Y} (n : Nat) : ∀ (m : Nat) (a : ((Int × Int × Bool) × Sol × Sol × (List Pl))) (r : (Sol × (Int × Int × Bool))), loopN (Dimpl_merger_put_b n) m a = some r → ∀ (_ : Unit), Big Try.prog H Y (.call 130 [.ptr 1000 0, .agg [bl a.2.1.inn, i64 a.2.1.pl.A, i64 a.2.1.pl.B, i64 a.2.1.pl.C, i64 a.2.1.pl.D, .sl false 6 a.2.1.kids.length ((eSol false).f a.2.1.kids)], .agg [bl a.2.2.1.inn, i64 a.2.2.1.pl.A, i64 a.2.2.1.pl.B, i64 a.2.2.1.pl.C, i64 a.2.2.1.pl.D, .sl false 6 a.2.2.1.kids.length ((eSol false).f a.2.2.1.kids)], .sl false 4 a.2.2.2.length ((ePl).f a.2.2.2)] (lk [(1000, ⟨true, 0, [i64 a.1.1, i64 a.1.2.1, bl a.1.2.2]⟩)]) (.agg [bl r.1.inn, i64 r.1.pl.A, i64 r.1.pl.B, i64 r.1.pl.C, i64 r.1.pl.D, .sl true 6 r.1.kids.length ((eSol true).f r.1.kids)]) (lk [(1000, ⟨true, 0, [i64 r.2.1, i64 r.2.2.1, bl r.2.2.2]⟩)])) := by
  refine loopN_ind (fun self hs a r h => ?_)
  have hself : ∀ (a : ((Int × Int × Bool) × Sol × Sol × (List Pl))) (r : (Sol × (Int × Int × Bool))), self a = some r → Big Try.prog H Y (.call 130 [.ptr 1000 0, .agg [bl a.2.1.inn, i64 a.2.1.pl.A, i64 a.2.1.pl.B, i64 a.2.1.pl.C, i64 a.2.1.pl.D, .sl false 6 a.2.1.kids.length ((eSol false).f a.2.1.kids)], .agg [bl a.2.2.1.inn, i64 a.2.2.1.pl.A, i64 a.2.2.1.pl.B, i64 a.2.2.1.pl.C, i64 a.2.2.1.pl.D, .sl false 6 a.2.2.1.kids.length ((eSol false).f a.2.2.1.kids)], .sl false 4 a.2.2.2.length ((ePl).f a.2.2.2)] (lk [(1000, ⟨true, 0, [i64 a.1.1, i64 a.1.2.1, bl a.1.2.2]⟩)]) (.agg [bl r.1.inn, i64 r.1.pl.A, i64 r.1.pl.B, i64 r.1.pl.C, i64 r.1.pl.D, .sl true 6 r.1.kids.length ((eSol true).f r.1.kids)]) (lk [(1000, ⟨true, 0, [i64 r.2.1, i64 r.2.2.1, bl r.2.2.2]⟩)])) := fun a r h => hs a r h ()
  intro _
  obtain ⟨a0, a1, a2, a3⟩ := a
  unfold Dimpl_merger_put_b at h
  refine x_call (fn := Try.f130) (c := bodyOf Try.f130) (bs0 := [(1000, ⟨true, 0, [.bad, .bad, .bad]⟩)]) Try.func130 (by kernel_rfl) (by kernel_rfl) ?_
  refine x_frk 14 [] onil h (by kernel_rfl) (fun h => ?_) (fun h => ?_)
  · replace h := Option.some.inj h; subst h
    exact x_end 5 [] [(true, 6)] onil onil (by kernel_rfl)
  · obtain ⟨v0, hv0, h⟩ := bind_some h
    refine x_frk 6 [(0, .call [] [] (bl v0) [])] (ocons (Timpl_Solid_isLeaf (Y := Y) a1 [] _ hv0) onil) h (by kernel_rfl) (fun h => ?_) (fun h => ?_)
    · obtain ⟨v1, hv1, h⟩ := bind_some h
      replace h := Option.some.inj h; subst h
      exact x_end 10 [(5, .call [] [] (.agg [bl v1.1.inn, i64 v1.1.pl.A, i64 v1.1.pl.B, i64 v1.1.pl.C, i64 v1.1.pl.D, .sl true 6 v1.1.kids.length ((eSol true).f v1.1.kids)]) [(1000, ⟨true, 0, [i64 v1.2.1, i64 v1.2.2.1, bl v1.2.2.2]⟩)])] [] (ocons (Timpl_merger_take (Y := Y) n a0 a1.inn a2 a3 _ hv1) onil) onil (by kernel_rfl)
    · obtain ⟨v2, hv2, h⟩ := bind_some h
      obtain ⟨v3, hv3, h⟩ := bind_some h
      obtain ⟨v4, hv4, h⟩ := bind_some h
      obtain ⟨v5, hv5, h⟩ := bind_some h
      obtain ⟨v6, hv6, h⟩ := bind_some h
      obtain ⟨v7, hv7, h⟩ := bind_some h
      obtain ⟨v8, hv8, h⟩ := bind_some h
      obtain ⟨v9, hv9, h⟩ := bind_some h
      replace h := Option.some.inj h; subst h
      exact x_end 44 [(3, .val (.cptr ((eSol false).c v2 ++ (eSol false).f ((a1.kids).drop (Int.toNat 0 + 1))))), (5, .call [] [] (.sl false 4 v3.length ((ePl).f v3)) []), (0, .call [] [] (.agg [bl v4.1.inn, i64 v4.1.pl.A, i64 v4.1.pl.B, i64 v4.1.pl.C, i64 v4.1.pl.D, .sl true 6 v4.1.kids.length ((eSol true).f v4.1.kids)]) [(1000, ⟨true, 0, [i64 v4.2.1, i64 v4.2.2.1, bl v4.2.2.2]⟩)]), (5, .val (.cptr ((eSol false).c v5 ++ (eSol false).f ((a1.kids).drop (Int.toNat 1 + 1))))), (5, .call [] [] (.agg [i64 v6.A, i64 v6.B, i64 v6.C, i64 v6.D]) []), (0, .call [] [] (.sl false 4 v7.length ((ePl).f v7)) []), (0, .call [] [] (.agg [bl v8.1.inn, i64 v8.1.pl.A, i64 v8.1.pl.B, i64 v8.1.pl.C, i64 v8.1.pl.D, .sl true 6 v8.1.kids.length ((eSol true).f v8.1.kids)]) [(1000, ⟨true, 0, [i64 v8.2.1, i64 v8.2.2.1, bl v8.2.2.2]⟩)]), (7, .call [] [] (.agg [bl v9.1.inn, i64 v9.1.pl.A, i64 v9.1.pl.B, i64 v9.1.pl.C, i64 v9.1.pl.D, .sl true 6 v9.1.kids.length ((eSol true).f v9.1.kids)]) [(1000, ⟨true, 0, [i64 v9.2.1, i64 v9.2.2.1, bl v9.2.2.2]⟩)])] [] (ocons (ix (eSol false) hv2) (ocons (shSl (L := v3) ePl ePl sPl (Timpl_with (Y := Y) a3 a1.pl _ hv3)) (ocons (hself (a0, v2, a2, v3) _ hv4) (ocons (ix (eSol false) hv5) (ocons (Timpl_flip (Y := Y) a1.pl _ hv6) (ocons (shSl (L := v7) ePl ePl sPl (Timpl_with (Y := Y) a3 v6 _ hv7)) (ocons (hself (v4.2, v5, a2, v7) _ hv8) (ocons (Timpl_merger_joino2o3 (Y := Y) v8.2 a1.pl v4.1 v8.1 _ hv9) onil)))))))) onil (by kernel_rfl)
theorem Timpl_merger_put {Y} (n : Nat) (a0 : (Int × Int × Bool)) (a1 : Sol) (a2 : Sol) (a3 : (List Pl)) (r : (Sol × (Int × Int × Bool))) (h : Dimpl_merger_put n a0 a1 a2 a3 = some r) : Big Try.prog H Y (.call 130 [.ptr 1000 0, .agg [bl a1.inn, i64 a1.pl.A, i64 a1.pl.B, i64 a1.pl.C, i64 a1.pl.D, .sl false 6 a1.kids.length ((eSol false).f a1.kids)], .agg [bl a2.inn, i64 a2.pl.A, i64 a2.pl.B, i64 a2.pl.C, i64 a2.pl.D, .sl false 6 a2.kids.length ((eSol false).f a2.kids)], .sl false 4 a3.length ((ePl).f a3)] (lk [(1000, ⟨true, 0, [i64 a0.1, i64 a0.2.1, bl a0.2.2]⟩)]) (.agg [bl r.1.inn, i64 r.1.pl.A, i64 r.1.pl.B, i64 r.1.pl.C, i64 r.1.pl.D, .sl true 6 r.1.kids.length ((eSol true).f r.1.kids)]) (lk [(1000, ⟨true, 0, [i64 r.2.1, i64 r.2.2.1, bl r.2.2.2]⟩)])) := Timpl_merger_put_b n n (a0, a1, a2, a3) r h ()
/-! impl.put -/
def Dimpl_put (n : Nat) (a0 : Sol) (a1 : Sol) (a2 : Int) : Option (Sol × Bool) :=
  (Dimpl_merger_put n (a2, 0, false) a0 a1 []).bind fun v0 => frk v0.2.2.2 ((Dimpl_Leaf false).bind fun v1 => some (v1, false)) (some (v0.1, true))
theorem Timpl_put {Y} (n : Nat) (a0 : Sol) (a1 : Sol) (a2 : Int) (r : (Sol × Bool)) (h : Dimpl_put n a0 a1 a2 = some r) : Big Try.prog H Y (.call 90 [.agg [bl a0.inn, i64 a0.pl.A, i64 a0.pl.B, i64 a0.pl.C, i64 a0.pl.D, .sl false 6 a0.kids.length ((eSol false).f a0.kids)], .agg [bl a1.inn, i64 a1.pl.A, i64 a1.pl.B, i64 a1.pl.C, i64 a1.pl.D, .sl false 6 a1.kids.length ((eSol false).f a1.kids)], i64 a2] (lk []) (.tup [.agg [bl r.1.inn, i64 r.1.pl.A, i64 r.1.pl.B, i64 r.1.pl.C, i64 r.1.pl.D, .sl true 6 r.1.kids.length ((eSol true).f r.1.kids)], bl r.2]) (lk [])) := by
  unfold Dimpl_put at h
  refine x_call (fn := Try.f90) (c := bodyOf Try.f90) (bs0 := []) Try.func90 (by kernel_rfl) (by kernel_rfl) ?_
  obtain ⟨v0, hv0, h⟩ := bind_some h
  refine x_frk 28 [(10, .call [(false, 4)] [] (.agg [bl v0.1.inn, i64 v0.1.pl.A, i64 v0.1.pl.B, i64 v0.1.pl.C, i64 v0.1.pl.D, .sl true 6 v0.1.kids.length ((eSol true).f v0.1.kids)]) [(1000, ⟨true, 0, [i64 v0.2.1, i64 v0.2.2.1, bl v0.2.2.2]⟩)])] (ocons (Timpl_merger_put (Y := Y) n (a2, 0, false) a0 a1 [] _ hv0) onil) h (by kernel_rfl) (fun h => ?_) (fun h => ?_)
  · obtain ⟨v1, hv1, h⟩ := bind_some h
    replace h := Option.some.inj h; subst h
    exact x_end 6 [(0, .call [] [] (.agg [bl v1.inn, i64 v1.pl.A, i64 v1.pl.B, i64 v1.pl.C, i64 v1.pl.D, .sl true 6 v1.kids.length ((eSol true).f v1.kids)]) [])] [] (ocons (Timpl_Leaf (Y := Y) false _ hv1) onil) onil (by kernel_rfl)
  · replace h := Option.some.inj h; subst h
    exact x_end 7 [] [] onil onil (by kernel_rfl)
/-! impl.Put -/
def Dimpl_Put_0 (_n : Nat) (_b6_0 : Bool) (_b6_1 : Int) (_b6_2 : Int) (_b6_3 : Int) (_b6_4 : Int) : Option (Sol × Bool) :=
  (Dimpl_Leaf false).bind fun v1 => some (v1, false)
theorem Timpl_Put_0 {Y} (n : Nat) (b6_0 : Bool) (b6_1 : Int) (b6_2 : Int) (b6_3 : Int) (b6_4 : Int) (r : (Sol × Bool)) (h : Dimpl_Put_0 n b6_0 b6_1 b6_2 b6_3 b6_4 = some r) : Wk Try.prog H Y 40 [.code (cp [1, 0, 1, 0, 0] (bodyOf Try.f40)), .code (cp [1, 0, 1, 0, 1] (bodyOf Try.f40)), .code (cp [1, 1] (bodyOf Try.f40))] (FinX Try.prog Try.f40 [] (.tup [.agg [bl r.1.inn, i64 r.1.pl.A, i64 r.1.pl.B, i64 r.1.pl.C, i64 r.1.pl.D, .sl true 6 r.1.kids.length ((eSol true).f r.1.kids)], bl r.2]) []) ⟨[(6, .ptr 6 0)], [(6, ⟨true, 0, [bl b6_0, i64 b6_1, i64 b6_2, i64 b6_3, i64 b6_4, .nil]⟩)]⟩ := by
  unfold Dimpl_Put_0 at h
  obtain ⟨v1, hv1, h⟩ := bind_some h
  replace h := Option.some.inj h; subst h
  exact x_end 5 [(0, .call [] [] (.agg [bl v1.inn, i64 v1.pl.A, i64 v1.pl.B, i64 v1.pl.C, i64 v1.pl.D, .sl true 6 v1.kids.length ((eSol true).f v1.kids)]) [])] [] (ocons (Timpl_Leaf (Y := Y) false _ hv1) onil) onil (by kernel_rfl)
def Dimpl_Put_1 (n : Nat) (t2 : Int) (t20 : Bool) (b3_0 : Bool) (b3_1 : Int) (b3_2 : Int) (b3_3 : Int) (b3_4 : Int) (b3_5 : List Sol) (b4_0 : Bool) (b4_1 : Int) (b4_2 : Int) (b4_3 : Int) (b4_4 : Int) (b4_5 : List Sol) (_b6_0 : Bool) (_b6_1 : Int) (_b6_2 : Int) (_b6_3 : Int) (_b6_4 : Int) : Option (Sol × Bool) :=
  frk t20 ((Dimpl_Leaf false).bind fun v4 => some (v4, false)) ((Dimpl_put n (Sol.mk b3_0 (Pl.mk b3_1 b3_2 b3_3 b3_4) b3_5) (Sol.mk b4_0 (Pl.mk b4_1 b4_2 b4_3 b4_4) b4_5) t2).bind fun v5 => some v5)
theorem Timpl_Put_1 {Y} (n : Nat) (t2 : Int) (t20 : Bool) (b3_0 : Bool) (b3_1 : Int) (b3_2 : Int) (b3_3 : Int) (b3_4 : Int) (b3_5 : List Sol) (b4_0 : Bool) (b4_1 : Int) (b4_2 : Int) (b4_3 : Int) (b4_4 : Int) (b4_5 : List Sol) (b6_0 : Bool) (b6_1 : Int) (b6_2 : Int) (b6_3 : Int) (b6_4 : Int) (r : (Sol × Bool)) (h : Dimpl_Put_1 n t2 t20 b3_0 b3_1 b3_2 b3_3 b3_4 b3_5 b4_0 b4_1 b4_2 b4_3 b4_4 b4_5 b6_0 b6_1 b6_2 b6_3 b6_4 = some r) : Wk Try.prog H Y 40 [.code (cp [1, 0, 1] (bodyOf Try.f40)), .code (cp [1, 1] (bodyOf Try.f40))] (FinX Try.prog Try.f40 [] (.tup [.agg [bl r.1.inn, i64 r.1.pl.A, i64 r.1.pl.B, i64 r.1.pl.C, i64 r.1.pl.D, .sl true 6 r.1.kids.length ((eSol true).f r.1.kids)], bl r.2]) []) ⟨[(2, i64 t2), (3, .ptr 3 0), (4, .ptr 4 0), (6, .ptr 6 0), (20, bl t20)], [(3, ⟨true, 0, [bl b3_0, i64 b3_1, i64 b3_2, i64 b3_3, i64 b3_4, .sl false 6 b3_5.length ((eSol false).f b3_5)]⟩), (4, ⟨true, 0, [bl b4_0, i64 b4_1, i64 b4_2, i64 b4_3, i64 b4_4, .sl false 6 b4_5.length ((eSol false).f b4_5)]⟩), (6, ⟨true, 0, [bl b6_0, i64 b6_1, i64 b6_2, i64 b6_3, i64 b6_4, .nil]⟩)]⟩ := by
  unfold Dimpl_Put_1 at h
  refine x_frk 0 [] onil h (by kernel_rfl) (fun h => ?_) (fun h => ?_)
  · obtain ⟨v4, hv4, h⟩ := bind_some h
    replace h := Option.some.inj h; subst h
    exact x_end 6 [(0, .call [] [] (.agg [bl v4.inn, i64 v4.pl.A, i64 v4.pl.B, i64 v4.pl.C, i64 v4.pl.D, .sl true 6 v4.kids.length ((eSol true).f v4.kids)]) [])] [] (ocons (Timpl_Leaf (Y := Y) false _ hv4) onil) onil (by kernel_rfl)
  · obtain ⟨v5, hv5, h⟩ := bind_some h
    replace h := Option.some.inj h; subst h
    exact x_end 12 [(3, .call [] [] (.tup [.agg [bl v5.1.inn, i64 v5.1.pl.A, i64 v5.1.pl.B, i64 v5.1.pl.C, i64 v5.1.pl.D, .sl true 6 v5.1.kids.length ((eSol true).f v5.1.kids)], bl v5.2]) [])] [] (ocons (Timpl_put (Y := Y) n (Sol.mk b3_0 (Pl.mk b3_1 b3_2 b3_3 b3_4) b3_5) (Sol.mk b4_0 (Pl.mk b4_1 b4_2 b4_3 b4_4) b4_5) t2 _ hv5) onil) onil (by kernel_rfl)
def Dimpl_Put (n : Nat) (a0 : Sol) (a1 : Sol) (a2 : Int) : Option (Sol × Bool) :=
  (Dimpl_isOp a2).bind fun v0 => frk (!v0) (Dimpl_Put_0 n false 0 0 0 0) ((Dimpl_SolidOk n a0).bind fun v2 => frk (!v2) (Dimpl_Put_0 n false 0 0 0 0) ((Dimpl_SolidOk n a1).bind fun v3 => Dimpl_Put_1 n a2 (!v3) a0.inn a0.pl.A a0.pl.B a0.pl.C a0.pl.D a0.kids a1.inn a1.pl.A a1.pl.B a1.pl.C a1.pl.D a1.kids false 0 0 0 0))
theorem Timpl_Put {Y} (n : Nat) (a0 : Sol) (a1 : Sol) (a2 : Int) (r : (Sol × Bool)) (h : Dimpl_Put n a0 a1 a2 = some r) : Big Try.prog H Y (.call 40 [.agg [bl a0.inn, i64 a0.pl.A, i64 a0.pl.B, i64 a0.pl.C, i64 a0.pl.D, .sl false 6 a0.kids.length ((eSol false).f a0.kids)], .agg [bl a1.inn, i64 a1.pl.A, i64 a1.pl.B, i64 a1.pl.C, i64 a1.pl.D, .sl false 6 a1.kids.length ((eSol false).f a1.kids)], i64 a2] (lk []) (.tup [.agg [bl r.1.inn, i64 r.1.pl.A, i64 r.1.pl.B, i64 r.1.pl.C, i64 r.1.pl.D, .sl true 6 r.1.kids.length ((eSol true).f r.1.kids)], bl r.2]) (lk [])) := by
  unfold Dimpl_Put at h
  refine x_call (fn := Try.f40) (c := bodyOf Try.f40) (bs0 := []) Try.func40 (by kernel_rfl) (by kernel_rfl) ?_
  obtain ⟨v0, hv0, h⟩ := bind_some h
  refine x_frk 14 [(5, .call [] [] (bl v0) [])] (ocons (Timpl_isOp (Y := Y) a2 _ hv0) onil) h (by kernel_rfl) (fun h => ?_) (fun h => ?_)
  · exact x_to 12 [] onil (Timpl_Put_0 n false 0 0 0 0 r h) (by kernel_rfl)
  · obtain ⟨v2, hv2, h⟩ := bind_some h
    refine x_frk 5 [(1, .call [] [] (bl v2) [])] (ocons (Timpl_SolidOk (Y := Y) n a0 _ hv2) onil) h (by kernel_rfl) (fun h => ?_) (fun h => ?_)
    · exact x_to 7 [] onil (Timpl_Put_0 n false 0 0 0 0 r h) (by kernel_rfl)
    · obtain ⟨v3, hv3, h⟩ := bind_some h
      exact x_to 5 [(1, .call [] [] (bl v3) [])] (ocons (Timpl_SolidOk (Y := Y) n a1 _ hv3) onil) (Timpl_Put_1 n a2 (!v3) a0.inn a0.pl.A a0.pl.B a0.pl.C a0.pl.D a0.kids a1.inn a1.pl.A a1.pl.B a1.pl.C a1.pl.D a1.kids false 0 0 0 0 r h) (by kernel_rfl)
/-! impl.Solid).has -/
def Dimpl_Solid_has_b (_n : Nat) (self : (Sol × Bool) → Option Bool) (a : (Sol × Bool)) : Option Bool :=
  match a with
  | (a0, a1) => (Dimpl_Solid_isLeaf a0).bind fun v0 => frk v0 (some (a0.inn == a1)) ((lget a0.kids 0).bind fun v1 => (self (v1, a1)).bind fun v2 => frk v2 (some true) ((lget a0.kids 1).bind fun v3 => (self (v3, a1)).bind fun v4 => some v4))
def Dimpl_Solid_has (n : Nat) (a0 : Sol) (a1 : Bool) : Option Bool := loopN (Dimpl_Solid_has_b n) n (a0, a1)
theorem Timpl_Solid_has_b {Y} (n : Nat) : ∀ (m : Nat) (a : (Sol × Bool)) (r : Bool), loopN (Dimpl_Solid_has_b n) m a = some r → ∀ (q0 : List AV), Big Try.prog H Y (.call 119 [.cptr ([bl a.1.inn, i64 a.1.pl.A, i64 a.1.pl.B, i64 a.1.pl.C, i64 a.1.pl.D, .sl false 6 a.1.kids.length ((eSol false).f a.1.kids)] ++ q0), bl a.2] (lk []) (bl r) (lk [])) := by
  refine loopN_ind (fun self hs a r h => ?_)
  have hself : ∀ (a : (Sol × Bool)) (q0 : List AV) (r : Bool), self a = some r → Big Try.prog H Y (.call 119 [.cptr ([bl a.1.inn, i64 a.1.pl.A, i64 a.1.pl.B, i64 a.1.pl.C, i64 a.1.pl.D, .sl false 6 a.1.kids.length ((eSol false).f a.1.kids)] ++ q0), bl a.2] (lk []) (bl r) (lk [])) := fun a q0 r h => hs a r h q0
  intro q0
  obtain ⟨a0, a1⟩ := a
  unfold Dimpl_Solid_has_b at h
  refine x_call (fn := Try.f119) (c := bodyOf Try.f119) (bs0 := []) Try.func119 (by kernel_rfl) (by kernel_rfl) ?_
  obtain ⟨v0, hv0, h⟩ := bind_some h
  refine x_frk 10 [(2, .call [] [] (bl v0) [])] (ocons (Timpl_Solid_isLeaf (Y := Y) a0 q0 _ hv0) onil) h (by kernel_rfl) (fun h => ?_) (fun h => ?_)
  · replace h := Option.some.inj h; subst h
    exact x_end 10 [] [] onil onil (by kernel_rfl)
  · obtain ⟨v1, hv1, h⟩ := bind_some h
    obtain ⟨v2, hv2, h⟩ := bind_some h
    refine x_frk 11 [(4, .val (.cptr ((eSol false).c v1 ++ (eSol false).f ((a0.kids).drop (Int.toNat 0 + 1))))), (1, .call [] [] (bl v2) [])] (ocons (ix (eSol false) hv1) (ocons (hself (v1, a1) ((eSol false).f ((a0.kids).drop (Int.toNat 0 + 1))) _ hv2) onil)) h (by kernel_rfl) (fun h => ?_) (fun h => ?_)
    · replace h := Option.some.inj h; subst h
      exact x_end 10 [] [] onil onil (by kernel_rfl)
    · obtain ⟨v3, hv3, h⟩ := bind_some h
      obtain ⟨v4, hv4, h⟩ := bind_some h
      replace h := Option.some.inj h; subst h
      exact x_end 10 [(4, .val (.cptr ((eSol false).c v3 ++ (eSol false).f ((a0.kids).drop (Int.toNat 1 + 1))))), (1, .call [] [] (bl v4) [])] [] (ocons (ix (eSol false) hv3) (ocons (hself (v3, a1) ((eSol false).f ((a0.kids).drop (Int.toNat 1 + 1))) _ hv4) onil)) onil (by kernel_rfl)
theorem Timpl_Solid_has {Y} (n : Nat) (a0 : Sol) (a1 : Bool) (q0 : List AV) (r : Bool) (h : Dimpl_Solid_has n a0 a1 = some r) : Big Try.prog H Y (.call 119 [.cptr ([bl a0.inn, i64 a0.pl.A, i64 a0.pl.B, i64 a0.pl.C, i64 a0.pl.D, .sl false 6 a0.kids.length ((eSol false).f a0.kids)] ++ q0), bl a1] (lk []) (bl r) (lk [])) := Timpl_Solid_has_b n n (a0, a1) r h q0
/-! impl.isNothing -/
def Dimpl_isNothing (n : Nat) (a0 : Sol) (a1 : Sol) (a2 : Int) : Option Bool :=
  (Dimpl_Put n a0 a1 a2).bind fun v0 => frk v0.2 ((Dimpl_Solid_has n v0.1 true).bind fun v1 => some (!v1)) (some false)
theorem Timpl_isNothing {Y} (n : Nat) (a0 : Sol) (a1 : Sol) (a2 : Int) (r : Bool) (h : Dimpl_isNothing n a0 a1 a2 = some r) : Big Try.prog H Y (.call 82 [.agg [bl a0.inn, i64 a0.pl.A, i64 a0.pl.B, i64 a0.pl.C, i64 a0.pl.D, .sl false 6 a0.kids.length ((eSol false).f a0.kids)], .agg [bl a1.inn, i64 a1.pl.A, i64 a1.pl.B, i64 a1.pl.C, i64 a1.pl.D, .sl false 6 a1.kids.length ((eSol false).f a1.kids)], i64 a2] (lk []) (bl r) (lk [])) := by
  unfold Dimpl_isNothing at h
  refine x_call (fn := Try.f82) (c := bodyOf Try.f82) (bs0 := []) Try.func82 (by kernel_rfl) (by kernel_rfl) ?_
  obtain ⟨v0, hv0, h⟩ := bind_some h
  refine x_frk 23 [(6, .call [] [] (.tup [.agg [bl v0.1.inn, i64 v0.1.pl.A, i64 v0.1.pl.B, i64 v0.1.pl.C, i64 v0.1.pl.D, .sl true 6 v0.1.kids.length ((eSol true).f v0.1.kids)], bl v0.2]) [])] (ocons (Timpl_Put (Y := Y) n a0 a1 a2 _ hv0) onil) h (by kernel_rfl) (fun h => ?_) (fun h => ?_)
  · obtain ⟨v1, hv1, h⟩ := bind_some h
    replace h := Option.some.inj h; subst h
    exact x_end 5 [(0, .call [] [(eSol false).f v0.1.kids] (bl v1) [])] [] (ocons (Timpl_Solid_has (Y := Y) n v0.1 true [] _ hv1) (ocons (Enc.share (eSol true) (eSol false) (sSol true) v0.1.kids) onil)) onil (by kernel_rfl)
  · replace h := Option.some.inj h; subst h
    exact x_end 5 [] [] onil onil (by kernel_rfl)
/-! impl.Apart -/
def Dimpl_Apart (n : Nat) (a0 : Sol) (a1 : Sol) : Option Bool :=
  (Dimpl_isNothing n a0 a1 1).bind fun v0 => some v0
theorem Timpl_Apart {Y} (n : Nat) (a0 : Sol) (a1 : Sol) (r : Bool) (h : Dimpl_Apart n a0 a1 = some r) : Big Try.prog H Y (.call 30 [.agg [bl a0.inn, i64 a0.pl.A, i64 a0.pl.B, i64 a0.pl.C, i64 a0.pl.D, .sl false 6 a0.kids.length ((eSol false).f a0.kids)], .agg [bl a1.inn, i64 a1.pl.A, i64 a1.pl.B, i64 a1.pl.C, i64 a1.pl.D, .sl false 6 a1.kids.length ((eSol false).f a1.kids)]] (lk []) (bl r) (lk [])) := by
  unfold Dimpl_Apart at h
  refine x_call (fn := Try.f30) (c := bodyOf Try.f30) (bs0 := []) Try.func30 (by kernel_rfl) (by kernel_rfl) ?_
  obtain ⟨v0, hv0, h⟩ := bind_some h
  replace h := Option.some.inj h; subst h
  exact x_end 13 [(5, .call [] [] (bl v0) [])] [] (ocons (Timpl_isNothing (Y := Y) n a0 a1 1 _ hv0) onil) onil (by kernel_rfl)
/-! laws.FnExactApart -/
def Dlaws_FnExactApart (n : Nat) (a0 : Sol) (a1 : Sol) : Option Bool :=
  (Dlaws_szSolid n a0 1048576).bind fun v0 => frk (decide (v0 < 0)) (some true) ((Dlaws_szSolid n a1 v0).bind fun v1 => frk (decide (v1 < 0)) (some true) ((Dlaws_toSolid n a0).bind fun v2 => (Dlaws_toSolid n a1).bind fun v3 => (Dspec_Apart n v2 v3).bind fun v4 => (Dlaws_toSolid n a0).bind fun v5 => (Dlaws_toSolid n a1).bind fun v6 => (Dimpl_Apart n v5 v6).bind fun v7 => frk (!(v7 == v4)) (some false) ((Dlaws_toSolid n a0).bind fun v8 => (Dlaws_eqSolid n v5 v8).bind fun v9 => frk (!v9) (some false) ((Dlaws_toSolid n a1).bind fun v10 => (Dlaws_eqSolid n v6 v10).bind fun v11 => frk (!v11) (some false) (some true)))))
theorem Tlaws_FnExactApart {Y} (n : Nat) (a0 : Sol) (a1 : Sol) (r : Bool) (h : Dlaws_FnExactApart n a0 a1 = some r) : Big Try.prog H Y (.call 7 [.agg [bl a0.inn, i64 a0.pl.A, i64 a0.pl.B, i64 a0.pl.C, i64 a0.pl.D, .sl false 6 a0.kids.length ((eSol false).f a0.kids)], .agg [bl a1.inn, i64 a1.pl.A, i64 a1.pl.B, i64 a1.pl.C, i64 a1.pl.D, .sl false 6 a1.kids.length ((eSol false).f a1.kids)]] (lk []) (bl r) (lk [])) := by
  unfold Dlaws_FnExactApart at h
  refine x_call (fn := Try.f7) (c := bodyOf Try.f7) (bs0 := []) Try.func7 (by kernel_rfl) (by kernel_rfl) ?_
  obtain ⟨v0, hv0, h⟩ := bind_some h
  refine x_frk 23 [(6, .call [] [] (i64 v0) [])] (ocons (Tlaws_szSolid (Y := Y) n a0 1048576 _ hv0) onil) h (by kernel_rfl) (fun h => ?_) (fun h => ?_)
  · replace h := Option.some.inj h; subst h
    exact x_end 4 [] [] onil onil (by kernel_rfl)
  · obtain ⟨v1, hv1, h⟩ := bind_some h
    refine x_frk 14 [(2, .call [] [] (i64 v1) [])] (ocons (Tlaws_szSolid (Y := Y) n a1 v0 _ hv1) onil) h (by kernel_rfl) (fun h => ?_) (fun h => ?_)
    · replace h := Option.some.inj h; subst h
      exact x_end 4 [] [] onil onil (by kernel_rfl)
    · obtain ⟨v2, hv2, h⟩ := bind_some h
      obtain ⟨v3, hv3, h⟩ := bind_some h
      obtain ⟨v4, hv4, h⟩ := bind_some h
      obtain ⟨v5, hv5, h⟩ := bind_some h
      obtain ⟨v6, hv6, h⟩ := bind_some h
      obtain ⟨v7, hv7, h⟩ := bind_some h
      refine x_frk 38 [(1, .call [] [] (.agg [bl v2.inn, i64 v2.pl.A, i64 v2.pl.B, i64 v2.pl.C, i64 v2.pl.D, .sl true 6 v2.kids.length ((eSol true).f v2.kids)]) []), (1, .call [] [] (.agg [bl v3.inn, i64 v3.pl.A, i64 v3.pl.B, i64 v3.pl.C, i64 v3.pl.D, .sl true 6 v3.kids.length ((eSol true).f v3.kids)]) []), (0, .call [] [(eSol false).f v3.kids, (eSol false).f v2.kids] (bl v4) []), (2, .call [] [] (.agg [bl v5.inn, i64 v5.pl.A, i64 v5.pl.B, i64 v5.pl.C, i64 v5.pl.D, .sl true 6 v5.kids.length ((eSol true).f v5.kids)]) []), (3, .call [] [] (.agg [bl v6.inn, i64 v6.pl.A, i64 v6.pl.B, i64 v6.pl.C, i64 v6.pl.D, .sl true 6 v6.kids.length ((eSol true).f v6.kids)]) []), (2, .rows [(eSol false).f v5.kids]), (0, .rows [(eSol false).f v6.kids]), (0, .call [] [] (bl v7) [])] (ocons (Tlaws_toSolid (Y := Y) n a0 _ hv2) (ocons (Tlaws_toSolid (Y := Y) n a1 _ hv3) (ocons (Tspec_Apart (Y := Y) n v2 v3 _ hv4) (ocons (Enc.share (eSol true) (eSol false) (sSol true) v2.kids) (ocons (Enc.share (eSol true) (eSol false) (sSol true) v3.kids) (ocons (Tlaws_toSolid (Y := Y) n a0 _ hv5) (ocons (Tlaws_toSolid (Y := Y) n a1 _ hv6) (ocons (Enc.share (eSol true) (eSol false) (sSol true) v5.kids) (ocons (Enc.share (eSol true) (eSol false) (sSol true) v6.kids) (ocons (Timpl_Apart (Y := Y) n v5 v6 _ hv7) onil)))))))))) h (by kernel_rfl) (fun h => ?_) (fun h => ?_)
      · replace h := Option.some.inj h; subst h
        exact x_end 4 [] [] onil onil (by kernel_rfl)
      · obtain ⟨v8, hv8, h⟩ := bind_some h
        obtain ⟨v9, hv9, h⟩ := bind_some h
        refine x_frk 10 [(0, .rows [(eSol false).f v5.kids]), (1, .call [] [] (.agg [bl v8.inn, i64 v8.pl.A, i64 v8.pl.B, i64 v8.pl.C, i64 v8.pl.D, .sl true 6 v8.kids.length ((eSol true).f v8.kids)]) []), (0, .call [] [(eSol false).f v8.kids] (bl v9) [])] (ocons (Enc.share (eSol true) (eSol false) (sSol true) v5.kids) (ocons (Tlaws_toSolid (Y := Y) n a0 _ hv8) (ocons (Tlaws_eqSolid (Y := Y) n v5 v8 _ hv9) (ocons (Enc.share (eSol true) (eSol false) (sSol true) v8.kids) onil)))) h (by kernel_rfl) (fun h => ?_) (fun h => ?_)
        · replace h := Option.some.inj h; subst h
          exact x_end 4 [] [] onil onil (by kernel_rfl)
        · obtain ⟨v10, hv10, h⟩ := bind_some h
          obtain ⟨v11, hv11, h⟩ := bind_some h
          refine x_frk 10 [(0, .rows [(eSol false).f v6.kids]), (1, .call [] [] (.agg [bl v10.inn, i64 v10.pl.A, i64 v10.pl.B, i64 v10.pl.C, i64 v10.pl.D, .sl true 6 v10.kids.length ((eSol true).f v10.kids)]) []), (0, .call [] [(eSol false).f v10.kids] (bl v11) [])] (ocons (Enc.share (eSol true) (eSol false) (sSol true) v6.kids) (ocons (Tlaws_toSolid (Y := Y) n a1 _ hv10) (ocons (Tlaws_eqSolid (Y := Y) n v6 v10 _ hv11) (ocons (Enc.share (eSol true) (eSol false) (sSol true) v10.kids) onil)))) h (by kernel_rfl) (fun h => ?_) (fun h => ?_)
          · replace h := Option.some.inj h; subst h
            exact x_end 4 [] [] onil onil (by kernel_rfl)
          · replace h := Option.some.inj h; subst h
            exact x_end 5 [] [] onil onil (by kernel_rfl)
/-! spec.Inside -/
def Dspec_Inside (n : Nat) (a0 : Sol) (a1 : Sol) : Option Bool :=
  (Dspec_l13Empty n a0 a1 3).bind fun v0 => some v0
theorem Tspec_Inside {Y} (n : Nat) (a0 : Sol) (a1 : Sol) (r : Bool) (h : Dspec_Inside n a0 a1 = some r) : Big Try.prog H Y (.call 31 [.agg [bl a0.inn, i64 a0.pl.A, i64 a0.pl.B, i64 a0.pl.C, i64 a0.pl.D, .sl false 6 a0.kids.length ((eSol false).f a0.kids)], .agg [bl a1.inn, i64 a1.pl.A, i64 a1.pl.B, i64 a1.pl.C, i64 a1.pl.D, .sl false 6 a1.kids.length ((eSol false).f a1.kids)]] (lk []) (bl r) (lk [])) := by
  unfold Dspec_Inside at h
  refine x_call (fn := Try.f31) (c := bodyOf Try.f31) (bs0 := []) Try.func31 (by kernel_rfl) (by kernel_rfl) ?_
  obtain ⟨v0, hv0, h⟩ := bind_some h
  replace h := Option.some.inj h; subst h
  exact x_end 13 [(5, .call [] [] (bl v0) [])] [] (ocons (Tspec_l13Empty (Y := Y) n a0 a1 3 _ hv0) onil) onil (by kernel_rfl)
/-! impl.Inside -/
def Dimpl_Inside (n : Nat) (a0 : Sol) (a1 : Sol) : Option Bool :=
  (Dimpl_isNothing n a0 a1 3).bind fun v0 => some v0
theorem Timpl_Inside {Y} (n : Nat) (a0 : Sol) (a1 : Sol) (r : Bool) (h : Dimpl_Inside n a0 a1 = some r) : Big Try.prog H Y (.call 32 [.agg [bl a0.inn, i64 a0.pl.A, i64 a0.pl.B, i64 a0.pl.C, i64 a0.pl.D, .sl false 6 a0.kids.length ((eSol false).f a0.kids)], .agg [bl a1.inn, i64 a1.pl.A, i64 a1.pl.B, i64 a1.pl.C, i64 a1.pl.D, .sl false 6 a1.kids.length ((eSol false).f a1.kids)]] (lk []) (bl r) (lk [])) := by
  unfold Dimpl_Inside at h
  refine x_call (fn := Try.f32) (c := bodyOf Try.f32) (bs0 := []) Try.func32 (by kernel_rfl) (by kernel_rfl) ?_
  obtain ⟨v0, hv0, h⟩ := bind_some h
  replace h := Option.some.inj h; subst h
  exact x_end 13 [(5, .call [] [] (bl v0) [])] [] (ocons (Timpl_isNothing (Y := Y) n a0 a1 3 _ hv0) onil) onil (by kernel_rfl)
/-! laws.FnExactInside -/
def Dlaws_FnExactInside (n : Nat) (a0 : Sol) (a1 : Sol) : Option Bool :=
  (Dlaws_szSolid n a0 1048576).bind fun v0 => frk (decide (v0 < 0)) (some true) ((Dlaws_szSolid n a1 v0).bind fun v1 => frk (decide (v1 < 0)) (some true) ((Dlaws_toSolid n a0).bind fun v2 => (Dlaws_toSolid n a1).bind fun v3 => (Dspec_Inside n v2 v3).bind fun v4 => (Dlaws_toSolid n a0).bind fun v5 => (Dlaws_toSolid n a1).bind fun v6 => (Dimpl_Inside n v5 v6).bind fun v7 => frk (!(v7 == v4)) (some false) ((Dlaws_toSolid n a0).bind fun v8 => (Dlaws_eqSolid n v5 v8).bind fun v9 => frk (!v9) (some false) ((Dlaws_toSolid n a1).bind fun v10 => (Dlaws_eqSolid n v6 v10).bind fun v11 => frk (!v11) (some false) (some true)))))
theorem Tlaws_FnExactInside {Y} (n : Nat) (a0 : Sol) (a1 : Sol) (r : Bool) (h : Dlaws_FnExactInside n a0 a1 = some r) : Big Try.prog H Y (.call 8 [.agg [bl a0.inn, i64 a0.pl.A, i64 a0.pl.B, i64 a0.pl.C, i64 a0.pl.D, .sl false 6 a0.kids.length ((eSol false).f a0.kids)], .agg [bl a1.inn, i64 a1.pl.A, i64 a1.pl.B, i64 a1.pl.C, i64 a1.pl.D, .sl false 6 a1.kids.length ((eSol false).f a1.kids)]] (lk []) (bl r) (lk [])) := by
  unfold Dlaws_FnExactInside at h
  refine x_call (fn := Try.f8) (c := bodyOf Try.f8) (bs0 := []) Try.func8 (by kernel_rfl) (by kernel_rfl) ?_
  obtain ⟨v0, hv0, h⟩ := bind_some h
  refine x_frk 23 [(6, .call [] [] (i64 v0) [])] (ocons (Tlaws_szSolid (Y := Y) n a0 1048576 _ hv0) onil) h (by kernel_rfl) (fun h => ?_) (fun h => ?_)
  · replace h := Option.some.inj h; subst h
    exact x_end 4 [] [] onil onil (by kernel_rfl)
  · obtain ⟨v1, hv1, h⟩ := bind_some h
    refine x_frk 14 [(2, .call [] [] (i64 v1) [])] (ocons (Tlaws_szSolid (Y := Y) n a1 v0 _ hv1) onil) h (by kernel_rfl) (fun h => ?_) (fun h => ?_)
    · replace h := Option.some.inj h; subst h
      exact x_end 4 [] [] onil onil (by kernel_rfl)
    · obtain ⟨v2, hv2, h⟩ := bind_some h
      obtain ⟨v3, hv3, h⟩ := bind_some h
      obtain ⟨v4, hv4, h⟩ := bind_some h
      obtain ⟨v5, hv5, h⟩ := bind_some h
      obtain ⟨v6, hv6, h⟩ := bind_some h
      obtain ⟨v7, hv7, h⟩ := bind_some h
      refine x_frk 38 [(1, .call [] [] (.agg [bl v2.inn, i64 v2.pl.A, i64 v2.pl.B, i64 v2.pl.C, i64 v2.pl.D, .sl true 6 v2.kids.length ((eSol true).f v2.kids)]) []), (1, .call [] [] (.agg [bl v3.inn, i64 v3.pl.A, i64 v3.pl.B, i64 v3.pl.C, i64 v3.pl.D, .sl true 6 v3.kids.length ((eSol true).f v3.kids)]) []), (0, .call [] [(eSol false).f v3.kids, (eSol false).f v2.kids] (bl v4) []), (2, .call [] [] (.agg [bl v5.inn, i64 v5.pl.A, i64 v5.pl.B, i64 v5.pl.C, i64 v5.pl.D, .sl true 6 v5.kids.length ((eSol true).f v5.kids)]) []), (3, .call [] [] (.agg [bl v6.inn, i64 v6.pl.A, i64 v6.pl.B, i64 v6.pl.C, i64 v6.pl.D, .sl true 6 v6.kids.length ((eSol true).f v6.kids)]) []), (2, .rows [(eSol false).f v5.kids]), (0, .rows [(eSol false).f v6.kids]), (0, .call [] [] (bl v7) [])] (ocons (Tlaws_toSolid (Y := Y) n a0 _ hv2) (ocons (Tlaws_toSolid (Y := Y) n a1 _ hv3) (ocons (Tspec_Inside (Y := Y) n v2 v3 _ hv4) (ocons (Enc.share (eSol true) (eSol false) (sSol true) v2.kids) (ocons (Enc.share (eSol true) (eSol false) (sSol true) v3.kids) (ocons (Tlaws_toSolid (Y := Y) n a0 _ hv5) (ocons (Tlaws_toSolid (Y := Y) n a1 _ hv6) (ocons (Enc.share (eSol true) (eSol false) (sSol true) v5.kids) (ocons (Enc.share (eSol true) (eSol false) (sSol true) v6.kids) (ocons (Timpl_Inside (Y := Y) n v5 v6 _ hv7) onil)))))))))) h (by kernel_rfl) (fun h => ?_) (fun h => ?_)
      · replace h := Option.some.inj h; subst h
        exact x_end 4 [] [] onil onil (by kernel_rfl)
      · obtain ⟨v8, hv8, h⟩ := bind_some h
        obtain ⟨v9, hv9, h⟩ := bind_some h
        refine x_frk 10 [(0, .rows [(eSol false).f v5.kids]), (1, .call [] [] (.agg [bl v8.inn, i64 v8.pl.A, i64 v8.pl.B, i64 v8.pl.C, i64 v8.pl.D, .sl true 6 v8.kids.length ((eSol true).f v8.kids)]) []), (0, .call [] [(eSol false).f v8.kids] (bl v9) [])] (ocons (Enc.share (eSol true) (eSol false) (sSol true) v5.kids) (ocons (Tlaws_toSolid (Y := Y) n a0 _ hv8) (ocons (Tlaws_eqSolid (Y := Y) n v5 v8 _ hv9) (ocons (Enc.share (eSol true) (eSol false) (sSol true) v8.kids) onil)))) h (by kernel_rfl) (fun h => ?_) (fun h => ?_)
        · replace h := Option.some.inj h; subst h
          exact x_end 4 [] [] onil onil (by kernel_rfl)
        · obtain ⟨v10, hv10, h⟩ := bind_some h
          obtain ⟨v11, hv11, h⟩ := bind_some h
          refine x_frk 10 [(0, .rows [(eSol false).f v6.kids]), (1, .call [] [] (.agg [bl v10.inn, i64 v10.pl.A, i64 v10.pl.B, i64 v10.pl.C, i64 v10.pl.D, .sl true 6 v10.kids.length ((eSol true).f v10.kids)]) []), (0, .call [] [(eSol false).f v10.kids] (bl v11) [])] (ocons (Enc.share (eSol true) (eSol false) (sSol true) v6.kids) (ocons (Tlaws_toSolid (Y := Y) n a1 _ hv10) (ocons (Tlaws_eqSolid (Y := Y) n v6 v10 _ hv11) (ocons (Enc.share (eSol true) (eSol false) (sSol true) v10.kids) onil)))) h (by kernel_rfl) (fun h => ?_) (fun h => ?_)
          · replace h := Option.some.inj h; subst h
            exact x_end 4 [] [] onil onil (by kernel_rfl)
          · replace h := Option.some.inj h; subst h
            exact x_end 5 [] [] onil onil (by kernel_rfl)
/-! spec.Same -/
def Dspec_Same (n : Nat) (a0 : Sol) (a1 : Sol) : Option Bool :=
  (Dspec_l13Empty n a0 a1 4).bind fun v0 => some v0
theorem Tspec_Same {Y} (n : Nat) (a0 : Sol) (a1 : Sol) (r : Bool) (h : Dspec_Same n a0 a1 = some r) : Big Try.prog H Y (.call 33 [.agg [bl a0.inn, i64 a0.pl.A, i64 a0.pl.B, i64 a0.pl.C, i64 a0.pl.D, .sl false 6 a0.kids.length ((eSol false).f a0.kids)], .agg [bl a1.inn, i64 a1.pl.A, i64 a1.pl.B, i64 a1.pl.C, i64 a1.pl.D, .sl false 6 a1.kids.length ((eSol false).f a1.kids)]] (lk []) (bl r) (lk [])) := by
  unfold Dspec_Same at h
  refine x_call (fn := Try.f33) (c := bodyOf Try.f33) (bs0 := []) Try.func33 (by kernel_rfl) (by kernel_rfl) ?_
  obtain ⟨v0, hv0, h⟩ := bind_some h
  replace h := Option.some.inj h; subst h
  exact x_end 13 [(5, .call [] [] (bl v0) [])] [] (ocons (Tspec_l13Empty (Y := Y) n a0 a1 4 _ hv0) onil) onil (by kernel_rfl)
/-! impl.Same -/
def Dimpl_Same (n : Nat) (a0 : Sol) (a1 : Sol) : Option Bool :=
  (Dimpl_isNothing n a0 a1 4).bind fun v0 => some v0
theorem Timpl_Same {Y} (n : Nat) (a0 : Sol) (a1 : Sol) (r : Bool) (h : Dimpl_Same n a0 a1 = some r) : Big Try.prog H Y (.call 34 [.agg [bl a0.inn, i64 a0.pl.A, i64 a0.pl.B, i64 a0.pl.C, i64 a0.pl.D, .sl false 6 a0.kids.length ((eSol false).f a0.kids)], .agg [bl a1.inn, i64 a1.pl.A, i64 a1.pl.B, i64 a1.pl.C, i64 a1.pl.D, .sl false 6 a1.kids.length ((eSol false).f a1.kids)]] (lk []) (bl r) (lk [])) := by
  unfold Dimpl_Same at h
  refine x_call (fn := Try.f34) (c := bodyOf Try.f34) (bs0 := []) Try.func34 (by kernel_rfl) (by kernel_rfl) ?_
  obtain ⟨v0, hv0, h⟩ := bind_some h
  replace h := Option.some.inj h; subst h
  exact x_end 13 [(5, .call [] [] (bl v0) [])] [] (ocons (Timpl_isNothing (Y := Y) n a0 a1 4 _ hv0) onil) onil (by kernel_rfl)
/-! laws.FnExactSame -/
def Dlaws_FnExactSame (n : Nat) (a0 : Sol) (a1 : Sol) : Option Bool :=
  (Dlaws_szSolid n a0 1048576).bind fun v0 => frk (decide (v0 < 0)) (some true) ((Dlaws_szSolid n a1 v0).bind fun v1 => frk (decide (v1 < 0)) (some true) ((Dlaws_toSolid n a0).bind fun v2 => (Dlaws_toSolid n a1).bind fun v3 => (Dspec_Same n v2 v3).bind fun v4 => (Dlaws_toSolid n a0).bind fun v5 => (Dlaws_toSolid n a1).bind fun v6 => (Dimpl_Same n v5 v6).bind fun v7 => frk (!(v7 == v4)) (some false) ((Dlaws_toSolid n a0).bind fun v8 => (Dlaws_eqSolid n v5 v8).bind fun v9 => frk (!v9) (some false) ((Dlaws_toSolid n a1).bind fun v10 => (Dlaws_eqSolid n v6 v10).bind fun v11 => frk (!v11) (some false) (some true)))))
theorem Tlaws_FnExactSame {Y} (n : Nat) (a0 : Sol) (a1 : Sol) (r : Bool) (h : Dlaws_FnExactSame n a0 a1 = some r) : Big Try.prog H Y (.call 9 [.agg [bl a0.inn, i64 a0.pl.A, i64 a0.pl.B, i64 a0.pl.C, i64 a0.pl.D, .sl false 6 a0.kids.length ((eSol false).f a0.kids)], .agg [bl a1.inn, i64 a1.pl.A, i64 a1.pl.B, i64 a1.pl.C, i64 a1.pl.D, .sl false 6 a1.kids.length ((eSol false).f a1.kids)]] (lk []) (bl r) (lk [])) := by
  unfold Dlaws_FnExactSame at h
  refine x_call (fn := Try.f9) (c := bodyOf Try.f9) (bs0 := []) Try.func9 (by kernel_rfl) (by kernel_rfl) ?_
  obtain ⟨v0, hv0, h⟩ := bind_some h
  refine x_frk 23 [(6, .call [] [] (i64 v0) [])] (ocons (Tlaws_szSolid (Y := Y) n a0 1048576 _ hv0) onil) h (by kernel_rfl) (fun h => ?_) (fun h => ?_)
  · replace h := Option.some.inj h; subst h
    exact x_end 4 [] [] onil onil (by kernel_rfl)
  · obtain ⟨v1, hv1, h⟩ := bind_some h
    refine x_frk 14 [(2, .call [] [] (i64 v1) [])] (ocons (Tlaws_szSolid (Y := Y) n a1 v0 _ hv1) onil) h (by kernel_rfl) (fun h => ?_) (fun h => ?_)
    · replace h := Option.some.inj h; subst h
      exact x_end 4 [] [] onil onil (by kernel_rfl)
    · obtain ⟨v2, hv2, h⟩ := bind_some h
      obtain ⟨v3, hv3, h⟩ := bind_some h
      obtain ⟨v4, hv4, h⟩ := bind_some h
      obtain ⟨v5, hv5, h⟩ := bind_some h
      obtain ⟨v6, hv6, h⟩ := bind_some h
      obtain ⟨v7, hv7, h⟩ := bind_some h
      refine x_frk 38 [(1, .call [] [] (.agg [bl v2.inn, i64 v2.pl.A, i64 v2.pl.B, i64 v2.pl.C, i64 v2.pl.D, .sl true 6 v2.kids.length ((eSol true).f v2.kids)]) []), (1, .call [] [] (.agg [bl v3.inn, i64 v3.pl.A, i64 v3.pl.B, i64 v3.pl.C, i64 v3.pl.D, .sl true 6 v3.kids.length ((eSol true).f v3.kids)]) []), (0, .call [] [(eSol false).f v3.kids, (eSol false).f v2.kids] (bl v4) []), (2, .call [] [] (.agg [bl v5.inn, i64 v5.pl.A, i64 v5.pl.B, i64 v5.pl.C, i64 v5.pl.D, .sl true 6 v5.kids.length ((eSol true).f v5.kids)]) []), (3, .call [] [] (.agg [bl v6.inn, i64 v6.pl.A, i64 v6.pl.B, i64 v6.pl.C, i64 v6.pl.D, .sl true 6 v6.kids.length ((eSol true).f v6.kids)]) []), (2, .rows [(eSol false).f v5.kids]), (0, .rows [(eSol false).f v6.kids]), (0, .call [] [] (bl v7) [])] (ocons (Tlaws_toSolid (Y := Y) n a0 _ hv2) (ocons (Tlaws_toSolid (Y := Y) n a1 _ hv3) (ocons (Tspec_Same (Y := Y) n v2 v3 _ hv4) (ocons (Enc.share (eSol true) (eSol false) (sSol true) v2.kids) (ocons (Enc.share (eSol true) (eSol false) (sSol true) v3.kids) (ocons (Tlaws_toSolid (Y := Y) n a0 _ hv5) (ocons (Tlaws_toSolid (Y := Y) n a1 _ hv6) (ocons (Enc.share (eSol true) (eSol false) (sSol true) v5.kids) (ocons (Enc.share (eSol true) (eSol false) (sSol true) v6.kids) (ocons (Timpl_Same (Y := Y) n v5 v6 _ hv7) onil)))))))))) h (by kernel_rfl) (fun h => ?_) (fun h => ?_)
      · replace h := Option.some.inj h; subst h
        exact x_end 4 [] [] onil onil (by kernel_rfl)
      · obtain ⟨v8, hv8, h⟩ := bind_some h
        obtain ⟨v9, hv9, h⟩ := bind_some h
        refine x_frk 10 [(0, .rows [(eSol false).f v5.kids]), (1, .call [] [] (.agg [bl v8.inn, i64 v8.pl.A, i64 v8.pl.B, i64 v8.pl.C, i64 v8.pl.D, .sl true 6 v8.kids.length ((eSol true).f v8.kids)]) []), (0, .call [] [(eSol false).f v8.kids] (bl v9) [])] (ocons (Enc.share (eSol true) (eSol false) (sSol true) v5.kids) (ocons (Tlaws_toSolid (Y := Y) n a0 _ hv8) (ocons (Tlaws_eqSolid (Y := Y) n v5 v8 _ hv9) (ocons (Enc.share (eSol true) (eSol false) (sSol true) v8.kids) onil)))) h (by kernel_rfl) (fun h => ?_) (fun h => ?_)
        · replace h := Option.some.inj h; subst h
          exact x_end 4 [] [] onil onil (by kernel_rfl)
        · obtain ⟨v10, hv10, h⟩ := bind_some h
          obtain ⟨v11, hv11, h⟩ := bind_some h
          refine x_frk 10 [(0, .rows [(eSol false).f v6.kids]), (1, .call [] [] (.agg [bl v10.inn, i64 v10.pl.A, i64 v10.pl.B, i64 v10.pl.C, i64 v10.pl.D, .sl true 6 v10.kids.length ((eSol true).f v10.kids)]) []), (0, .call [] [(eSol false).f v10.kids] (bl v11) [])] (ocons (Enc.share (eSol true) (eSol false) (sSol true) v6.kids) (ocons (Tlaws_toSolid (Y := Y) n a1 _ hv10) (ocons (Tlaws_eqSolid (Y := Y) n v6 v10 _ hv11) (ocons (Enc.share (eSol true) (eSol false) (sSol true) v10.kids) onil)))) h (by kernel_rfl) (fun h => ?_) (fun h => ?_)
          · replace h := Option.some.inj h; subst h
            exact x_end 4 [] [] onil onil (by kernel_rfl)
          · replace h := Option.some.inj h; subst h
            exact x_end 5 [] [] onil onil (by kernel_rfl)
end Evl.T
