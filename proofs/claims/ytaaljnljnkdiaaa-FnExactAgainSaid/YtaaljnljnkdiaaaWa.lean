/- Walks. No condition. -/
import Derived.Test.YtaaljnljnkdiaaaWy
namespace Evl.T
open Go Evl Go.Proofs
set_option maxRecDepth 100000
/-! impl.merger).join -/
def Dimpl_merger_joino2o3_1 (b5_0 b5_1 b5_2 b5_3 : Int) (b6_0 : Bool) (b6_1 b6_2 b6_3 b6_4 : Int) (b6_5 : List Sol) (b7_0 : Bool) (b7_1 b7_2 b7_3 b7_4 : Int) (b7_5 : List Sol) (_b8_0 : Bool) (_b8_1 _b8_2 _b8_3 _b8_4 b1000_0 b1000_1 : Int) (b1000_2 : Bool) : Option (Sol × (Int × Int × Bool)) :=
  (Dimpl_nodeo1o2 (Pl.mk b5_0 b5_1 b5_2 b5_3) (Sol.mk b6_0 (Pl.mk b6_1 b6_2 b6_3 b6_4) b6_5) (Sol.mk b7_0 (Pl.mk b7_1 b7_2 b7_3 b7_4) b7_5)).bind fun v3 => some (v3, (b1000_0, b1000_1, b1000_2))
theorem Timpl_merger_joino2o3_1 {Y} (b5_0 b5_1 b5_2 b5_3 : Int) (b6_0 : Bool) (b6_1 b6_2 b6_3 b6_4 : Int) (b6_5 : List Sol) (b7_0 : Bool) (b7_1 b7_2 b7_3 b7_4 : Int) (b7_5 : List Sol) (b8_0 : Bool) (b8_1 b8_2 b8_3 b8_4 b1000_0 b1000_1 : Int) (b1000_2 : Bool) (r : (Sol × (Int × Int × Bool))) (h : Dimpl_merger_joino2o3_1 b5_0 b5_1 b5_2 b5_3 b6_0 b6_1 b6_2 b6_3 b6_4 b6_5 b7_0 b7_1 b7_2 b7_3 b7_4 b7_5 b8_0 b8_1 b8_2 b8_3 b8_4 b1000_0 b1000_1 b1000_2 = some r) : Wk Try.prog H Y 85 [.code (cp [1, 1, 1, 1, 0] (bodyOf Try.f85)), .code (cp [1, 1, 1, 1, 1] (bodyOf Try.f85))] (FinX Try.prog Try.f85 [(1000, ⟨true, 0, [.bad, .bad, .bad]⟩)] (.agg [bl r.1.inn, i64 r.1.pl.A, i64 r.1.pl.B, i64 r.1.pl.C, i64 r.1.pl.D, .sl true 6 r.1.kids.length ((eSol true).f r.1.kids)]) [(1000, ⟨true, 0, [i64 r.2.1, i64 r.2.2.1, bl r.2.2.2]⟩)]) ⟨[(5, .ptr 5 0), (6, .ptr 6 0), (7, .ptr 7 0), (8, .ptr 8 0)], [(5, ⟨true, 0, [i64 b5_0, i64 b5_1, i64 b5_2, i64 b5_3]⟩), (6, ⟨true, 0, [bl b6_0, i64 b6_1, i64 b6_2, i64 b6_3, i64 b6_4, .sl true 6 b6_5.length ((eSol true).f b6_5)]⟩), (7, ⟨true, 0, [bl b7_0, i64 b7_1, i64 b7_2, i64 b7_3, i64 b7_4, .sl true 6 b7_5.length ((eSol true).f b7_5)]⟩), (8, ⟨true, 0, [bl b8_0, i64 b8_1, i64 b8_2, i64 b8_3, i64 b8_4, .nil]⟩), (1000, ⟨true, 0, [i64 b1000_0, i64 b1000_1, bl b1000_2]⟩)]⟩ := by
  unfold Dimpl_merger_joino2o3_1 at h
  obtain ⟨v3, hv3, h⟩ := bind_some h
  replace h := Option.some.inj h; subst h
  exact x_end 7 [(3, .call [] [] (.agg [bl v3.inn, i64 v3.pl.A, i64 v3.pl.B, i64 v3.pl.C, i64 v3.pl.D, .sl true 6 v3.kids.length ((eSol true).f v3.kids)]) [])] [] (ocons (Timpl_nodeo1o2 (Y := Y) (Pl.mk b5_0 b5_1 b5_2 b5_3) (Sol.mk b6_0 (Pl.mk b6_1 b6_2 b6_3 b6_4) b6_5) (Sol.mk b7_0 (Pl.mk b7_1 b7_2 b7_3 b7_4) b7_5) _ hv3) onil) onil (by kernel_rfl)
def Dimpl_merger_joino2o3_0 (t19 : Bool) (b5_0 b5_1 b5_2 b5_3 : Int) (b6_0 : Bool) (b6_1 b6_2 b6_3 b6_4 : Int) (b6_5 : List Sol) (b7_0 : Bool) (b7_1 b7_2 b7_3 b7_4 : Int) (b7_5 : List Sol) (b8_0 : Bool) (b8_1 b8_2 b8_3 b8_4 b1000_0 b1000_1 : Int) (b1000_2 : Bool) : Option (Sol × (Int × Int × Bool)) :=
  frk t19 ((Dimpl_Leaf b6_0).bind fun v2 => some (v2, (b1000_0, b1000_1, b1000_2))) (frk b1000_2 (Dimpl_merger_joino2o3_1 b5_0 b5_1 b5_2 b5_3 b6_0 b6_1 b6_2 b6_3 b6_4 b6_5 b7_0 b7_1 b7_2 b7_3 b7_4 b7_5 b8_0 b8_1 b8_2 b8_3 b8_4 b1000_0 (w64 (b1000_1 + 1)) true) (Dimpl_merger_joino2o3_1 b5_0 b5_1 b5_2 b5_3 b6_0 b6_1 b6_2 b6_3 b6_4 b6_5 b7_0 b7_1 b7_2 b7_3 b7_4 b7_5 b8_0 b8_1 b8_2 b8_3 b8_4 b1000_0 (w64 (b1000_1 + 1)) (decide ((w64 (b1000_1 + 1)) > 300))))
theorem Timpl_merger_joino2o3_0 {Y} (t19 : Bool) (b5_0 b5_1 b5_2 b5_3 : Int) (b6_0 : Bool) (b6_1 b6_2 b6_3 b6_4 : Int) (b6_5 : List Sol) (b7_0 : Bool) (b7_1 b7_2 b7_3 b7_4 : Int) (b7_5 : List Sol) (b8_0 : Bool) (b8_1 b8_2 b8_3 b8_4 b1000_0 b1000_1 : Int) (b1000_2 : Bool) (r : (Sol × (Int × Int × Bool))) (h : Dimpl_merger_joino2o3_0 t19 b5_0 b5_1 b5_2 b5_3 b6_0 b6_1 b6_2 b6_3 b6_4 b6_5 b7_0 b7_1 b7_2 b7_3 b7_4 b7_5 b8_0 b8_1 b8_2 b8_3 b8_4 b1000_0 b1000_1 b1000_2 = some r) : Wk Try.prog H Y 85 [.code (cp [1, 0, 1] (bodyOf Try.f85)), .code (cp [1, 1] (bodyOf Try.f85))] (FinX Try.prog Try.f85 [(1000, ⟨true, 0, [.bad, .bad, .bad]⟩)] (.agg [bl r.1.inn, i64 r.1.pl.A, i64 r.1.pl.B, i64 r.1.pl.C, i64 r.1.pl.D, .sl true 6 r.1.kids.length ((eSol true).f r.1.kids)]) [(1000, ⟨true, 0, [i64 r.2.1, i64 r.2.2.1, bl r.2.2.2]⟩)]) ⟨[(0, .ptr 1000 0), (5, .ptr 5 0), (6, .ptr 6 0), (7, .ptr 7 0), (8, .ptr 8 0), (19, bl t19)], [(5, ⟨true, 0, [i64 b5_0, i64 b5_1, i64 b5_2, i64 b5_3]⟩), (6, ⟨true, 0, [bl b6_0, i64 b6_1, i64 b6_2, i64 b6_3, i64 b6_4, .sl true 6 b6_5.length ((eSol true).f b6_5)]⟩), (7, ⟨true, 0, [bl b7_0, i64 b7_1, i64 b7_2, i64 b7_3, i64 b7_4, .sl true 6 b7_5.length ((eSol true).f b7_5)]⟩), (8, ⟨true, 0, [bl b8_0, i64 b8_1, i64 b8_2, i64 b8_3, i64 b8_4, .nil]⟩), (1000, ⟨true, 0, [i64 b1000_0, i64 b1000_1, bl b1000_2]⟩)]⟩ := by
  unfold Dimpl_merger_joino2o3_0 at h
  refine x_frk 0 [] onil h (by kernel_rfl) (fun h => ?_) (fun h => ?_)
  · obtain ⟨v2, hv2, h⟩ := bind_some h
    replace h := Option.some.inj h; subst h
    exact x_end 7 [(2, .call [] [] (.agg [bl v2.inn, i64 v2.pl.A, i64 v2.pl.B, i64 v2.pl.C, i64 v2.pl.D, .sl true 6 v2.kids.length ((eSol true).f v2.kids)]) [])] [] (ocons (Timpl_Leaf (Y := Y) b6_0 _ hv2) onil) onil (by kernel_rfl)
  · refine x_frk 20 [] onil h (by kernel_rfl) (fun h => ?_) (fun h => ?_)
    · exact x_to 11 [] onil (Timpl_merger_joino2o3_1 b5_0 b5_1 b5_2 b5_3 b6_0 b6_1 b6_2 b6_3 b6_4 b6_5 b7_0 b7_1 b7_2 b7_3 b7_4 b7_5 b8_0 b8_1 b8_2 b8_3 b8_4 b1000_0 (w64 (b1000_1 + 1)) true r h) (by kernel_rfl)
    · exact x_to 11 [] onil (Timpl_merger_joino2o3_1 b5_0 b5_1 b5_2 b5_3 b6_0 b6_1 b6_2 b6_3 b6_4 b6_5 b7_0 b7_1 b7_2 b7_3 b7_4 b7_5 b8_0 b8_1 b8_2 b8_3 b8_4 b1000_0 (w64 (b1000_1 + 1)) (decide ((w64 (b1000_1 + 1)) > 300)) r h) (by kernel_rfl)
def Dimpl_merger_joino2o3_2 (b5_0 b5_1 b5_2 b5_3 : Int) (b6_0 : Bool) (b6_1 b6_2 b6_3 b6_4 : Int) (b6_5 : List Sol) (b7_0 : Bool) (b7_1 b7_2 b7_3 b7_4 : Int) (b7_5 : List Sol) (b8_0 : Bool) (b8_1 b8_2 b8_3 b8_4 b1000_0 b1000_1 : Int) (b1000_2 : Bool) : Option (Sol × (Int × Int × Bool)) :=
  frk b1000_2 (Dimpl_merger_joino2o3_1 b5_0 b5_1 b5_2 b5_3 b6_0 b6_1 b6_2 b6_3 b6_4 b6_5 b7_0 b7_1 b7_2 b7_3 b7_4 b7_5 b8_0 b8_1 b8_2 b8_3 b8_4 b1000_0 b1000_1 true) (Dimpl_merger_joino2o3_1 b5_0 b5_1 b5_2 b5_3 b6_0 b6_1 b6_2 b6_3 b6_4 b6_5 b7_0 b7_1 b7_2 b7_3 b7_4 b7_5 b8_0 b8_1 b8_2 b8_3 b8_4 b1000_0 b1000_1 (decide (b1000_1 > 300)))
theorem Timpl_merger_joino2o3_2 {Y} (b5_0 b5_1 b5_2 b5_3 : Int) (b6_0 : Bool) (b6_1 b6_2 b6_3 b6_4 : Int) (b6_5 : List Sol) (b7_0 : Bool) (b7_1 b7_2 b7_3 b7_4 : Int) (b7_5 : List Sol) (b8_0 : Bool) (b8_1 b8_2 b8_3 b8_4 b1000_0 b1000_1 : Int) (b1000_2 : Bool) (r : (Sol × (Int × Int × Bool))) (h : Dimpl_merger_joino2o3_2 b5_0 b5_1 b5_2 b5_3 b6_0 b6_1 b6_2 b6_3 b6_4 b6_5 b7_0 b7_1 b7_2 b7_3 b7_4 b7_5 b8_0 b8_1 b8_2 b8_3 b8_4 b1000_0 b1000_1 b1000_2 = some r) : Wk Try.prog H Y 85 [.code (cp [1, 1, 1, 0] (bodyOf Try.f85)), .code (cp [1, 1, 1, 1] (bodyOf Try.f85))] (FinX Try.prog Try.f85 [(1000, ⟨true, 0, [.bad, .bad, .bad]⟩)] (.agg [bl r.1.inn, i64 r.1.pl.A, i64 r.1.pl.B, i64 r.1.pl.C, i64 r.1.pl.D, .sl true 6 r.1.kids.length ((eSol true).f r.1.kids)]) [(1000, ⟨true, 0, [i64 r.2.1, i64 r.2.2.1, bl r.2.2.2]⟩)]) ⟨[(0, .ptr 1000 0), (5, .ptr 5 0), (6, .ptr 6 0), (7, .ptr 7 0), (8, .ptr 8 0)], [(5, ⟨true, 0, [i64 b5_0, i64 b5_1, i64 b5_2, i64 b5_3]⟩), (6, ⟨true, 0, [bl b6_0, i64 b6_1, i64 b6_2, i64 b6_3, i64 b6_4, .sl true 6 b6_5.length ((eSol true).f b6_5)]⟩), (7, ⟨true, 0, [bl b7_0, i64 b7_1, i64 b7_2, i64 b7_3, i64 b7_4, .sl true 6 b7_5.length ((eSol true).f b7_5)]⟩), (8, ⟨true, 0, [bl b8_0, i64 b8_1, i64 b8_2, i64 b8_3, i64 b8_4, .nil]⟩), (1000, ⟨true, 0, [i64 b1000_0, i64 b1000_1, bl b1000_2]⟩)]⟩ := by
  unfold Dimpl_merger_joino2o3_2 at h
  refine x_frk 7 [] onil h (by kernel_rfl) (fun h => ?_) (fun h => ?_)
  · exact x_to 11 [] onil (Timpl_merger_joino2o3_1 b5_0 b5_1 b5_2 b5_3 b6_0 b6_1 b6_2 b6_3 b6_4 b6_5 b7_0 b7_1 b7_2 b7_3 b7_4 b7_5 b8_0 b8_1 b8_2 b8_3 b8_4 b1000_0 b1000_1 true r h) (by kernel_rfl)
  · exact x_to 11 [] onil (Timpl_merger_joino2o3_1 b5_0 b5_1 b5_2 b5_3 b6_0 b6_1 b6_2 b6_3 b6_4 b6_5 b7_0 b7_1 b7_2 b7_3 b7_4 b7_5 b8_0 b8_1 b8_2 b8_3 b8_4 b1000_0 b1000_1 (decide (b1000_1 > 300)) r h) (by kernel_rfl)
def Dimpl_merger_joino2o3 (a0 : (Int × Int × Bool)) (a1 : Pl) (a2 : Sol) (a3 : Sol) : Option (Sol × (Int × Int × Bool)) :=
  (Dimpl_Solid_isLeaf a2).bind fun v0 => frk v0 ((Dimpl_Solid_isLeaf a3).bind fun v1 => frk v1 (Dimpl_merger_joino2o3_0 (a2.inn == a3.inn) a1.A a1.B a1.C a1.D a2.inn a2.pl.A a2.pl.B a2.pl.C a2.pl.D a2.kids a3.inn a3.pl.A a3.pl.B a3.pl.C a3.pl.D a3.kids false 0 0 0 0 a0.1 a0.2.1 a0.2.2) (Dimpl_merger_joino2o3_2 a1.A a1.B a1.C a1.D a2.inn a2.pl.A a2.pl.B a2.pl.C a2.pl.D a2.kids a3.inn a3.pl.A a3.pl.B a3.pl.C a3.pl.D a3.kids false 0 0 0 0 a0.1 (w64 (a0.2.1 + 1)) a0.2.2)) (Dimpl_merger_joino2o3_2 a1.A a1.B a1.C a1.D a2.inn a2.pl.A a2.pl.B a2.pl.C a2.pl.D a2.kids a3.inn a3.pl.A a3.pl.B a3.pl.C a3.pl.D a3.kids false 0 0 0 0 a0.1 (w64 (a0.2.1 + 1)) a0.2.2)
theorem Timpl_merger_joino2o3 {Y} (a0 : (Int × Int × Bool)) (a1 : Pl) (a2 : Sol) (a3 : Sol) (r : (Sol × (Int × Int × Bool))) (h : Dimpl_merger_joino2o3 a0 a1 a2 a3 = some r) : Big Try.prog H Y (.call 85 [.ptr 1000 0, .agg [i64 a1.A, i64 a1.B, i64 a1.C, i64 a1.D], .agg [bl a2.inn, i64 a2.pl.A, i64 a2.pl.B, i64 a2.pl.C, i64 a2.pl.D, .sl true 6 a2.kids.length ((eSol true).f a2.kids)], .agg [bl a3.inn, i64 a3.pl.A, i64 a3.pl.B, i64 a3.pl.C, i64 a3.pl.D, .sl true 6 a3.kids.length ((eSol true).f a3.kids)]] (lk [(1000, ⟨true, 0, [i64 a0.1, i64 a0.2.1, bl a0.2.2]⟩)]) (.agg [bl r.1.inn, i64 r.1.pl.A, i64 r.1.pl.B, i64 r.1.pl.C, i64 r.1.pl.D, .sl true 6 r.1.kids.length ((eSol true).f r.1.kids)]) (lk [(1000, ⟨true, 0, [i64 r.2.1, i64 r.2.2.1, bl r.2.2.2]⟩)])) := by
  unfold Dimpl_merger_joino2o3 at h
  refine x_call (fn := Try.f85) (c := bodyOf Try.f85) (bs0 := [(1000, ⟨true, 0, [.bad, .bad, .bad]⟩)]) Try.func85 (by kernel_rfl) (by kernel_rfl) ?_
  obtain ⟨v0, hv0, h⟩ := bind_some h
  refine x_frk 12 [(4, .call [] [(eSol false).f a2.kids] (bl v0) [])] (ocons (Timpl_Solid_isLeaf (Y := Y) a2 [] _ hv0) (ocons (Enc.share (eSol true) (eSol false) (sSol true) a2.kids) onil)) h (by kernel_rfl) (fun h => ?_) (fun h => ?_)
  · obtain ⟨v1, hv1, h⟩ := bind_some h
    refine x_frk 3 [(0, .call [] [(eSol false).f a3.kids] (bl v1) [])] (ocons (Timpl_Solid_isLeaf (Y := Y) a3 [] _ hv1) (ocons (Enc.share (eSol true) (eSol false) (sSol true) a3.kids) onil)) h (by kernel_rfl) (fun h => ?_) (fun h => ?_)
    · exact x_to 7 [] onil (Timpl_merger_joino2o3_0 (a2.inn == a3.inn) a1.A a1.B a1.C a1.D a2.inn a2.pl.A a2.pl.B a2.pl.C a2.pl.D a2.kids a3.inn a3.pl.A a3.pl.B a3.pl.C a3.pl.D a3.kids false 0 0 0 0 a0.1 a0.2.1 a0.2.2 r h) (by kernel_rfl)
    · exact x_to 21 [] onil (Timpl_merger_joino2o3_2 a1.A a1.B a1.C a1.D a2.inn a2.pl.A a2.pl.B a2.pl.C a2.pl.D a2.kids a3.inn a3.pl.A a3.pl.B a3.pl.C a3.pl.D a3.kids false 0 0 0 0 a0.1 (w64 (a0.2.1 + 1)) a0.2.2 r h) (by kernel_rfl)
  · exact x_to 24 [] onil (Timpl_merger_joino2o3_2 a1.A a1.B a1.C a1.D a2.inn a2.pl.A a2.pl.B a2.pl.C a2.pl.D a2.kids a3.inn a3.pl.A a3.pl.B a3.pl.C a3.pl.D a3.kids false 0 0 0 0 a0.1 (w64 (a0.2.1 + 1)) a0.2.2 r h) (by kernel_rfl)
/-! impl.merger).take -/
def Dimpl_merger_take_b (n : Nat) (self1 : ((Int × Int × Bool) × Bool × Sol × (List Pl)) → Option (Sol × (Int × Int × Bool))) (a : ((Int × Int × Bool) × Bool × Sol × (List Pl))) : Option (Sol × (Int × Int × Bool)) :=
  match a with
  | (a0, a1, a2, a3) => frk a0.2.2 (some ((Sol.mk false (Pl.mk 0 0 0 0) []), a0)) ((Dimpl_Solid_isLeaf a2).bind fun v0 => frk v0 ((Dimpl_merger_leaf a0 a1 a2.inn).bind fun v1 => some v1) ((Dimpl_flip a2.pl).bind fun v2 => (Dimpl_room n a3 v2).bind fun v3 => frk (!v3) ((lget a2.kids 0).bind fun v4 => (self1 (a0, a1, v4, a3)).bind fun v5 => some v5) ((Dimpl_room n a3 a2.pl).bind fun v6 => frk (!v6) ((lget a2.kids 1).bind fun v7 => (self1 (a0, a1, v7, a3)).bind fun v8 => some v8) (frk (decide ((a3.length : Int) ≥ 24)) (some ((Sol.mk false (Pl.mk 0 0 0 0) []), (a0.1, a0.2.1, true))) ((lget a2.kids 0).bind fun v9 => (Dimpl_with a3 a2.pl).bind fun v10 => (self1 (a0, a1, v9, v10)).bind fun v11 => (lget a2.kids 1).bind fun v12 => (Dimpl_with a3 v2).bind fun v13 => (self1 (v11.2, a1, v12, v13)).bind fun v14 => (Dimpl_merger_joino2o3 v14.2 a2.pl v11.1 v14.1).bind fun v15 => some v15)))))
def Dimpl_merger_take (n : Nat) (a0 : (Int × Int × Bool)) (a1 : Bool) (a2 : Sol) (a3 : (List Pl)) : Option (Sol × (Int × Int × Bool)) := loopN (Dimpl_merger_take_b n) n (a0, a1, a2, a3)
theorem Timpl_merger_take_b {Y} (n : Nat) : ∀ (m : Nat) (a : ((Int × Int × Bool) × Bool × Sol × (List Pl))) (r : (Sol × (Int × Int × Bool))), loopN (Dimpl_merger_take_b n) m a = some r → ∀ (_ : Unit), Big Try.prog H Y (.call 84 [.ptr 1000 0, bl a.2.1, .agg [bl a.2.2.1.inn, i64 a.2.2.1.pl.A, i64 a.2.2.1.pl.B, i64 a.2.2.1.pl.C, i64 a.2.2.1.pl.D, .sl false 6 a.2.2.1.kids.length ((eSol false).f a.2.2.1.kids)], .sl false 4 a.2.2.2.length ((ePl).f a.2.2.2)] (lk [(1000, ⟨true, 0, [i64 a.1.1, i64 a.1.2.1, bl a.1.2.2]⟩)]) (.agg [bl r.1.inn, i64 r.1.pl.A, i64 r.1.pl.B, i64 r.1.pl.C, i64 r.1.pl.D, .sl true 6 r.1.kids.length ((eSol true).f r.1.kids)]) (lk [(1000, ⟨true, 0, [i64 r.2.1, i64 r.2.2.1, bl r.2.2.2]⟩)])) := by
  refine loopN_ind (fun self1 hs a r h => ?_)
  have hself1 : ∀ (a : ((Int × Int × Bool) × Bool × Sol × (List Pl))) (r : (Sol × (Int × Int × Bool))), self1 a = some r → Big Try.prog H Y (.call 84 [.ptr 1000 0, bl a.2.1, .agg [bl a.2.2.1.inn, i64 a.2.2.1.pl.A, i64 a.2.2.1.pl.B, i64 a.2.2.1.pl.C, i64 a.2.2.1.pl.D, .sl false 6 a.2.2.1.kids.length ((eSol false).f a.2.2.1.kids)], .sl false 4 a.2.2.2.length ((ePl).f a.2.2.2)] (lk [(1000, ⟨true, 0, [i64 a.1.1, i64 a.1.2.1, bl a.1.2.2]⟩)]) (.agg [bl r.1.inn, i64 r.1.pl.A, i64 r.1.pl.B, i64 r.1.pl.C, i64 r.1.pl.D, .sl true 6 r.1.kids.length ((eSol true).f r.1.kids)]) (lk [(1000, ⟨true, 0, [i64 r.2.1, i64 r.2.2.1, bl r.2.2.2]⟩)])) := fun a r h => hs a r h ()
  intro _
  obtain ⟨a0, a1, a2, a3⟩ := a
  unfold Dimpl_merger_take_b at h
  refine x_call (fn := Try.f84) (c := bodyOf Try.f84) (bs0 := [(1000, ⟨true, 0, [.bad, .bad, .bad]⟩)]) Try.func84 (by kernel_rfl) (by kernel_rfl) ?_
  refine x_frk 13 [] onil h (by kernel_rfl) (fun h => ?_) (fun h => ?_)
  · replace h := Option.some.inj h; subst h
    exact x_end 5 [] [(true, 6)] onil onil (by kernel_rfl)
  · obtain ⟨v0, hv0, h⟩ := bind_some h
    refine x_frk 6 [(0, .call [] [] (bl v0) [])] (ocons (Timpl_Solid_isLeaf (Y := Y) a2 [] _ hv0) onil) h (by kernel_rfl) (fun h => ?_) (fun h => ?_)
    · obtain ⟨v1, hv1, h⟩ := bind_some h
      replace h := Option.some.inj h; subst h
      exact x_end 9 [(4, .call [] [] (.agg [bl v1.1.inn, i64 v1.1.pl.A, i64 v1.1.pl.B, i64 v1.1.pl.C, i64 v1.1.pl.D, .sl true 6 v1.1.kids.length ((eSol true).f v1.1.kids)]) [(1000, ⟨true, 0, [i64 v1.2.1, i64 v1.2.2.1, bl v1.2.2.2]⟩)])] [] (ocons (Timpl_merger_leaf (Y := Y) a0 a1 a2.inn _ hv1) onil) onil (by kernel_rfl)
    · obtain ⟨v2, hv2, h⟩ := bind_some h
      obtain ⟨v3, hv3, h⟩ := bind_some h
      refine x_frk 19 [(2, .call [] [] (.agg [i64 v2.A, i64 v2.B, i64 v2.C, i64 v2.D]) []), (4, .call [] [] (bl v3) [])] (ocons (Timpl_flip (Y := Y) a2.pl _ hv2) (ocons (Timpl_room (Y := Y) n a3 v2 _ hv3) onil)) h (by kernel_rfl) (fun h => ?_) (fun h => ?_)
      · obtain ⟨v4, hv4, h⟩ := bind_some h
        obtain ⟨v5, hv5, h⟩ := bind_some h
        replace h := Option.some.inj h; subst h
        exact x_end 12 [(4, .val (.cptr ((eSol false).c v4 ++ (eSol false).f ((a2.kids).drop (Int.toNat 0 + 1))))), (2, .call [] [] (.agg [bl v5.1.inn, i64 v5.1.pl.A, i64 v5.1.pl.B, i64 v5.1.pl.C, i64 v5.1.pl.D, .sl true 6 v5.1.kids.length ((eSol true).f v5.1.kids)]) [(1000, ⟨true, 0, [i64 v5.2.1, i64 v5.2.2.1, bl v5.2.2.2]⟩)])] [] (ocons (ix (eSol false) hv4) (ocons (hself1 (a0, a1, v4, a3) _ hv5) onil)) onil (by kernel_rfl)
      · obtain ⟨v6, hv6, h⟩ := bind_some h
        refine x_frk 9 [(3, .call [] [] (bl v6) [])] (ocons (Timpl_room (Y := Y) n a3 a2.pl _ hv6) onil) h (by kernel_rfl) (fun h => ?_) (fun h => ?_)
        · obtain ⟨v7, hv7, h⟩ := bind_some h
          obtain ⟨v8, hv8, h⟩ := bind_some h
          replace h := Option.some.inj h; subst h
          exact x_end 12 [(4, .val (.cptr ((eSol false).c v7 ++ (eSol false).f ((a2.kids).drop (Int.toNat 1 + 1))))), (2, .call [] [] (.agg [bl v8.1.inn, i64 v8.1.pl.A, i64 v8.1.pl.B, i64 v8.1.pl.C, i64 v8.1.pl.D, .sl true 6 v8.1.kids.length ((eSol true).f v8.1.kids)]) [(1000, ⟨true, 0, [i64 v8.2.1, i64 v8.2.2.1, bl v8.2.2.2]⟩)])] [] (ocons (ix (eSol false) hv7) (ocons (hself1 (a0, a1, v7, a3) _ hv8) onil)) onil (by kernel_rfl)
        · refine x_frk 7 [] onil h (by kernel_rfl) (fun h => ?_) (fun h => ?_)
          · replace h := Option.some.inj h; subst h
            exact x_end 12 [] [(true, 6)] onil onil (by kernel_rfl)
          · obtain ⟨v9, hv9, h⟩ := bind_some h
            obtain ⟨v10, hv10, h⟩ := bind_some h
            obtain ⟨v11, hv11, h⟩ := bind_some h
            obtain ⟨v12, hv12, h⟩ := bind_some h
            obtain ⟨v13, hv13, h⟩ := bind_some h
            obtain ⟨v14, hv14, h⟩ := bind_some h
            obtain ⟨v15, hv15, h⟩ := bind_some h
            replace h := Option.some.inj h; subst h
            exact x_end 43 [(4, .val (.cptr ((eSol false).c v9 ++ (eSol false).f ((a2.kids).drop (Int.toNat 0 + 1))))), (4, .call [] [] (.sl false 4 v10.length ((ePl).f v10)) []), (0, .call [] [] (.agg [bl v11.1.inn, i64 v11.1.pl.A, i64 v11.1.pl.B, i64 v11.1.pl.C, i64 v11.1.pl.D, .sl true 6 v11.1.kids.length ((eSol true).f v11.1.kids)]) [(1000, ⟨true, 0, [i64 v11.2.1, i64 v11.2.2.1, bl v11.2.2.2]⟩)]), (6, .val (.cptr ((eSol false).c v12 ++ (eSol false).f ((a2.kids).drop (Int.toNat 1 + 1))))), (3, .call [] [] (.sl false 4 v13.length ((ePl).f v13)) []), (0, .call [] [] (.agg [bl v14.1.inn, i64 v14.1.pl.A, i64 v14.1.pl.B, i64 v14.1.pl.C, i64 v14.1.pl.D, .sl true 6 v14.1.kids.length ((eSol true).f v14.1.kids)]) [(1000, ⟨true, 0, [i64 v14.2.1, i64 v14.2.2.1, bl v14.2.2.2]⟩)]), (7, .call [] [] (.agg [bl v15.1.inn, i64 v15.1.pl.A, i64 v15.1.pl.B, i64 v15.1.pl.C, i64 v15.1.pl.D, .sl true 6 v15.1.kids.length ((eSol true).f v15.1.kids)]) [(1000, ⟨true, 0, [i64 v15.2.1, i64 v15.2.2.1, bl v15.2.2.2]⟩)])] [] (ocons (ix (eSol false) hv9) (ocons (shSl (L := v10) ePl ePl sPl (Timpl_with (Y := Y) a3 a2.pl _ hv10)) (ocons (hself1 (a0, a1, v9, v10) _ hv11) (ocons (ix (eSol false) hv12) (ocons (shSl (L := v13) ePl ePl sPl (Timpl_with (Y := Y) a3 v2 _ hv13)) (ocons (hself1 (v11.2, a1, v12, v13) _ hv14) (ocons (Timpl_merger_joino2o3 (Y := Y) v14.2 a2.pl v11.1 v14.1 _ hv15) onil))))))) onil (by kernel_rfl)
theorem Timpl_merger_take {Y} (n : Nat) (a0 : (Int × Int × Bool)) (a1 : Bool) (a2 : Sol) (a3 : (List Pl)) (r : (Sol × (Int × Int × Bool))) (h : Dimpl_merger_take n a0 a1 a2 a3 = some r) : Big Try.prog H Y (.call 84 [.ptr 1000 0, bl a1, .agg [bl a2.inn, i64 a2.pl.A, i64 a2.pl.B, i64 a2.pl.C, i64 a2.pl.D, .sl false 6 a2.kids.length ((eSol false).f a2.kids)], .sl false 4 a3.length ((ePl).f a3)] (lk [(1000, ⟨true, 0, [i64 a0.1, i64 a0.2.1, bl a0.2.2]⟩)]) (.agg [bl r.1.inn, i64 r.1.pl.A, i64 r.1.pl.B, i64 r.1.pl.C, i64 r.1.pl.D, .sl true 6 r.1.kids.length ((eSol true).f r.1.kids)]) (lk [(1000, ⟨true, 0, [i64 r.2.1, i64 r.2.2.1, bl r.2.2.2]⟩)])) := Timpl_merger_take_b n n (a0, a1, a2, a3) r h ()
/-! impl.merger).put -/
def Dimpl_merger_put_b (n : Nat) (self : ((Int × Int × Bool) × Sol × Sol × (List Pl)) → Option (Sol × (Int × Int × Bool))) (a : ((Int × Int × Bool) × Sol × Sol × (List Pl))) : Option (Sol × (Int × Int × Bool)) :=
  match a with
  | (a0, a1, a2, a3) => frk a0.2.2 (some ((Sol.mk false (Pl.mk 0 0 0 0) []), a0)) ((Dimpl_Solid_isLeaf a1).bind fun v0 => frk v0 ((Dimpl_merger_take n a0 a1.inn a2 a3).bind fun v1 => some v1) ((lget a1.kids 0).bind fun v2 => (Dimpl_with a3 a1.pl).bind fun v3 => (self (a0, v2, a2, v3)).bind fun v4 => (lget a1.kids 1).bind fun v5 => (Dimpl_flip a1.pl).bind fun v6 => (Dimpl_with a3 v6).bind fun v7 => (self (v4.2, v5, a2, v7)).bind fun v8 => (Dimpl_merger_joino2o3 v8.2 a1.pl v4.1 v8.1).bind fun v9 => some v9))
def Dimpl_merger_put (n : Nat) (a0 : (Int × Int × Bool)) (a1 : Sol) (a2 : Sol) (a3 : (List Pl)) : Option (Sol × (Int × Int × Bool)) := loopN (Dimpl_merger_put_b n) n (a0, a1, a2, a3)
theorem Timpl_merger_put_b {Y} (n : Nat) : ∀ (m : Nat) (a : ((Int × Int × Bool) × Sol × Sol × (List Pl))) (r : (Sol × (Int × Int × Bool))), loopN (Dimpl_merger_put_b n) m a = some r → ∀ (_ : Unit), Big Try.prog H Y (.call 61 [.ptr 1000 0, .agg [bl a.2.1.inn, i64 a.2.1.pl.A, i64 a.2.1.pl.B, i64 a.2.1.pl.C, i64 a.2.1.pl.D, .sl false 6 a.2.1.kids.length ((eSol false).f a.2.1.kids)], .agg [bl a.2.2.1.inn, i64 a.2.2.1.pl.A, i64 a.2.2.1.pl.B, i64 a.2.2.1.pl.C, i64 a.2.2.1.pl.D, .sl false 6 a.2.2.1.kids.length ((eSol false).f a.2.2.1.kids)], .sl false 4 a.2.2.2.length ((ePl).f a.2.2.2)] (lk [(1000, ⟨true, 0, [i64 a.1.1, i64 a.1.2.1, bl a.1.2.2]⟩)]) (.agg [bl r.1.inn, i64 r.1.pl.A, i64 r.1.pl.B, i64 r.1.pl.C, i64 r.1.pl.D, .sl true 6 r.1.kids.length ((eSol true).f r.1.kids)]) (lk [(1000, ⟨true, 0, [i64 r.2.1, i64 r.2.2.1, bl r.2.2.2]⟩)])) := by
  refine loopN_ind (fun self hs a r h => ?_)
  have hself : ∀ (a : ((Int × Int × Bool) × Sol × Sol × (List Pl))) (r : (Sol × (Int × Int × Bool))), self a = some r → Big Try.prog H Y (.call 61 [.ptr 1000 0, .agg [bl a.2.1.inn, i64 a.2.1.pl.A, i64 a.2.1.pl.B, i64 a.2.1.pl.C, i64 a.2.1.pl.D, .sl false 6 a.2.1.kids.length ((eSol false).f a.2.1.kids)], .agg [bl a.2.2.1.inn, i64 a.2.2.1.pl.A, i64 a.2.2.1.pl.B, i64 a.2.2.1.pl.C, i64 a.2.2.1.pl.D, .sl false 6 a.2.2.1.kids.length ((eSol false).f a.2.2.1.kids)], .sl false 4 a.2.2.2.length ((ePl).f a.2.2.2)] (lk [(1000, ⟨true, 0, [i64 a.1.1, i64 a.1.2.1, bl a.1.2.2]⟩)]) (.agg [bl r.1.inn, i64 r.1.pl.A, i64 r.1.pl.B, i64 r.1.pl.C, i64 r.1.pl.D, .sl true 6 r.1.kids.length ((eSol true).f r.1.kids)]) (lk [(1000, ⟨true, 0, [i64 r.2.1, i64 r.2.2.1, bl r.2.2.2]⟩)])) := fun a r h => hs a r h ()
  intro _
  obtain ⟨a0, a1, a2, a3⟩ := a
  unfold Dimpl_merger_put_b at h
  refine x_call (fn := Try.f61) (c := bodyOf Try.f61) (bs0 := [(1000, ⟨true, 0, [.bad, .bad, .bad]⟩)]) Try.func61 (by kernel_rfl) (by kernel_rfl) ?_
  refine x_frk 14 [] onil h (by kernel_rfl) (fun h => ?_) (fun h => ?_)
  · replace h := Option.some.inj h; subst h
    exact x_end 5 [] [(true, 6)] onil onil (by kernel_rfl)
  · obtain ⟨v0, hv0, h⟩ := bind_some h
    refine x_frk 6 [(0, .call [] [] (bl v0) [])] (ocons (Timpl_Solid_isLeaf (Y := Y) a1 [] _ hv0) onil) h (by kernel_rfl) (fun h => ?_) (fun h => ?_)
    · obtain ⟨v1, hv1, h⟩ := bind_some h
      replace h := Option.some.inj h; subst h
      exact x_end 10 [(5, .call [] [] (.agg [bl v1.1.inn, i64 v1.1.pl.A, i64 v1.1.pl.B, i64 v1.1.pl.C, i64 v1.1.pl.D, .sl true 6 v1.1.kids.length ((eSol true).f v1.1.kids)]) [(1000, ⟨true, 0, [i64 v1.2.1, i64 v1.2.2.1, bl v1.2.2.2]⟩)])] [] (ocons (Timpl_merger_take (Y := Y) n a0 a1.inn a2 a3 _ hv1) onil) onil (by kernel_rfl)
    · obtain ⟨v2, hv2, h⟩ := bind_some h
      obtain ⟨v3, hv3, h⟩ := bind_some h
      obtain ⟨v4, hv4, h⟩ := bind_some h
      obtain ⟨v5, hv5, h⟩ := bind_some h
      obtain ⟨v6, hv6, h⟩ := bind_some h
      obtain ⟨v7, hv7, h⟩ := bind_some h
      obtain ⟨v8, hv8, h⟩ := bind_some h
      obtain ⟨v9, hv9, h⟩ := bind_some h
      replace h := Option.some.inj h; subst h
      exact x_end 44 [(3, .val (.cptr ((eSol false).c v2 ++ (eSol false).f ((a1.kids).drop (Int.toNat 0 + 1))))), (5, .call [] [] (.sl false 4 v3.length ((ePl).f v3)) []), (0, .call [] [] (.agg [bl v4.1.inn, i64 v4.1.pl.A, i64 v4.1.pl.B, i64 v4.1.pl.C, i64 v4.1.pl.D, .sl true 6 v4.1.kids.length ((eSol true).f v4.1.kids)]) [(1000, ⟨true, 0, [i64 v4.2.1, i64 v4.2.2.1, bl v4.2.2.2]⟩)]), (5, .val (.cptr ((eSol false).c v5 ++ (eSol false).f ((a1.kids).drop (Int.toNat 1 + 1))))), (5, .call [] [] (.agg [i64 v6.A, i64 v6.B, i64 v6.C, i64 v6.D]) []), (0, .call [] [] (.sl false 4 v7.length ((ePl).f v7)) []), (0, .call [] [] (.agg [bl v8.1.inn, i64 v8.1.pl.A, i64 v8.1.pl.B, i64 v8.1.pl.C, i64 v8.1.pl.D, .sl true 6 v8.1.kids.length ((eSol true).f v8.1.kids)]) [(1000, ⟨true, 0, [i64 v8.2.1, i64 v8.2.2.1, bl v8.2.2.2]⟩)]), (7, .call [] [] (.agg [bl v9.1.inn, i64 v9.1.pl.A, i64 v9.1.pl.B, i64 v9.1.pl.C, i64 v9.1.pl.D, .sl true 6 v9.1.kids.length ((eSol true).f v9.1.kids)]) [(1000, ⟨true, 0, [i64 v9.2.1, i64 v9.2.2.1, bl v9.2.2.2]⟩)])] [] (ocons (ix (eSol false) hv2) (ocons (shSl (L := v3) ePl ePl sPl (Timpl_with (Y := Y) a3 a1.pl _ hv3)) (ocons (hself (a0, v2, a2, v3) _ hv4) (ocons (ix (eSol false) hv5) (ocons (Timpl_flip (Y := Y) a1.pl _ hv6) (ocons (shSl (L := v7) ePl ePl sPl (Timpl_with (Y := Y) a3 v6 _ hv7)) (ocons (hself (v4.2, v5, a2, v7) _ hv8) (ocons (Timpl_merger_joino2o3 (Y := Y) v8.2 a1.pl v4.1 v8.1 _ hv9) onil)))))))) onil (by kernel_rfl)
theorem Timpl_merger_put {Y} (n : Nat) (a0 : (Int × Int × Bool)) (a1 : Sol) (a2 : Sol) (a3 : (List Pl)) (r : (Sol × (Int × Int × Bool))) (h : Dimpl_merger_put n a0 a1 a2 a3 = some r) : Big Try.prog H Y (.call 61 [.ptr 1000 0, .agg [bl a1.inn, i64 a1.pl.A, i64 a1.pl.B, i64 a1.pl.C, i64 a1.pl.D, .sl false 6 a1.kids.length ((eSol false).f a1.kids)], .agg [bl a2.inn, i64 a2.pl.A, i64 a2.pl.B, i64 a2.pl.C, i64 a2.pl.D, .sl false 6 a2.kids.length ((eSol false).f a2.kids)], .sl false 4 a3.length ((ePl).f a3)] (lk [(1000, ⟨true, 0, [i64 a0.1, i64 a0.2.1, bl a0.2.2]⟩)]) (.agg [bl r.1.inn, i64 r.1.pl.A, i64 r.1.pl.B, i64 r.1.pl.C, i64 r.1.pl.D, .sl true 6 r.1.kids.length ((eSol true).f r.1.kids)]) (lk [(1000, ⟨true, 0, [i64 r.2.1, i64 r.2.2.1, bl r.2.2.2]⟩)])) := Timpl_merger_put_b n n (a0, a1, a2, a3) r h ()
/-! impl.put -/
def Dimpl_put (n : Nat) (a0 : Sol) (a1 : Sol) (a2 : Int) : Option (Sol × Bool) :=
  (Dimpl_merger_put n (a2, 0, false) a0 a1 []).bind fun v0 => frk v0.2.2.2 ((Dimpl_Leaf false).bind fun v1 => some (v1, false)) (some (v0.1, true))
theorem Timpl_put {Y} (n : Nat) (a0 : Sol) (a1 : Sol) (a2 : Int) (r : (Sol × Bool)) (h : Dimpl_put n a0 a1 a2 = some r) : Big Try.prog H Y (.call 29 [.agg [bl a0.inn, i64 a0.pl.A, i64 a0.pl.B, i64 a0.pl.C, i64 a0.pl.D, .sl false 6 a0.kids.length ((eSol false).f a0.kids)], .agg [bl a1.inn, i64 a1.pl.A, i64 a1.pl.B, i64 a1.pl.C, i64 a1.pl.D, .sl false 6 a1.kids.length ((eSol false).f a1.kids)], i64 a2] (lk []) (.tup [.agg [bl r.1.inn, i64 r.1.pl.A, i64 r.1.pl.B, i64 r.1.pl.C, i64 r.1.pl.D, .sl true 6 r.1.kids.length ((eSol true).f r.1.kids)], bl r.2]) (lk [])) := by
  unfold Dimpl_put at h
  refine x_call (fn := Try.f29) (c := bodyOf Try.f29) (bs0 := []) Try.func29 (by kernel_rfl) (by kernel_rfl) ?_
  obtain ⟨v0, hv0, h⟩ := bind_some h
  refine x_frk 28 [(10, .call [(false, 4)] [] (.agg [bl v0.1.inn, i64 v0.1.pl.A, i64 v0.1.pl.B, i64 v0.1.pl.C, i64 v0.1.pl.D, .sl true 6 v0.1.kids.length ((eSol true).f v0.1.kids)]) [(1000, ⟨true, 0, [i64 v0.2.1, i64 v0.2.2.1, bl v0.2.2.2]⟩)])] (ocons (Timpl_merger_put (Y := Y) n (a2, 0, false) a0 a1 [] _ hv0) onil) h (by kernel_rfl) (fun h => ?_) (fun h => ?_)
  · obtain ⟨v1, hv1, h⟩ := bind_some h
    replace h := Option.some.inj h; subst h
    exact x_end 6 [(0, .call [] [] (.agg [bl v1.inn, i64 v1.pl.A, i64 v1.pl.B, i64 v1.pl.C, i64 v1.pl.D, .sl true 6 v1.kids.length ((eSol true).f v1.kids)]) [])] [] (ocons (Timpl_Leaf (Y := Y) false _ hv1) onil) onil (by kernel_rfl)
  · replace h := Option.some.inj h; subst h
    exact x_end 7 [] [] onil onil (by kernel_rfl)
/-! impl.Solid] -/
def Dslices_EqualFuncfimpl_SameTree_in_0 (_n : Nat) (self1 : (Sol × Sol) → Option Bool) (t1 t15 : List Sol) (t16 : Int) (rec0 : Int → Option Bool) (a : Int) : Option Bool :=
  match a with
  | t17 => frk (decide (t17 < t16)) ((lget t15 t17).bind fun v0 => (lget t1 t17).bind fun v1 => (self1 (v0, v1)).bind fun v2 => frk (!v2) (some false) (rec0 (w64 (t17 + 1)))) (some true)
theorem Tslices_EqualFuncfimpl_SameTree_in_0 {Y} (n : Nat) (self1 : (Sol × Sol) → Option Bool) (hself1 : ∀ (a : (Sol × Sol)) (r : Bool), self1 a = some r → Big Try.prog H Y (.call 64 [.agg [bl a.1.inn, i64 a.1.pl.A, i64 a.1.pl.B, i64 a.1.pl.C, i64 a.1.pl.D, .sl false 6 a.1.kids.length ((eSol false).f a.1.kids)], .agg [bl a.2.inn, i64 a.2.pl.A, i64 a.2.pl.B, i64 a.2.pl.C, i64 a.2.pl.D, .sl false 6 a.2.kids.length ((eSol false).f a.2.kids)]] (lk []) (bl r) (lk []))) (t1 t15 : List Sol) (t16 : Int) : ∀ (m : Nat) (a : Int) (r : Bool), loopN (Dslices_EqualFuncfimpl_SameTree_in_0 n self1 t1 t15 t16) m a = some r → Wk Try.prog H Y 89 [.code (cp [1, 1, 0, 1, 0] (bodyOf Try.f89)), .blk 0, .code (cp [1, 1, 1] (bodyOf Try.f89))] (FinX Try.prog Try.f89 [] (bl r) []) ⟨[(1, .sl false 6 t1.length ((eSol false).f t1)), (2, .lit (.func (.func 64) #[] #[])), (15, .sl false 6 t15.length ((eSol false).f t15)), (16, i64 t16), (17, i64 a)], []⟩ := by
  refine loopN_ind (fun _rec0 hrec0 a r h => ?_)
  obtain ⟨t17, rfl⟩ : ∃ x, x = a := ⟨a, rfl⟩
  unfold Dslices_EqualFuncfimpl_SameTree_in_0 at h
  refine x_frk 6 [] onil h (by kernel_rfl) (fun h => ?_) (fun h => ?_)
  · obtain ⟨v0, hv0, h⟩ := bind_some h
    obtain ⟨v1, hv1, h⟩ := bind_some h
    obtain ⟨v2, hv2, h⟩ := bind_some h
    refine x_frk 29 [(1, .val (.cptr ((eSol false).c v0 ++ (eSol false).f ((t15).drop (Int.toNat t17 + 1))))), (6, .val (.cptr ((eSol false).c v1 ++ (eSol false).f ((t1).drop (Int.toNat t17 + 1))))), (6, .call [] [] (bl v2) [])] (ocons (ix (eSol false) hv0) (ocons (ix (eSol false) hv1) (ocons (hself1 (v0, v1) _ hv2) onil))) h (by kernel_rfl) (fun h => ?_) (fun h => ?_)
    · replace h := Option.some.inj h; subst h
      exact x_end 4 [] [] onil onil (by kernel_rfl)
    · exact x_to 7 [] onil (hrec0 (w64 (t17 + 1)) r h) (by kernel_rfl)
  · replace h := Option.some.inj h; subst h
    exact x_end 5 [] [] onil onil (by kernel_rfl)
def Dslices_EqualFuncfimpl_SameTree_in (n : Nat) (self1 : (Sol × Sol) → Option Bool) (a0 : (List Sol)) (a1 : (List Sol)) : Option Bool :=
  frk ((a0.length : Int) != (a1.length : Int)) (some false) (loopN (Dslices_EqualFuncfimpl_SameTree_in_0 n self1 a1 a0 (a0.length : Int)) n 0)
theorem Tslices_EqualFuncfimpl_SameTree_in {Y} (n : Nat) (self1 : (Sol × Sol) → Option Bool) (hself1 : ∀ (a : (Sol × Sol)) (r : Bool), self1 a = some r → Big Try.prog H Y (.call 64 [.agg [bl a.1.inn, i64 a.1.pl.A, i64 a.1.pl.B, i64 a.1.pl.C, i64 a.1.pl.D, .sl false 6 a.1.kids.length ((eSol false).f a.1.kids)], .agg [bl a.2.inn, i64 a.2.pl.A, i64 a.2.pl.B, i64 a.2.pl.C, i64 a.2.pl.D, .sl false 6 a.2.kids.length ((eSol false).f a.2.kids)]] (lk []) (bl r) (lk []))) (a0 : (List Sol)) (a1 : (List Sol)) (r : Bool) (h : Dslices_EqualFuncfimpl_SameTree_in n self1 a0 a1 = some r) : Big Try.prog H Y (.call 89 [.sl false 6 a0.length ((eSol false).f a0), .sl false 6 a1.length ((eSol false).f a1), .lit (.func (.func 64) #[] #[])] (lk []) (bl r) (lk [])) := by
  unfold Dslices_EqualFuncfimpl_SameTree_in at h
  refine x_call (fn := Try.f89) (c := bodyOf Try.f89) (bs0 := []) Try.func89 (by kernel_rfl) (by kernel_rfl) ?_
  refine x_frk 13 [] onil h (by kernel_rfl) (fun h => ?_) (fun h => ?_)
  · replace h := Option.some.inj h; subst h
    exact x_end 4 [] [] onil onil (by kernel_rfl)
  · exact x_to 9 [] onil (Tslices_EqualFuncfimpl_SameTree_in_0 n self1 hself1 a1 a0 (a0.length : Int) n 0 r h) (by kernel_rfl)
/-! impl.SameTree -/
def Dimpl_SameTree_b (n : Nat) (self1 : (Sol × Sol) → Option Bool) (a : (Sol × Sol)) : Option Bool :=
  match a with
  | (a0, a1) => frk (a0.inn == a1.inn) (frk (a0.pl.A == a1.pl.A && (a0.pl.B == a1.pl.B && (a0.pl.C == a1.pl.C && (a0.pl.D == a1.pl.D && true)))) ((Dslices_EqualFuncfimpl_SameTree_in n self1 a0.kids a1.kids).bind fun v0 => some v0) (some false)) (some false)
def Dimpl_SameTree (n : Nat) (a0 : Sol) (a1 : Sol) : Option Bool := loopN (Dimpl_SameTree_b n) n (a0, a1)
theorem Timpl_SameTree_b {Y} (n : Nat) : ∀ (m : Nat) (a : (Sol × Sol)) (r : Bool), loopN (Dimpl_SameTree_b n) m a = some r → ∀ (_ : Unit), Big Try.prog H Y (.call 64 [.agg [bl a.1.inn, i64 a.1.pl.A, i64 a.1.pl.B, i64 a.1.pl.C, i64 a.1.pl.D, .sl false 6 a.1.kids.length ((eSol false).f a.1.kids)], .agg [bl a.2.inn, i64 a.2.pl.A, i64 a.2.pl.B, i64 a.2.pl.C, i64 a.2.pl.D, .sl false 6 a.2.kids.length ((eSol false).f a.2.kids)]] (lk []) (bl r) (lk [])) := by
  refine loopN_ind (fun self1 hs a r h => ?_)
  have hself1 : ∀ (a : (Sol × Sol)) (r : Bool), self1 a = some r → Big Try.prog H Y (.call 64 [.agg [bl a.1.inn, i64 a.1.pl.A, i64 a.1.pl.B, i64 a.1.pl.C, i64 a.1.pl.D, .sl false 6 a.1.kids.length ((eSol false).f a.1.kids)], .agg [bl a.2.inn, i64 a.2.pl.A, i64 a.2.pl.B, i64 a.2.pl.C, i64 a.2.pl.D, .sl false 6 a.2.kids.length ((eSol false).f a.2.kids)]] (lk []) (bl r) (lk [])) := fun a r h => hs a r h ()
  intro _
  obtain ⟨a0, a1⟩ := a
  unfold Dimpl_SameTree_b at h
  refine x_call (fn := Try.f64) (c := bodyOf Try.f64) (bs0 := []) Try.func64 (by kernel_rfl) (by kernel_rfl) ?_
  refine x_frk 14 [] onil h (by kernel_rfl) (fun h => ?_) (fun h => ?_)
  · refine x_frk 7 [] onil h (by kernel_rfl) (fun h => ?_) (fun h => ?_)
    · obtain ⟨v0, hv0, h⟩ := bind_some h
      replace h := Option.some.inj h; subst h
      exact x_end 8 [(4, .call [] [] (bl v0) [])] [] (ocons (Tslices_EqualFuncfimpl_SameTree_in (Y := Y) n self1 hself1 a0.kids a1.kids _ hv0) onil) onil (by kernel_rfl)
    · replace h := Option.some.inj h; subst h
      exact x_end 8 [] [] onil onil (by kernel_rfl)
  · replace h := Option.some.inj h; subst h
    exact x_end 15 [] [] onil onil (by kernel_rfl)
theorem Timpl_SameTree {Y} (n : Nat) (a0 : Sol) (a1 : Sol) (r : Bool) (h : Dimpl_SameTree n a0 a1 = some r) : Big Try.prog H Y (.call 64 [.agg [bl a0.inn, i64 a0.pl.A, i64 a0.pl.B, i64 a0.pl.C, i64 a0.pl.D, .sl false 6 a0.kids.length ((eSol false).f a0.kids)], .agg [bl a1.inn, i64 a1.pl.A, i64 a1.pl.B, i64 a1.pl.C, i64 a1.pl.D, .sl false 6 a1.kids.length ((eSol false).f a1.kids)]] (lk []) (bl r) (lk [])) := Timpl_SameTree_b n n (a0, a1) r h ()
/-! impl.tidy -/
def Dimpl_tidy_b (n : Nat) (self : Sol → Option Sol) (a : Sol) : Option Sol :=
  match a with
  | a0 => (Dimpl_Solid_isLeaf a0).bind fun v0 => frk v0 ((Dimpl_Leaf a0.inn).bind fun v1 => some v1) ((lget a0.kids 0).bind fun v2 => (self v2).bind fun v3 => (lget a0.kids 1).bind fun v4 => (self v4).bind fun v5 => (Dimpl_SameTree n v3 v5).bind fun v6 => frk v6 (some v3) ((Dimpl_nodeo1o2 a0.pl v3 v5).bind fun v7 => some v7))
def Dimpl_tidy (n : Nat) (a0 : Sol) : Option Sol := loopN (Dimpl_tidy_b n) n a0
theorem Timpl_tidy_b {Y} (n : Nat) : ∀ (m : Nat) (a : Sol) (r : Sol), loopN (Dimpl_tidy_b n) m a = some r → ∀ (_ : Unit), Big Try.prog H Y (.call 31 [.agg [bl a.inn, i64 a.pl.A, i64 a.pl.B, i64 a.pl.C, i64 a.pl.D, .sl false 6 a.kids.length ((eSol false).f a.kids)]] (lk []) (.agg [bl r.inn, i64 r.pl.A, i64 r.pl.B, i64 r.pl.C, i64 r.pl.D, .sl true 6 r.kids.length ((eSol true).f r.kids)]) (lk [])) := by
  refine loopN_ind (fun self hs a r h => ?_)
  have hself : ∀ (a : Sol) (r : Sol), self a = some r → Big Try.prog H Y (.call 31 [.agg [bl a.inn, i64 a.pl.A, i64 a.pl.B, i64 a.pl.C, i64 a.pl.D, .sl false 6 a.kids.length ((eSol false).f a.kids)]] (lk []) (.agg [bl r.inn, i64 r.pl.A, i64 r.pl.B, i64 r.pl.C, i64 r.pl.D, .sl true 6 r.kids.length ((eSol true).f r.kids)]) (lk [])) := fun a r h => hs a r h ()
  intro _
  obtain ⟨a0, rfl⟩ : ∃ x, x = a := ⟨a, rfl⟩
  unfold Dimpl_tidy_b at h
  refine x_call (fn := Try.f31) (c := bodyOf Try.f31) (bs0 := []) Try.func31 (by kernel_rfl) (by kernel_rfl) ?_
  obtain ⟨v0, hv0, h⟩ := bind_some h
  refine x_frk 10 [(2, .call [] [] (bl v0) [])] (ocons (Timpl_Solid_isLeaf (Y := Y) a0 [] _ hv0) onil) h (by kernel_rfl) (fun h => ?_) (fun h => ?_)
  · obtain ⟨v1, hv1, h⟩ := bind_some h
    replace h := Option.some.inj h; subst h
    exact x_end 7 [(2, .call [] [] (.agg [bl v1.inn, i64 v1.pl.A, i64 v1.pl.B, i64 v1.pl.C, i64 v1.pl.D, .sl true 6 v1.kids.length ((eSol true).f v1.kids)]) [])] [] (ocons (Timpl_Leaf (Y := Y) a0.inn _ hv1) onil) onil (by kernel_rfl)
  · obtain ⟨v2, hv2, h⟩ := bind_some h
    obtain ⟨v3, hv3, h⟩ := bind_some h
    obtain ⟨v4, hv4, h⟩ := bind_some h
    obtain ⟨v5, hv5, h⟩ := bind_some h
    obtain ⟨v6, hv6, h⟩ := bind_some h
    refine x_frk 25 [(2, .val (.cptr ((eSol false).c v2 ++ (eSol false).f ((a0.kids).drop (Int.toNat 0 + 1))))), (1, .call [] [] (.agg [bl v3.inn, i64 v3.pl.A, i64 v3.pl.B, i64 v3.pl.C, i64 v3.pl.D, .sl true 6 v3.kids.length ((eSol true).f v3.kids)]) []), (2, .val (.cptr ((eSol false).c v4 ++ (eSol false).f ((a0.kids).drop (Int.toNat 1 + 1))))), (1, .call [] [] (.agg [bl v5.inn, i64 v5.pl.A, i64 v5.pl.B, i64 v5.pl.C, i64 v5.pl.D, .sl true 6 v5.kids.length ((eSol true).f v5.kids)]) []), (4, .rows [(eSol false).f v3.kids]), (0, .rows [(eSol false).f v5.kids]), (0, .call [] [] (bl v6) [])] (ocons (ix (eSol false) hv2) (ocons (hself v2 _ hv3) (ocons (ix (eSol false) hv4) (ocons (hself v4 _ hv5) (ocons (Enc.share (eSol true) (eSol false) (sSol true) v3.kids) (ocons (Enc.share (eSol true) (eSol false) (sSol true) v5.kids) (ocons (Timpl_SameTree (Y := Y) n v3 v5 _ hv6) onil))))))) h (by kernel_rfl) (fun h => ?_) (fun h => ?_)
    · replace h := Option.some.inj h; subst h
      exact x_end 5 [] [] onil onil (by kernel_rfl)
    · obtain ⟨v7, hv7, h⟩ := bind_some h
      replace h := Option.some.inj h; subst h
      exact x_end 10 [(4, .call [] [] (.agg [bl v7.inn, i64 v7.pl.A, i64 v7.pl.B, i64 v7.pl.C, i64 v7.pl.D, .sl true 6 v7.kids.length ((eSol true).f v7.kids)]) [])] [] (ocons (Timpl_nodeo1o2 (Y := Y) a0.pl v3 v5 _ hv7) onil) onil (by kernel_rfl)
theorem Timpl_tidy {Y} (n : Nat) (a0 : Sol) (r : Sol) (h : Dimpl_tidy n a0 = some r) : Big Try.prog H Y (.call 31 [.agg [bl a0.inn, i64 a0.pl.A, i64 a0.pl.B, i64 a0.pl.C, i64 a0.pl.D, .sl false 6 a0.kids.length ((eSol false).f a0.kids)]] (lk []) (.agg [bl r.inn, i64 r.pl.A, i64 r.pl.B, i64 r.pl.C, i64 r.pl.D, .sl true 6 r.kids.length ((eSol true).f r.kids)]) (lk [])) := Timpl_tidy_b n n a0 r h ()
/-! impl.Again -/
def Dimpl_Again_0 (n : Nat) (t15 : Int) (_b2_0 : Bool) (_b2_1 _b2_2 _b2_3 _b2_4 : Int) (l14 : List (List Pl)) (rec0 : (Int × Bool × Int × Int × Int × Int × List Sol) → Option (Sol × Bool)) (a : (Int × Bool × Int × Int × Int × Int × List Sol)) : Option (Sol × Bool) :=
  match a with
  | (t16, b4_0, b4_1, b4_2, b4_3, b4_4, b4_5) => frk (decide (t16 < t15)) ((lget l14 t16).bind fun v4 => (Dimpl_convex n v4).bind fun v5 => (Dimpl_put n (Sol.mk b4_0 (Pl.mk b4_1 b4_2 b4_3 b4_4) b4_5) v5 2).bind fun v6 => frk (!v6.2) ((Dimpl_Leaf false).bind fun v7 => some (v7, false)) ((Dimpl_tidy n v6.1).bind fun v8 => rec0 (w64 (t16 + 1), v8.inn, v8.pl.A, v8.pl.B, v8.pl.C, v8.pl.D, v8.kids))) (some ((Sol.mk b4_0 (Pl.mk b4_1 b4_2 b4_3 b4_4) b4_5), true))
theorem Timpl_Again_0 {Y} (n : Nat) (t15 : Int) (b2_0 : Bool) (b2_1 b2_2 b2_3 b2_4 : Int) (l14 : List (List Pl)) : ∀ (m : Nat) (a : (Int × Bool × Int × Int × Int × Int × List Sol)) (r : (Sol × Bool)), loopN (Dimpl_Again_0 n t15 b2_0 b2_1 b2_2 b2_3 b2_4 l14) m a = some r → Wk Try.prog H Y 8 [.code (cp [1, 1, 1, 0, 1, 0] (bodyOf Try.f8)), .blk 0, .code (cp [1, 1, 1, 1] (bodyOf Try.f8))] (FinX Try.prog Try.f8 [] (.tup [.agg [bl r.1.inn, i64 r.1.pl.A, i64 r.1.pl.B, i64 r.1.pl.C, i64 r.1.pl.D, .sl true 6 r.1.kids.length ((eSol true).f r.1.kids)], bl r.2]) []) ⟨[(2, .ptr 2 0), (4, .ptr 4 0), (14, .msl 14 l14.length), (15, i64 t15), (16, i64 a.1)], [(2, ⟨true, 0, [bl b2_0, i64 b2_1, i64 b2_2, i64 b2_3, i64 b2_4, .nil]⟩), (4, ⟨true, 0, [bl a.2.1, i64 a.2.2.1, i64 a.2.2.2.1, i64 a.2.2.2.2.1, i64 a.2.2.2.2.2.1, .sl true 6 a.2.2.2.2.2.2.length ((eSol true).f a.2.2.2.2.2.2)]⟩), (14, ⟨false, 1, (ePls true).f l14⟩)]⟩ := by
  refine loopN_ind (fun _rec0 hrec0 a r h => ?_)
  obtain ⟨t16, b4_0, b4_1, b4_2, b4_3, b4_4, b4_5⟩ := a
  unfold Dimpl_Again_0 at h
  refine x_frk 6 [] onil h (by kernel_rfl) (fun h => ?_) (fun h => ?_)
  · obtain ⟨v4, hv4, h⟩ := bind_some h
    obtain ⟨v5, hv5, h⟩ := bind_some h
    obtain ⟨v6, hv6, h⟩ := bind_some h
    refine x_frk 29 [(0, .unit), (0, .val (.sl true 4 v4.length ((ePl).f v4))), (0, .fix 19 (.sl false 4 v4.length ((ePl).f v4))), (1, .rows [(eSol false).f b4_5]), (1, .call [] [] (.agg [bl v5.inn, i64 v5.pl.A, i64 v5.pl.B, i64 v5.pl.C, i64 v5.pl.D, .sl true 6 v5.kids.length ((eSol true).f v5.kids)]) []), (0, .call [] [(eSol false).f v5.kids] (.tup [.agg [bl v6.1.inn, i64 v6.1.pl.A, i64 v6.1.pl.B, i64 v6.1.pl.C, i64 v6.1.pl.D, .sl true 6 v6.1.kids.length ((eSol true).f v6.1.kids)], bl v6.2]) [])] (ocons (inr hv4) (ocons (ld1 (ePls true) hv4 0 rfl) (ocons (congrArg (AV.sl false 4 v4.length) (Enc.share ePl ePl sPl v4)) (ocons (Enc.share (eSol true) (eSol false) (sSol true) b4_5) (ocons (Timpl_convex (Y := Y) n v4 _ hv5) (ocons (Timpl_put (Y := Y) n (Sol.mk b4_0 (Pl.mk b4_1 b4_2 b4_3 b4_4) b4_5) v5 2 _ hv6) (ocons (Enc.share (eSol true) (eSol false) (sSol true) v5.kids) onil))))))) h (by kernel_rfl) (fun h => ?_) (fun h => ?_)
    · obtain ⟨v7, hv7, h⟩ := bind_some h
      replace h := Option.some.inj h; subst h
      exact x_end 6 [(0, .call [] [] (.agg [bl v7.inn, i64 v7.pl.A, i64 v7.pl.B, i64 v7.pl.C, i64 v7.pl.D, .sl true 6 v7.kids.length ((eSol true).f v7.kids)]) [])] [] (ocons (Timpl_Leaf (Y := Y) false _ hv7) onil) onil (by kernel_rfl)
    · obtain ⟨v8, hv8, h⟩ := bind_some h
      exact x_to 12 [(0, .rows [(eSol false).f v6.1.kids]), (0, .call [] [] (.agg [bl v8.inn, i64 v8.pl.A, i64 v8.pl.B, i64 v8.pl.C, i64 v8.pl.D, .sl true 6 v8.kids.length ((eSol true).f v8.kids)]) [])] (ocons (Enc.share (eSol true) (eSol false) (sSol true) v6.1.kids) (ocons (Timpl_tidy (Y := Y) n v6.1 _ hv8) onil)) (hrec0 (w64 (t16 + 1), v8.inn, v8.pl.A, v8.pl.B, v8.pl.C, v8.pl.D, v8.kids) r h) (by kernel_rfl)
  · replace h := Option.some.inj h; subst h
    exact x_end 7 [] [] onil onil (by kernel_rfl)
def Dimpl_Again (n : Nat) (a0 : Sol) : Option (Sol × Bool) :=
  (Dimpl_SolidOk n a0).bind fun v0 => frk (!v0) ((Dimpl_Leaf false).bind fun v1 => some (v1, false)) ((Dimpl_Leaf false).bind fun v2 => (Dimpl_Solid_cells n a0 true []).bind fun v3 => loopN (Dimpl_Again_0 n (v3.length : Int) false 0 0 0 0 v3) n (0, v2.inn, v2.pl.A, v2.pl.B, v2.pl.C, v2.pl.D, v2.kids))
theorem Timpl_Again {Y} (n : Nat) (a0 : Sol) (r : (Sol × Bool)) (h : Dimpl_Again n a0 = some r) : Big Try.prog H Y (.call 8 [.agg [bl a0.inn, i64 a0.pl.A, i64 a0.pl.B, i64 a0.pl.C, i64 a0.pl.D, .sl false 6 a0.kids.length ((eSol false).f a0.kids)]] (lk []) (.tup [.agg [bl r.1.inn, i64 r.1.pl.A, i64 r.1.pl.B, i64 r.1.pl.C, i64 r.1.pl.D, .sl true 6 r.1.kids.length ((eSol true).f r.1.kids)], bl r.2]) (lk [])) := by
  unfold Dimpl_Again at h
  refine x_call (fn := Try.f8) (c := bodyOf Try.f8) (bs0 := []) Try.func8 (by kernel_rfl) (by kernel_rfl) ?_
  obtain ⟨v0, hv0, h⟩ := bind_some h
  refine x_frk 13 [(4, .call [] [] (bl v0) [])] (ocons (Timpl_SolidOk (Y := Y) n a0 _ hv0) onil) h (by kernel_rfl) (fun h => ?_) (fun h => ?_)
  · obtain ⟨v1, hv1, h⟩ := bind_some h
    replace h := Option.some.inj h; subst h
    exact x_end 6 [(0, .call [] [] (.agg [bl v1.inn, i64 v1.pl.A, i64 v1.pl.B, i64 v1.pl.C, i64 v1.pl.D, .sl true 6 v1.kids.length ((eSol true).f v1.kids)]) [])] [] (ocons (Timpl_Leaf (Y := Y) false _ hv1) onil) onil (by kernel_rfl)
  · obtain ⟨v2, hv2, h⟩ := bind_some h
    obtain ⟨v3, hv3, h⟩ := bind_some h
    exact x_to 15 [(0, .call [] [] (.agg [bl v2.inn, i64 v2.pl.A, i64 v2.pl.B, i64 v2.pl.C, i64 v2.pl.D, .sl true 6 v2.kids.length ((eSol true).f v2.kids)]) []), (2, .call [(false, 4)] [] (.sl true 1 v3.length ((ePls true).f v3)) [])] (ocons (Timpl_Leaf (Y := Y) false _ hv2) (ocons (Timpl_Solid_cells (Y := Y) n a0 true [] [] _ hv3) (ocons (show hasSh (.sl true 1 v3.length ((ePls true).f v3)) = false by simp [hasSh, hasShL, nSh, nShI, nShB, nShP, nShT, nShN, nShPs]) onil))) (Timpl_Again_0 n (v3.length : Int) false 0 0 0 0 v3 n (0, v2.inn, v2.pl.A, v2.pl.B, v2.pl.C, v2.pl.D, v2.kids) r h) (by kernel_rfl)
/-! laws.eqPlane -/
def Dlaws_eqPlane (a0 : Pl) (a1 : Pl) : Option Bool :=
  frk (a0.A != a1.A) (some false) (frk (a0.B != a1.B) (some false) (frk (a0.C != a1.C) (some false) (frk (a0.D != a1.D) (some false) (some true))))
theorem Tlaws_eqPlane {Y} (a0 : Pl) (a1 : Pl) (r : Bool) (h : Dlaws_eqPlane a0 a1 = some r) : Big Try.prog H Y (.call 32 [.agg [i64 a0.A, i64 a0.B, i64 a0.C, i64 a0.D], .agg [i64 a1.A, i64 a1.B, i64 a1.C, i64 a1.D]] (lk []) (bl r) (lk [])) := by
  unfold Dlaws_eqPlane at h
  refine x_call (fn := Try.f32) (c := bodyOf Try.f32) (bs0 := []) Try.func32 (by kernel_rfl) (by kernel_rfl) ?_
  refine x_frk 15 [] onil h (by kernel_rfl) (fun h => ?_) (fun h => ?_)
  · replace h := Option.some.inj h; subst h
    exact x_end 4 [] [] onil onil (by kernel_rfl)
  · refine x_frk 10 [] onil h (by kernel_rfl) (fun h => ?_) (fun h => ?_)
    · replace h := Option.some.inj h; subst h
      exact x_end 4 [] [] onil onil (by kernel_rfl)
    · refine x_frk 10 [] onil h (by kernel_rfl) (fun h => ?_) (fun h => ?_)
      · replace h := Option.some.inj h; subst h
        exact x_end 4 [] [] onil onil (by kernel_rfl)
      · refine x_frk 10 [] onil h (by kernel_rfl) (fun h => ?_) (fun h => ?_)
        · replace h := Option.some.inj h; subst h
          exact x_end 4 [] [] onil onil (by kernel_rfl)
        · replace h := Option.some.inj h; subst h
          exact x_end 5 [] [] onil onil (by kernel_rfl)
/-! laws.eqSolidS -/
def Dlaws_eqSolidS_in_0 (_n : Nat) (self : (Sol × Sol) → Option Bool) (t0 t1 : List Sol) (rec0 : Int → Option Bool) (a : Int) : Option Bool :=
  match a with
  | t5 => frk (decide (t5 < (t0.length : Int))) ((lget t0 t5).bind fun v0 => (lget t1 t5).bind fun v1 => (self (v0, v1)).bind fun v2 => frk (!v2) (some false) (rec0 (w64 (t5 + 1)))) (some true)
theorem Tlaws_eqSolidS_in_0 {Y} (n : Nat) (self : (Sol × Sol) → Option Bool) (hself : ∀ (a : (Sol × Sol)) (r : Bool), self a = some r → Big Try.prog H Y (.call 9 [.agg [bl a.1.inn, i64 a.1.pl.A, i64 a.1.pl.B, i64 a.1.pl.C, i64 a.1.pl.D, .sl false 6 a.1.kids.length ((eSol false).f a.1.kids)], .agg [bl a.2.inn, i64 a.2.pl.A, i64 a.2.pl.B, i64 a.2.pl.C, i64 a.2.pl.D, .sl false 6 a.2.kids.length ((eSol false).f a.2.kids)]] (lk []) (bl r) (lk []))) (t0 t1 : List Sol) : ∀ (m : Nat) (a : Int) (r : Bool), loopN (Dlaws_eqSolidS_in_0 n self t0 t1) m a = some r → Wk Try.prog H Y 33 [.code (cp [1, 1, 0, 1, 0] (bodyOf Try.f33)), .blk 0, .code (cp [1, 1, 1] (bodyOf Try.f33))] (FinX Try.prog Try.f33 [] (bl r) []) ⟨[(0, .sl false 6 t0.length ((eSol false).f t0)), (1, .sl false 6 t1.length ((eSol false).f t1)), (5, i64 a)], []⟩ := by
  refine loopN_ind (fun _rec0 hrec0 a r h => ?_)
  obtain ⟨t5, rfl⟩ : ∃ x, x = a := ⟨a, rfl⟩
  unfold Dlaws_eqSolidS_in_0 at h
  refine x_frk 9 [] onil h (by kernel_rfl) (fun h => ?_) (fun h => ?_)
  · obtain ⟨v0, hv0, h⟩ := bind_some h
    obtain ⟨v1, hv1, h⟩ := bind_some h
    obtain ⟨v2, hv2, h⟩ := bind_some h
    refine x_frk 16 [(2, .val (.cptr ((eSol false).c v0 ++ (eSol false).f ((t0).drop (Int.toNat t5 + 1))))), (3, .val (.cptr ((eSol false).c v1 ++ (eSol false).f ((t1).drop (Int.toNat t5 + 1))))), (1, .call [] [] (bl v2) [])] (ocons (ix (eSol false) hv0) (ocons (ix (eSol false) hv1) (ocons (hself (v0, v1) _ hv2) onil))) h (by kernel_rfl) (fun h => ?_) (fun h => ?_)
    · replace h := Option.some.inj h; subst h
      exact x_end 4 [] [] onil onil (by kernel_rfl)
    · exact x_to 8 [] onil (hrec0 (w64 (t5 + 1)) r h) (by kernel_rfl)
  · replace h := Option.some.inj h; subst h
    exact x_end 5 [] [] onil onil (by kernel_rfl)
def Dlaws_eqSolidS_in (n : Nat) (self : (Sol × Sol) → Option Bool) (a0 : (List Sol)) (a1 : (List Sol)) : Option Bool :=
  frk ((a0.length : Int) != (a1.length : Int)) (some false) (loopN (Dlaws_eqSolidS_in_0 n self a0 a1) n 0)
theorem Tlaws_eqSolidS_in {Y} (n : Nat) (self : (Sol × Sol) → Option Bool) (hself : ∀ (a : (Sol × Sol)) (r : Bool), self a = some r → Big Try.prog H Y (.call 9 [.agg [bl a.1.inn, i64 a.1.pl.A, i64 a.1.pl.B, i64 a.1.pl.C, i64 a.1.pl.D, .sl false 6 a.1.kids.length ((eSol false).f a.1.kids)], .agg [bl a.2.inn, i64 a.2.pl.A, i64 a.2.pl.B, i64 a.2.pl.C, i64 a.2.pl.D, .sl false 6 a.2.kids.length ((eSol false).f a.2.kids)]] (lk []) (bl r) (lk []))) (a0 : (List Sol)) (a1 : (List Sol)) (r : Bool) (h : Dlaws_eqSolidS_in n self a0 a1 = some r) : Big Try.prog H Y (.call 33 [.sl false 6 a0.length ((eSol false).f a0), .sl false 6 a1.length ((eSol false).f a1)] (lk []) (bl r) (lk [])) := by
  unfold Dlaws_eqSolidS_in at h
  refine x_call (fn := Try.f33) (c := bodyOf Try.f33) (bs0 := []) Try.func33 (by kernel_rfl) (by kernel_rfl) ?_
  refine x_frk 13 [] onil h (by kernel_rfl) (fun h => ?_) (fun h => ?_)
  · replace h := Option.some.inj h; subst h
    exact x_end 4 [] [] onil onil (by kernel_rfl)
  · exact x_to 7 [] onil (Tlaws_eqSolidS_in_0 n self hself a0 a1 n 0 r h) (by kernel_rfl)
/-! laws.eqSolid -/
def Dlaws_eqSolid_b (n : Nat) (self : (Sol × Sol) → Option Bool) (a : (Sol × Sol)) : Option Bool :=
  match a with
  | (a0, a1) => frk (!(a0.inn == a1.inn)) (some false) ((Dlaws_eqPlane a0.pl a1.pl).bind fun v0 => frk (!v0) (some false) ((Dlaws_eqSolidS_in n self a0.kids a1.kids).bind fun v1 => frk (!v1) (some false) (some true)))
def Dlaws_eqSolid (n : Nat) (a0 : Sol) (a1 : Sol) : Option Bool := loopN (Dlaws_eqSolid_b n) n (a0, a1)
theorem Tlaws_eqSolid_b {Y} (n : Nat) : ∀ (m : Nat) (a : (Sol × Sol)) (r : Bool), loopN (Dlaws_eqSolid_b n) m a = some r → ∀ (_ : Unit), Big Try.prog H Y (.call 9 [.agg [bl a.1.inn, i64 a.1.pl.A, i64 a.1.pl.B, i64 a.1.pl.C, i64 a.1.pl.D, .sl false 6 a.1.kids.length ((eSol false).f a.1.kids)], .agg [bl a.2.inn, i64 a.2.pl.A, i64 a.2.pl.B, i64 a.2.pl.C, i64 a.2.pl.D, .sl false 6 a.2.kids.length ((eSol false).f a.2.kids)]] (lk []) (bl r) (lk [])) := by
  refine loopN_ind (fun self hs a r h => ?_)
  have hself : ∀ (a : (Sol × Sol)) (r : Bool), self a = some r → Big Try.prog H Y (.call 9 [.agg [bl a.1.inn, i64 a.1.pl.A, i64 a.1.pl.B, i64 a.1.pl.C, i64 a.1.pl.D, .sl false 6 a.1.kids.length ((eSol false).f a.1.kids)], .agg [bl a.2.inn, i64 a.2.pl.A, i64 a.2.pl.B, i64 a.2.pl.C, i64 a.2.pl.D, .sl false 6 a.2.kids.length ((eSol false).f a.2.kids)]] (lk []) (bl r) (lk [])) := fun a r h => hs a r h ()
  intro _
  obtain ⟨a0, a1⟩ := a
  unfold Dlaws_eqSolid_b at h
  refine x_call (fn := Try.f9) (c := bodyOf Try.f9) (bs0 := []) Try.func9 (by kernel_rfl) (by kernel_rfl) ?_
  refine x_frk 15 [] onil h (by kernel_rfl) (fun h => ?_) (fun h => ?_)
  · replace h := Option.some.inj h; subst h
    exact x_end 4 [] [] onil onil (by kernel_rfl)
  · obtain ⟨v0, hv0, h⟩ := bind_some h
    refine x_frk 11 [(4, .call [] [] (bl v0) [])] (ocons (Tlaws_eqPlane (Y := Y) a0.pl a1.pl _ hv0) onil) h (by kernel_rfl) (fun h => ?_) (fun h => ?_)
    · replace h := Option.some.inj h; subst h
      exact x_end 4 [] [] onil onil (by kernel_rfl)
    · obtain ⟨v1, hv1, h⟩ := bind_some h
      refine x_frk 11 [(4, .call [] [] (bl v1) [])] (ocons (Tlaws_eqSolidS_in (Y := Y) n self hself a0.kids a1.kids _ hv1) onil) h (by kernel_rfl) (fun h => ?_) (fun h => ?_)
      · replace h := Option.some.inj h; subst h
        exact x_end 4 [] [] onil onil (by kernel_rfl)
      · replace h := Option.some.inj h; subst h
        exact x_end 5 [] [] onil onil (by kernel_rfl)
theorem Tlaws_eqSolid {Y} (n : Nat) (a0 : Sol) (a1 : Sol) (r : Bool) (h : Dlaws_eqSolid n a0 a1 = some r) : Big Try.prog H Y (.call 9 [.agg [bl a0.inn, i64 a0.pl.A, i64 a0.pl.B, i64 a0.pl.C, i64 a0.pl.D, .sl false 6 a0.kids.length ((eSol false).f a0.kids)], .agg [bl a1.inn, i64 a1.pl.A, i64 a1.pl.B, i64 a1.pl.C, i64 a1.pl.D, .sl false 6 a1.kids.length ((eSol false).f a1.kids)]] (lk []) (bl r) (lk [])) := Tlaws_eqSolid_b n n (a0, a1) r h ()
/-! laws.markSolidS -/
def Dlaws_markSolidS_0 (_n : Nat) (self : (List Sol × Int) → Option (Int × List Sol)) (rec0 : (Int × Int × List Sol) → Option (Int × List Sol)) (t1 t5 : Int) (l1000 : List Sol) : Option (Int × List Sol) :=
  (lget l1000 t5).bind fun v5 => (self (v5.kids, t1)).bind fun v6 => rec0 (v6.1, w64 (t5 + 1), (l1000.set (Int.toNat t5) (Sol.mk v5.inn v5.pl v6.2)))
theorem Tlaws_markSolidS_0 {Y} (n : Nat) (self : (List Sol × Int) → Option (Int × List Sol)) (rec0 : (Int × Int × List Sol) → Option (Int × List Sol)) (hself : ∀ (a : (List Sol × Int)) (r : (Int × List Sol)), self a = some r → TurnP Try.prog 34 (eSol true) a r) (hrec0 : ∀ (a : (Int × Int × List Sol)) (r : (Int × List Sol)), rec0 a = some r → Wk Try.prog H Y 34 [.code (cp [1, 0, 1, 0] (bodyOf Try.f34)), .blk 0, .code (cp [1, 1] (bodyOf Try.f34))] (FinX Try.prog Try.f34 [(1000, ⟨true, 6, (eSol true).f r.2⟩)] (i64 r.1) [(1000, ⟨true, 6, (eSol true).f r.2⟩)]) ⟨[(0, .msl 1000 a.2.2.length), (1, i64 a.1), (5, i64 a.2.1)], [(1000, ⟨true, 6, (eSol true).f a.2.2⟩)]⟩) (t1 t5 : Int) (l1000 : List Sol) (r : (Int × List Sol)) (h : Dlaws_markSolidS_0 n self rec0 t1 t5 l1000 = some r) : Wk Try.prog H Y 34 [.code (cp [1, 0, 1, 0, 0, 1, 0, 0, 1, 1, 1, 1, 1, 1, 1, 1, 1, 1] (bodyOf Try.f34)), .blk 1, .code (cp [1, 0, 1, 0, 0, 1, 1] (bodyOf Try.f34)), .lp (cp [1, 0, 1, 0] (bodyOf Try.f34)), .blk 0, .code (cp [1, 1] (bodyOf Try.f34))] (FinX Try.prog Try.f34 [(1000, ⟨true, 6, (eSol true).f r.2⟩)] (i64 r.1) [(1000, ⟨true, 6, (eSol true).f r.2⟩)]) ⟨[(0, .msl 1000 l1000.length), (1, i64 t1), (5, i64 t5)], [(1000, ⟨true, 6, (eSol true).f l1000⟩)]⟩ := by
  unfold Dlaws_markSolidS_0 at h
  obtain ⟨v5, hv5, h⟩ := bind_some h
  obtain ⟨v6, hv6, h⟩ := bind_some h
  obtain ⟨hlv6, htv6⟩ := hself _ _ hv6
  refine x_nest (tL := 29) (f := 34) (dl := 57) (dk := 58) (dr := 59) (da := 1) (b := 1000) (n := l1000.length) (z := 6) (off := 5) (szf := 1) (el := 31) (bytes := 64) (tr := 0) (ti := 5) (tk := 1) (e0 := 53) (e1 := 54) (tS := 29) (e2 := 55) (tF := 31) (fld := 2) (e3 := 56) (i := t5) (cs := (eSol true).f l1000) (kk := .i64) (T := .sl true 6 v5.kids.length ((eSol true).f v5.kids)) (T' := .sl true 6 v6.2.length ((eSol true).f v6.2)) (kv := .int .i64 t1) (rv := .int .i64 v6.1) rfl (fun _ _ _ h => h) (by kernel_rfl) (by kernel_rfl) (by kernel_rfl) (by kernel_rfl) (lget_in hv5) (solGet hv5) (by simp [nlkLs, nlk, nlkL, nLk]) (by simp) rfl htv6 ?_
  rw [solSet hv5 v6.2]
  exact x_to 8 [(0, .fix 0 (.msl 1000 (l1000.set (Int.toNat t5) (Sol.mk v5.inn v5.pl v6.2)).length))] (ocons (setLen 1000 l1000 (Int.toNat t5) (Sol.mk v5.inn v5.pl v6.2)) onil) (hrec0 (v6.1, w64 (t5 + 1), (l1000.set (Int.toNat t5) (Sol.mk v5.inn v5.pl v6.2))) r h) (by kernel_rfl)
def Dlaws_markSolidS_1 (n : Nat) (self : (List Sol × Int) → Option (Int × List Sol)) (rec0 : (Int × Int × List Sol) → Option (Int × List Sol)) (a : (Int × Int × List Sol)) : Option (Int × List Sol) :=
  match a with
  | (t1, t5, l1000) => frk (decide (t5 < (l1000.length : Int))) ((lget l1000 t5).bind fun v0 => (lget (l1000.set (Int.toNat t5) (Sol.mk ((Int.tmod t1 3) == 0) v0.pl v0.kids)) t5).bind fun v1 => (lget ((l1000.set (Int.toNat t5) (Sol.mk ((Int.tmod t1 3) == 0) v0.pl v0.kids)).set (Int.toNat t5) (Sol.mk v1.inn (Pl.mk (w64 (t1 + 1)) v1.pl.B v1.pl.C v1.pl.D) v1.kids)) t5).bind fun v2 => (lget (((l1000.set (Int.toNat t5) (Sol.mk ((Int.tmod t1 3) == 0) v0.pl v0.kids)).set (Int.toNat t5) (Sol.mk v1.inn (Pl.mk (w64 (t1 + 1)) v1.pl.B v1.pl.C v1.pl.D) v1.kids)).set (Int.toNat t5) (Sol.mk v2.inn (Pl.mk v2.pl.A (w64 ((w64 (t1 + 1)) + 1)) v2.pl.C v2.pl.D) v2.kids)) t5).bind fun v3 => (lget ((((l1000.set (Int.toNat t5) (Sol.mk ((Int.tmod t1 3) == 0) v0.pl v0.kids)).set (Int.toNat t5) (Sol.mk v1.inn (Pl.mk (w64 (t1 + 1)) v1.pl.B v1.pl.C v1.pl.D) v1.kids)).set (Int.toNat t5) (Sol.mk v2.inn (Pl.mk v2.pl.A (w64 ((w64 (t1 + 1)) + 1)) v2.pl.C v2.pl.D) v2.kids)).set (Int.toNat t5) (Sol.mk v3.inn (Pl.mk v3.pl.A v3.pl.B (w64 ((w64 ((w64 (t1 + 1)) + 1)) + 1)) v3.pl.D) v3.kids)) t5).bind fun v4 => Dlaws_markSolidS_0 n self rec0 (w64 ((w64 ((w64 ((w64 ((w64 (t1 + 1)) + 1)) + 1)) + 1)) + 1)) t5 (((((l1000.set (Int.toNat t5) (Sol.mk ((Int.tmod t1 3) == 0) v0.pl v0.kids)).set (Int.toNat t5) (Sol.mk v1.inn (Pl.mk (w64 (t1 + 1)) v1.pl.B v1.pl.C v1.pl.D) v1.kids)).set (Int.toNat t5) (Sol.mk v2.inn (Pl.mk v2.pl.A (w64 ((w64 (t1 + 1)) + 1)) v2.pl.C v2.pl.D) v2.kids)).set (Int.toNat t5) (Sol.mk v3.inn (Pl.mk v3.pl.A v3.pl.B (w64 ((w64 ((w64 (t1 + 1)) + 1)) + 1)) v3.pl.D) v3.kids)).set (Int.toNat t5) (Sol.mk v4.inn (Pl.mk v4.pl.A v4.pl.B v4.pl.C (w64 ((w64 ((w64 ((w64 (t1 + 1)) + 1)) + 1)) + 1))) v4.kids))) (some (t1, l1000))
theorem Tlaws_markSolidS_1 {Y} (n : Nat) (self : (List Sol × Int) → Option (Int × List Sol)) (hself : ∀ (a : (List Sol × Int)) (r : (Int × List Sol)), self a = some r → TurnP Try.prog 34 (eSol true) a r) : ∀ (m : Nat) (a : (Int × Int × List Sol)) (r : (Int × List Sol)), loopN (Dlaws_markSolidS_1 n self) m a = some r → Wk Try.prog H Y 34 [.code (cp [1, 0, 1, 0] (bodyOf Try.f34)), .blk 0, .code (cp [1, 1] (bodyOf Try.f34))] (FinX Try.prog Try.f34 [(1000, ⟨true, 6, (eSol true).f r.2⟩)] (i64 r.1) [(1000, ⟨true, 6, (eSol true).f r.2⟩)]) ⟨[(0, .msl 1000 a.2.2.length), (1, i64 a.1), (5, i64 a.2.1)], [(1000, ⟨true, 6, (eSol true).f a.2.2⟩)]⟩ := by
  refine loopN_ind (fun rec0 hrec0 a r h => ?_)
  obtain ⟨t1, t5, l1000⟩ := a
  unfold Dlaws_markSolidS_1 at h
  refine x_frk 9 [] onil h (by kernel_rfl) (fun h => ?_) (fun h => ?_)
  · obtain ⟨v0, hv0, h⟩ := bind_some h
    obtain ⟨v1, hv1, h⟩ := bind_some h
    obtain ⟨v2, hv2, h⟩ := bind_some h
    obtain ⟨v3, hv3, h⟩ := bind_some h
    obtain ⟨v4, hv4, h⟩ := bind_some h
    exact x_to 109 [(5, .unit), (1, .cells ((eSol true).f (l1000.set (Int.toNat t5) (Sol.mk ((Int.tmod t1 3) == 0) v0.pl v0.kids)))), (0, .fix 0 (.msl 1000 (l1000.set (Int.toNat t5) (Sol.mk ((Int.tmod t1 3) == 0) v0.pl v0.kids)).length)), (0, .fix 7 (.msl 1000 (l1000.set (Int.toNat t5) (Sol.mk ((Int.tmod t1 3) == 0) v0.pl v0.kids)).length)), (0, .fix 12 (.msl 1000 (l1000.set (Int.toNat t5) (Sol.mk ((Int.tmod t1 3) == 0) v0.pl v0.kids)).length)), (6, .unit), (2, .cells ((eSol true).f ((l1000.set (Int.toNat t5) (Sol.mk ((Int.tmod t1 3) == 0) v0.pl v0.kids)).set (Int.toNat t5) (Sol.mk v1.inn (Pl.mk (w64 (t1 + 1)) v1.pl.B v1.pl.C v1.pl.D) v1.kids)))), (0, .fix 0 (.msl 1000 ((l1000.set (Int.toNat t5) (Sol.mk ((Int.tmod t1 3) == 0) v0.pl v0.kids)).set (Int.toNat t5) (Sol.mk v1.inn (Pl.mk (w64 (t1 + 1)) v1.pl.B v1.pl.C v1.pl.D) v1.kids)).length)), (0, .fix 7 (.msl 1000 ((l1000.set (Int.toNat t5) (Sol.mk ((Int.tmod t1 3) == 0) v0.pl v0.kids)).set (Int.toNat t5) (Sol.mk v1.inn (Pl.mk (w64 (t1 + 1)) v1.pl.B v1.pl.C v1.pl.D) v1.kids)).length)), (0, .fix 12 (.msl 1000 ((l1000.set (Int.toNat t5) (Sol.mk ((Int.tmod t1 3) == 0) v0.pl v0.kids)).set (Int.toNat t5) (Sol.mk v1.inn (Pl.mk (w64 (t1 + 1)) v1.pl.B v1.pl.C v1.pl.D) v1.kids)).length)), (0, .fix 21 (.msl 1000 ((l1000.set (Int.toNat t5) (Sol.mk ((Int.tmod t1 3) == 0) v0.pl v0.kids)).set (Int.toNat t5) (Sol.mk v1.inn (Pl.mk (w64 (t1 + 1)) v1.pl.B v1.pl.C v1.pl.D) v1.kids)).length)), (6, .unit), (2, .cells ((eSol true).f (((l1000.set (Int.toNat t5) (Sol.mk ((Int.tmod t1 3) == 0) v0.pl v0.kids)).set (Int.toNat t5) (Sol.mk v1.inn (Pl.mk (w64 (t1 + 1)) v1.pl.B v1.pl.C v1.pl.D) v1.kids)).set (Int.toNat t5) (Sol.mk v2.inn (Pl.mk v2.pl.A (w64 ((w64 (t1 + 1)) + 1)) v2.pl.C v2.pl.D) v2.kids)))), (0, .fix 0 (.msl 1000 (((l1000.set (Int.toNat t5) (Sol.mk ((Int.tmod t1 3) == 0) v0.pl v0.kids)).set (Int.toNat t5) (Sol.mk v1.inn (Pl.mk (w64 (t1 + 1)) v1.pl.B v1.pl.C v1.pl.D) v1.kids)).set (Int.toNat t5) (Sol.mk v2.inn (Pl.mk v2.pl.A (w64 ((w64 (t1 + 1)) + 1)) v2.pl.C v2.pl.D) v2.kids)).length)), (0, .fix 7 (.msl 1000 (((l1000.set (Int.toNat t5) (Sol.mk ((Int.tmod t1 3) == 0) v0.pl v0.kids)).set (Int.toNat t5) (Sol.mk v1.inn (Pl.mk (w64 (t1 + 1)) v1.pl.B v1.pl.C v1.pl.D) v1.kids)).set (Int.toNat t5) (Sol.mk v2.inn (Pl.mk v2.pl.A (w64 ((w64 (t1 + 1)) + 1)) v2.pl.C v2.pl.D) v2.kids)).length)), (0, .fix 12 (.msl 1000 (((l1000.set (Int.toNat t5) (Sol.mk ((Int.tmod t1 3) == 0) v0.pl v0.kids)).set (Int.toNat t5) (Sol.mk v1.inn (Pl.mk (w64 (t1 + 1)) v1.pl.B v1.pl.C v1.pl.D) v1.kids)).set (Int.toNat t5) (Sol.mk v2.inn (Pl.mk v2.pl.A (w64 ((w64 (t1 + 1)) + 1)) v2.pl.C v2.pl.D) v2.kids)).length)), (0, .fix 21 (.msl 1000 (((l1000.set (Int.toNat t5) (Sol.mk ((Int.tmod t1 3) == 0) v0.pl v0.kids)).set (Int.toNat t5) (Sol.mk v1.inn (Pl.mk (w64 (t1 + 1)) v1.pl.B v1.pl.C v1.pl.D) v1.kids)).set (Int.toNat t5) (Sol.mk v2.inn (Pl.mk v2.pl.A (w64 ((w64 (t1 + 1)) + 1)) v2.pl.C v2.pl.D) v2.kids)).length)), (0, .fix 29 (.msl 1000 (((l1000.set (Int.toNat t5) (Sol.mk ((Int.tmod t1 3) == 0) v0.pl v0.kids)).set (Int.toNat t5) (Sol.mk v1.inn (Pl.mk (w64 (t1 + 1)) v1.pl.B v1.pl.C v1.pl.D) v1.kids)).set (Int.toNat t5) (Sol.mk v2.inn (Pl.mk v2.pl.A (w64 ((w64 (t1 + 1)) + 1)) v2.pl.C v2.pl.D) v2.kids)).length)), (6, .unit), (2, .cells ((eSol true).f ((((l1000.set (Int.toNat t5) (Sol.mk ((Int.tmod t1 3) == 0) v0.pl v0.kids)).set (Int.toNat t5) (Sol.mk v1.inn (Pl.mk (w64 (t1 + 1)) v1.pl.B v1.pl.C v1.pl.D) v1.kids)).set (Int.toNat t5) (Sol.mk v2.inn (Pl.mk v2.pl.A (w64 ((w64 (t1 + 1)) + 1)) v2.pl.C v2.pl.D) v2.kids)).set (Int.toNat t5) (Sol.mk v3.inn (Pl.mk v3.pl.A v3.pl.B (w64 ((w64 ((w64 (t1 + 1)) + 1)) + 1)) v3.pl.D) v3.kids)))), (0, .fix 0 (.msl 1000 ((((l1000.set (Int.toNat t5) (Sol.mk ((Int.tmod t1 3) == 0) v0.pl v0.kids)).set (Int.toNat t5) (Sol.mk v1.inn (Pl.mk (w64 (t1 + 1)) v1.pl.B v1.pl.C v1.pl.D) v1.kids)).set (Int.toNat t5) (Sol.mk v2.inn (Pl.mk v2.pl.A (w64 ((w64 (t1 + 1)) + 1)) v2.pl.C v2.pl.D) v2.kids)).set (Int.toNat t5) (Sol.mk v3.inn (Pl.mk v3.pl.A v3.pl.B (w64 ((w64 ((w64 (t1 + 1)) + 1)) + 1)) v3.pl.D) v3.kids)).length)), (0, .fix 7 (.msl 1000 ((((l1000.set (Int.toNat t5) (Sol.mk ((Int.tmod t1 3) == 0) v0.pl v0.kids)).set (Int.toNat t5) (Sol.mk v1.inn (Pl.mk (w64 (t1 + 1)) v1.pl.B v1.pl.C v1.pl.D) v1.kids)).set (Int.toNat t5) (Sol.mk v2.inn (Pl.mk v2.pl.A (w64 ((w64 (t1 + 1)) + 1)) v2.pl.C v2.pl.D) v2.kids)).set (Int.toNat t5) (Sol.mk v3.inn (Pl.mk v3.pl.A v3.pl.B (w64 ((w64 ((w64 (t1 + 1)) + 1)) + 1)) v3.pl.D) v3.kids)).length)), (0, .fix 12 (.msl 1000 ((((l1000.set (Int.toNat t5) (Sol.mk ((Int.tmod t1 3) == 0) v0.pl v0.kids)).set (Int.toNat t5) (Sol.mk v1.inn (Pl.mk (w64 (t1 + 1)) v1.pl.B v1.pl.C v1.pl.D) v1.kids)).set (Int.toNat t5) (Sol.mk v2.inn (Pl.mk v2.pl.A (w64 ((w64 (t1 + 1)) + 1)) v2.pl.C v2.pl.D) v2.kids)).set (Int.toNat t5) (Sol.mk v3.inn (Pl.mk v3.pl.A v3.pl.B (w64 ((w64 ((w64 (t1 + 1)) + 1)) + 1)) v3.pl.D) v3.kids)).length)), (0, .fix 21 (.msl 1000 ((((l1000.set (Int.toNat t5) (Sol.mk ((Int.tmod t1 3) == 0) v0.pl v0.kids)).set (Int.toNat t5) (Sol.mk v1.inn (Pl.mk (w64 (t1 + 1)) v1.pl.B v1.pl.C v1.pl.D) v1.kids)).set (Int.toNat t5) (Sol.mk v2.inn (Pl.mk v2.pl.A (w64 ((w64 (t1 + 1)) + 1)) v2.pl.C v2.pl.D) v2.kids)).set (Int.toNat t5) (Sol.mk v3.inn (Pl.mk v3.pl.A v3.pl.B (w64 ((w64 ((w64 (t1 + 1)) + 1)) + 1)) v3.pl.D) v3.kids)).length)), (0, .fix 29 (.msl 1000 ((((l1000.set (Int.toNat t5) (Sol.mk ((Int.tmod t1 3) == 0) v0.pl v0.kids)).set (Int.toNat t5) (Sol.mk v1.inn (Pl.mk (w64 (t1 + 1)) v1.pl.B v1.pl.C v1.pl.D) v1.kids)).set (Int.toNat t5) (Sol.mk v2.inn (Pl.mk v2.pl.A (w64 ((w64 (t1 + 1)) + 1)) v2.pl.C v2.pl.D) v2.kids)).set (Int.toNat t5) (Sol.mk v3.inn (Pl.mk v3.pl.A v3.pl.B (w64 ((w64 ((w64 (t1 + 1)) + 1)) + 1)) v3.pl.D) v3.kids)).length)), (0, .fix 37 (.msl 1000 ((((l1000.set (Int.toNat t5) (Sol.mk ((Int.tmod t1 3) == 0) v0.pl v0.kids)).set (Int.toNat t5) (Sol.mk v1.inn (Pl.mk (w64 (t1 + 1)) v1.pl.B v1.pl.C v1.pl.D) v1.kids)).set (Int.toNat t5) (Sol.mk v2.inn (Pl.mk v2.pl.A (w64 ((w64 (t1 + 1)) + 1)) v2.pl.C v2.pl.D) v2.kids)).set (Int.toNat t5) (Sol.mk v3.inn (Pl.mk v3.pl.A v3.pl.B (w64 ((w64 ((w64 (t1 + 1)) + 1)) + 1)) v3.pl.D) v3.kids)).length)), (6, .unit), (2, .cells ((eSol true).f (((((l1000.set (Int.toNat t5) (Sol.mk ((Int.tmod t1 3) == 0) v0.pl v0.kids)).set (Int.toNat t5) (Sol.mk v1.inn (Pl.mk (w64 (t1 + 1)) v1.pl.B v1.pl.C v1.pl.D) v1.kids)).set (Int.toNat t5) (Sol.mk v2.inn (Pl.mk v2.pl.A (w64 ((w64 (t1 + 1)) + 1)) v2.pl.C v2.pl.D) v2.kids)).set (Int.toNat t5) (Sol.mk v3.inn (Pl.mk v3.pl.A v3.pl.B (w64 ((w64 ((w64 (t1 + 1)) + 1)) + 1)) v3.pl.D) v3.kids)).set (Int.toNat t5) (Sol.mk v4.inn (Pl.mk v4.pl.A v4.pl.B v4.pl.C (w64 ((w64 ((w64 ((w64 (t1 + 1)) + 1)) + 1)) + 1))) v4.kids)))), (0, .fix 0 (.msl 1000 (((((l1000.set (Int.toNat t5) (Sol.mk ((Int.tmod t1 3) == 0) v0.pl v0.kids)).set (Int.toNat t5) (Sol.mk v1.inn (Pl.mk (w64 (t1 + 1)) v1.pl.B v1.pl.C v1.pl.D) v1.kids)).set (Int.toNat t5) (Sol.mk v2.inn (Pl.mk v2.pl.A (w64 ((w64 (t1 + 1)) + 1)) v2.pl.C v2.pl.D) v2.kids)).set (Int.toNat t5) (Sol.mk v3.inn (Pl.mk v3.pl.A v3.pl.B (w64 ((w64 ((w64 (t1 + 1)) + 1)) + 1)) v3.pl.D) v3.kids)).set (Int.toNat t5) (Sol.mk v4.inn (Pl.mk v4.pl.A v4.pl.B v4.pl.C (w64 ((w64 ((w64 ((w64 (t1 + 1)) + 1)) + 1)) + 1))) v4.kids)).length)), (0, .fix 7 (.msl 1000 (((((l1000.set (Int.toNat t5) (Sol.mk ((Int.tmod t1 3) == 0) v0.pl v0.kids)).set (Int.toNat t5) (Sol.mk v1.inn (Pl.mk (w64 (t1 + 1)) v1.pl.B v1.pl.C v1.pl.D) v1.kids)).set (Int.toNat t5) (Sol.mk v2.inn (Pl.mk v2.pl.A (w64 ((w64 (t1 + 1)) + 1)) v2.pl.C v2.pl.D) v2.kids)).set (Int.toNat t5) (Sol.mk v3.inn (Pl.mk v3.pl.A v3.pl.B (w64 ((w64 ((w64 (t1 + 1)) + 1)) + 1)) v3.pl.D) v3.kids)).set (Int.toNat t5) (Sol.mk v4.inn (Pl.mk v4.pl.A v4.pl.B v4.pl.C (w64 ((w64 ((w64 ((w64 (t1 + 1)) + 1)) + 1)) + 1))) v4.kids)).length)), (0, .fix 12 (.msl 1000 (((((l1000.set (Int.toNat t5) (Sol.mk ((Int.tmod t1 3) == 0) v0.pl v0.kids)).set (Int.toNat t5) (Sol.mk v1.inn (Pl.mk (w64 (t1 + 1)) v1.pl.B v1.pl.C v1.pl.D) v1.kids)).set (Int.toNat t5) (Sol.mk v2.inn (Pl.mk v2.pl.A (w64 ((w64 (t1 + 1)) + 1)) v2.pl.C v2.pl.D) v2.kids)).set (Int.toNat t5) (Sol.mk v3.inn (Pl.mk v3.pl.A v3.pl.B (w64 ((w64 ((w64 (t1 + 1)) + 1)) + 1)) v3.pl.D) v3.kids)).set (Int.toNat t5) (Sol.mk v4.inn (Pl.mk v4.pl.A v4.pl.B v4.pl.C (w64 ((w64 ((w64 ((w64 (t1 + 1)) + 1)) + 1)) + 1))) v4.kids)).length)), (0, .fix 21 (.msl 1000 (((((l1000.set (Int.toNat t5) (Sol.mk ((Int.tmod t1 3) == 0) v0.pl v0.kids)).set (Int.toNat t5) (Sol.mk v1.inn (Pl.mk (w64 (t1 + 1)) v1.pl.B v1.pl.C v1.pl.D) v1.kids)).set (Int.toNat t5) (Sol.mk v2.inn (Pl.mk v2.pl.A (w64 ((w64 (t1 + 1)) + 1)) v2.pl.C v2.pl.D) v2.kids)).set (Int.toNat t5) (Sol.mk v3.inn (Pl.mk v3.pl.A v3.pl.B (w64 ((w64 ((w64 (t1 + 1)) + 1)) + 1)) v3.pl.D) v3.kids)).set (Int.toNat t5) (Sol.mk v4.inn (Pl.mk v4.pl.A v4.pl.B v4.pl.C (w64 ((w64 ((w64 ((w64 (t1 + 1)) + 1)) + 1)) + 1))) v4.kids)).length)), (0, .fix 29 (.msl 1000 (((((l1000.set (Int.toNat t5) (Sol.mk ((Int.tmod t1 3) == 0) v0.pl v0.kids)).set (Int.toNat t5) (Sol.mk v1.inn (Pl.mk (w64 (t1 + 1)) v1.pl.B v1.pl.C v1.pl.D) v1.kids)).set (Int.toNat t5) (Sol.mk v2.inn (Pl.mk v2.pl.A (w64 ((w64 (t1 + 1)) + 1)) v2.pl.C v2.pl.D) v2.kids)).set (Int.toNat t5) (Sol.mk v3.inn (Pl.mk v3.pl.A v3.pl.B (w64 ((w64 ((w64 (t1 + 1)) + 1)) + 1)) v3.pl.D) v3.kids)).set (Int.toNat t5) (Sol.mk v4.inn (Pl.mk v4.pl.A v4.pl.B v4.pl.C (w64 ((w64 ((w64 ((w64 (t1 + 1)) + 1)) + 1)) + 1))) v4.kids)).length)), (0, .fix 37 (.msl 1000 (((((l1000.set (Int.toNat t5) (Sol.mk ((Int.tmod t1 3) == 0) v0.pl v0.kids)).set (Int.toNat t5) (Sol.mk v1.inn (Pl.mk (w64 (t1 + 1)) v1.pl.B v1.pl.C v1.pl.D) v1.kids)).set (Int.toNat t5) (Sol.mk v2.inn (Pl.mk v2.pl.A (w64 ((w64 (t1 + 1)) + 1)) v2.pl.C v2.pl.D) v2.kids)).set (Int.toNat t5) (Sol.mk v3.inn (Pl.mk v3.pl.A v3.pl.B (w64 ((w64 ((w64 (t1 + 1)) + 1)) + 1)) v3.pl.D) v3.kids)).set (Int.toNat t5) (Sol.mk v4.inn (Pl.mk v4.pl.A v4.pl.B v4.pl.C (w64 ((w64 ((w64 ((w64 (t1 + 1)) + 1)) + 1)) + 1))) v4.kids)).length)), (0, .fix 45 (.msl 1000 (((((l1000.set (Int.toNat t5) (Sol.mk ((Int.tmod t1 3) == 0) v0.pl v0.kids)).set (Int.toNat t5) (Sol.mk v1.inn (Pl.mk (w64 (t1 + 1)) v1.pl.B v1.pl.C v1.pl.D) v1.kids)).set (Int.toNat t5) (Sol.mk v2.inn (Pl.mk v2.pl.A (w64 ((w64 (t1 + 1)) + 1)) v2.pl.C v2.pl.D) v2.kids)).set (Int.toNat t5) (Sol.mk v3.inn (Pl.mk v3.pl.A v3.pl.B (w64 ((w64 ((w64 (t1 + 1)) + 1)) + 1)) v3.pl.D) v3.kids)).set (Int.toNat t5) (Sol.mk v4.inn (Pl.mk v4.pl.A v4.pl.B v4.pl.C (w64 ((w64 ((w64 ((w64 (t1 + 1)) + 1)) + 1)) + 1))) v4.kids)).length))] (ocons (inr hv0) (ocons (stA (eSol true) hv0 0 1 [bl ((Int.tmod t1 3) == 0)] (Sol.mk ((Int.tmod t1 3) == 0) v0.pl v0.kids) rfl rfl) (ocons (setLen 1000 l1000 (Int.toNat t5) (Sol.mk ((Int.tmod t1 3) == 0) v0.pl v0.kids)) (ocons (setLen 1000 l1000 (Int.toNat t5) (Sol.mk ((Int.tmod t1 3) == 0) v0.pl v0.kids)) (ocons (setLen 1000 l1000 (Int.toNat t5) (Sol.mk ((Int.tmod t1 3) == 0) v0.pl v0.kids)) (ocons (inr hv1) (ocons (stA (eSol true) hv1 1 1 [i64 (w64 (t1 + 1))] (Sol.mk v1.inn (Pl.mk (w64 (t1 + 1)) v1.pl.B v1.pl.C v1.pl.D) v1.kids) rfl rfl) (ocons (setLen 1000 (l1000.set (Int.toNat t5) (Sol.mk ((Int.tmod t1 3) == 0) v0.pl v0.kids)) (Int.toNat t5) (Sol.mk v1.inn (Pl.mk (w64 (t1 + 1)) v1.pl.B v1.pl.C v1.pl.D) v1.kids)) (ocons (setLen 1000 (l1000.set (Int.toNat t5) (Sol.mk ((Int.tmod t1 3) == 0) v0.pl v0.kids)) (Int.toNat t5) (Sol.mk v1.inn (Pl.mk (w64 (t1 + 1)) v1.pl.B v1.pl.C v1.pl.D) v1.kids)) (ocons (setLen 1000 (l1000.set (Int.toNat t5) (Sol.mk ((Int.tmod t1 3) == 0) v0.pl v0.kids)) (Int.toNat t5) (Sol.mk v1.inn (Pl.mk (w64 (t1 + 1)) v1.pl.B v1.pl.C v1.pl.D) v1.kids)) (ocons (setLen 1000 (l1000.set (Int.toNat t5) (Sol.mk ((Int.tmod t1 3) == 0) v0.pl v0.kids)) (Int.toNat t5) (Sol.mk v1.inn (Pl.mk (w64 (t1 + 1)) v1.pl.B v1.pl.C v1.pl.D) v1.kids)) (ocons (inr hv2) (ocons (stA (eSol true) hv2 2 1 [i64 (w64 ((w64 (t1 + 1)) + 1))] (Sol.mk v2.inn (Pl.mk v2.pl.A (w64 ((w64 (t1 + 1)) + 1)) v2.pl.C v2.pl.D) v2.kids) rfl rfl) (ocons (setLen 1000 ((l1000.set (Int.toNat t5) (Sol.mk ((Int.tmod t1 3) == 0) v0.pl v0.kids)).set (Int.toNat t5) (Sol.mk v1.inn (Pl.mk (w64 (t1 + 1)) v1.pl.B v1.pl.C v1.pl.D) v1.kids)) (Int.toNat t5) (Sol.mk v2.inn (Pl.mk v2.pl.A (w64 ((w64 (t1 + 1)) + 1)) v2.pl.C v2.pl.D) v2.kids)) (ocons (setLen 1000 ((l1000.set (Int.toNat t5) (Sol.mk ((Int.tmod t1 3) == 0) v0.pl v0.kids)).set (Int.toNat t5) (Sol.mk v1.inn (Pl.mk (w64 (t1 + 1)) v1.pl.B v1.pl.C v1.pl.D) v1.kids)) (Int.toNat t5) (Sol.mk v2.inn (Pl.mk v2.pl.A (w64 ((w64 (t1 + 1)) + 1)) v2.pl.C v2.pl.D) v2.kids)) (ocons (setLen 1000 ((l1000.set (Int.toNat t5) (Sol.mk ((Int.tmod t1 3) == 0) v0.pl v0.kids)).set (Int.toNat t5) (Sol.mk v1.inn (Pl.mk (w64 (t1 + 1)) v1.pl.B v1.pl.C v1.pl.D) v1.kids)) (Int.toNat t5) (Sol.mk v2.inn (Pl.mk v2.pl.A (w64 ((w64 (t1 + 1)) + 1)) v2.pl.C v2.pl.D) v2.kids)) (ocons (setLen 1000 ((l1000.set (Int.toNat t5) (Sol.mk ((Int.tmod t1 3) == 0) v0.pl v0.kids)).set (Int.toNat t5) (Sol.mk v1.inn (Pl.mk (w64 (t1 + 1)) v1.pl.B v1.pl.C v1.pl.D) v1.kids)) (Int.toNat t5) (Sol.mk v2.inn (Pl.mk v2.pl.A (w64 ((w64 (t1 + 1)) + 1)) v2.pl.C v2.pl.D) v2.kids)) (ocons (setLen 1000 ((l1000.set (Int.toNat t5) (Sol.mk ((Int.tmod t1 3) == 0) v0.pl v0.kids)).set (Int.toNat t5) (Sol.mk v1.inn (Pl.mk (w64 (t1 + 1)) v1.pl.B v1.pl.C v1.pl.D) v1.kids)) (Int.toNat t5) (Sol.mk v2.inn (Pl.mk v2.pl.A (w64 ((w64 (t1 + 1)) + 1)) v2.pl.C v2.pl.D) v2.kids)) (ocons (inr hv3) (ocons (stA (eSol true) hv3 3 1 [i64 (w64 ((w64 ((w64 (t1 + 1)) + 1)) + 1))] (Sol.mk v3.inn (Pl.mk v3.pl.A v3.pl.B (w64 ((w64 ((w64 (t1 + 1)) + 1)) + 1)) v3.pl.D) v3.kids) rfl rfl) (ocons (setLen 1000 (((l1000.set (Int.toNat t5) (Sol.mk ((Int.tmod t1 3) == 0) v0.pl v0.kids)).set (Int.toNat t5) (Sol.mk v1.inn (Pl.mk (w64 (t1 + 1)) v1.pl.B v1.pl.C v1.pl.D) v1.kids)).set (Int.toNat t5) (Sol.mk v2.inn (Pl.mk v2.pl.A (w64 ((w64 (t1 + 1)) + 1)) v2.pl.C v2.pl.D) v2.kids)) (Int.toNat t5) (Sol.mk v3.inn (Pl.mk v3.pl.A v3.pl.B (w64 ((w64 ((w64 (t1 + 1)) + 1)) + 1)) v3.pl.D) v3.kids)) (ocons (setLen 1000 (((l1000.set (Int.toNat t5) (Sol.mk ((Int.tmod t1 3) == 0) v0.pl v0.kids)).set (Int.toNat t5) (Sol.mk v1.inn (Pl.mk (w64 (t1 + 1)) v1.pl.B v1.pl.C v1.pl.D) v1.kids)).set (Int.toNat t5) (Sol.mk v2.inn (Pl.mk v2.pl.A (w64 ((w64 (t1 + 1)) + 1)) v2.pl.C v2.pl.D) v2.kids)) (Int.toNat t5) (Sol.mk v3.inn (Pl.mk v3.pl.A v3.pl.B (w64 ((w64 ((w64 (t1 + 1)) + 1)) + 1)) v3.pl.D) v3.kids)) (ocons (setLen 1000 (((l1000.set (Int.toNat t5) (Sol.mk ((Int.tmod t1 3) == 0) v0.pl v0.kids)).set (Int.toNat t5) (Sol.mk v1.inn (Pl.mk (w64 (t1 + 1)) v1.pl.B v1.pl.C v1.pl.D) v1.kids)).set (Int.toNat t5) (Sol.mk v2.inn (Pl.mk v2.pl.A (w64 ((w64 (t1 + 1)) + 1)) v2.pl.C v2.pl.D) v2.kids)) (Int.toNat t5) (Sol.mk v3.inn (Pl.mk v3.pl.A v3.pl.B (w64 ((w64 ((w64 (t1 + 1)) + 1)) + 1)) v3.pl.D) v3.kids)) (ocons (setLen 1000 (((l1000.set (Int.toNat t5) (Sol.mk ((Int.tmod t1 3) == 0) v0.pl v0.kids)).set (Int.toNat t5) (Sol.mk v1.inn (Pl.mk (w64 (t1 + 1)) v1.pl.B v1.pl.C v1.pl.D) v1.kids)).set (Int.toNat t5) (Sol.mk v2.inn (Pl.mk v2.pl.A (w64 ((w64 (t1 + 1)) + 1)) v2.pl.C v2.pl.D) v2.kids)) (Int.toNat t5) (Sol.mk v3.inn (Pl.mk v3.pl.A v3.pl.B (w64 ((w64 ((w64 (t1 + 1)) + 1)) + 1)) v3.pl.D) v3.kids)) (ocons (setLen 1000 (((l1000.set (Int.toNat t5) (Sol.mk ((Int.tmod t1 3) == 0) v0.pl v0.kids)).set (Int.toNat t5) (Sol.mk v1.inn (Pl.mk (w64 (t1 + 1)) v1.pl.B v1.pl.C v1.pl.D) v1.kids)).set (Int.toNat t5) (Sol.mk v2.inn (Pl.mk v2.pl.A (w64 ((w64 (t1 + 1)) + 1)) v2.pl.C v2.pl.D) v2.kids)) (Int.toNat t5) (Sol.mk v3.inn (Pl.mk v3.pl.A v3.pl.B (w64 ((w64 ((w64 (t1 + 1)) + 1)) + 1)) v3.pl.D) v3.kids)) (ocons (setLen 1000 (((l1000.set (Int.toNat t5) (Sol.mk ((Int.tmod t1 3) == 0) v0.pl v0.kids)).set (Int.toNat t5) (Sol.mk v1.inn (Pl.mk (w64 (t1 + 1)) v1.pl.B v1.pl.C v1.pl.D) v1.kids)).set (Int.toNat t5) (Sol.mk v2.inn (Pl.mk v2.pl.A (w64 ((w64 (t1 + 1)) + 1)) v2.pl.C v2.pl.D) v2.kids)) (Int.toNat t5) (Sol.mk v3.inn (Pl.mk v3.pl.A v3.pl.B (w64 ((w64 ((w64 (t1 + 1)) + 1)) + 1)) v3.pl.D) v3.kids)) (ocons (inr hv4) (ocons (stA (eSol true) hv4 4 1 [i64 (w64 ((w64 ((w64 ((w64 (t1 + 1)) + 1)) + 1)) + 1))] (Sol.mk v4.inn (Pl.mk v4.pl.A v4.pl.B v4.pl.C (w64 ((w64 ((w64 ((w64 (t1 + 1)) + 1)) + 1)) + 1))) v4.kids) rfl rfl) (ocons (setLen 1000 ((((l1000.set (Int.toNat t5) (Sol.mk ((Int.tmod t1 3) == 0) v0.pl v0.kids)).set (Int.toNat t5) (Sol.mk v1.inn (Pl.mk (w64 (t1 + 1)) v1.pl.B v1.pl.C v1.pl.D) v1.kids)).set (Int.toNat t5) (Sol.mk v2.inn (Pl.mk v2.pl.A (w64 ((w64 (t1 + 1)) + 1)) v2.pl.C v2.pl.D) v2.kids)).set (Int.toNat t5) (Sol.mk v3.inn (Pl.mk v3.pl.A v3.pl.B (w64 ((w64 ((w64 (t1 + 1)) + 1)) + 1)) v3.pl.D) v3.kids)) (Int.toNat t5) (Sol.mk v4.inn (Pl.mk v4.pl.A v4.pl.B v4.pl.C (w64 ((w64 ((w64 ((w64 (t1 + 1)) + 1)) + 1)) + 1))) v4.kids)) (ocons (setLen 1000 ((((l1000.set (Int.toNat t5) (Sol.mk ((Int.tmod t1 3) == 0) v0.pl v0.kids)).set (Int.toNat t5) (Sol.mk v1.inn (Pl.mk (w64 (t1 + 1)) v1.pl.B v1.pl.C v1.pl.D) v1.kids)).set (Int.toNat t5) (Sol.mk v2.inn (Pl.mk v2.pl.A (w64 ((w64 (t1 + 1)) + 1)) v2.pl.C v2.pl.D) v2.kids)).set (Int.toNat t5) (Sol.mk v3.inn (Pl.mk v3.pl.A v3.pl.B (w64 ((w64 ((w64 (t1 + 1)) + 1)) + 1)) v3.pl.D) v3.kids)) (Int.toNat t5) (Sol.mk v4.inn (Pl.mk v4.pl.A v4.pl.B v4.pl.C (w64 ((w64 ((w64 ((w64 (t1 + 1)) + 1)) + 1)) + 1))) v4.kids)) (ocons (setLen 1000 ((((l1000.set (Int.toNat t5) (Sol.mk ((Int.tmod t1 3) == 0) v0.pl v0.kids)).set (Int.toNat t5) (Sol.mk v1.inn (Pl.mk (w64 (t1 + 1)) v1.pl.B v1.pl.C v1.pl.D) v1.kids)).set (Int.toNat t5) (Sol.mk v2.inn (Pl.mk v2.pl.A (w64 ((w64 (t1 + 1)) + 1)) v2.pl.C v2.pl.D) v2.kids)).set (Int.toNat t5) (Sol.mk v3.inn (Pl.mk v3.pl.A v3.pl.B (w64 ((w64 ((w64 (t1 + 1)) + 1)) + 1)) v3.pl.D) v3.kids)) (Int.toNat t5) (Sol.mk v4.inn (Pl.mk v4.pl.A v4.pl.B v4.pl.C (w64 ((w64 ((w64 ((w64 (t1 + 1)) + 1)) + 1)) + 1))) v4.kids)) (ocons (setLen 1000 ((((l1000.set (Int.toNat t5) (Sol.mk ((Int.tmod t1 3) == 0) v0.pl v0.kids)).set (Int.toNat t5) (Sol.mk v1.inn (Pl.mk (w64 (t1 + 1)) v1.pl.B v1.pl.C v1.pl.D) v1.kids)).set (Int.toNat t5) (Sol.mk v2.inn (Pl.mk v2.pl.A (w64 ((w64 (t1 + 1)) + 1)) v2.pl.C v2.pl.D) v2.kids)).set (Int.toNat t5) (Sol.mk v3.inn (Pl.mk v3.pl.A v3.pl.B (w64 ((w64 ((w64 (t1 + 1)) + 1)) + 1)) v3.pl.D) v3.kids)) (Int.toNat t5) (Sol.mk v4.inn (Pl.mk v4.pl.A v4.pl.B v4.pl.C (w64 ((w64 ((w64 ((w64 (t1 + 1)) + 1)) + 1)) + 1))) v4.kids)) (ocons (setLen 1000 ((((l1000.set (Int.toNat t5) (Sol.mk ((Int.tmod t1 3) == 0) v0.pl v0.kids)).set (Int.toNat t5) (Sol.mk v1.inn (Pl.mk (w64 (t1 + 1)) v1.pl.B v1.pl.C v1.pl.D) v1.kids)).set (Int.toNat t5) (Sol.mk v2.inn (Pl.mk v2.pl.A (w64 ((w64 (t1 + 1)) + 1)) v2.pl.C v2.pl.D) v2.kids)).set (Int.toNat t5) (Sol.mk v3.inn (Pl.mk v3.pl.A v3.pl.B (w64 ((w64 ((w64 (t1 + 1)) + 1)) + 1)) v3.pl.D) v3.kids)) (Int.toNat t5) (Sol.mk v4.inn (Pl.mk v4.pl.A v4.pl.B v4.pl.C (w64 ((w64 ((w64 ((w64 (t1 + 1)) + 1)) + 1)) + 1))) v4.kids)) (ocons (setLen 1000 ((((l1000.set (Int.toNat t5) (Sol.mk ((Int.tmod t1 3) == 0) v0.pl v0.kids)).set (Int.toNat t5) (Sol.mk v1.inn (Pl.mk (w64 (t1 + 1)) v1.pl.B v1.pl.C v1.pl.D) v1.kids)).set (Int.toNat t5) (Sol.mk v2.inn (Pl.mk v2.pl.A (w64 ((w64 (t1 + 1)) + 1)) v2.pl.C v2.pl.D) v2.kids)).set (Int.toNat t5) (Sol.mk v3.inn (Pl.mk v3.pl.A v3.pl.B (w64 ((w64 ((w64 (t1 + 1)) + 1)) + 1)) v3.pl.D) v3.kids)) (Int.toNat t5) (Sol.mk v4.inn (Pl.mk v4.pl.A v4.pl.B v4.pl.C (w64 ((w64 ((w64 ((w64 (t1 + 1)) + 1)) + 1)) + 1))) v4.kids)) (ocons (setLen 1000 ((((l1000.set (Int.toNat t5) (Sol.mk ((Int.tmod t1 3) == 0) v0.pl v0.kids)).set (Int.toNat t5) (Sol.mk v1.inn (Pl.mk (w64 (t1 + 1)) v1.pl.B v1.pl.C v1.pl.D) v1.kids)).set (Int.toNat t5) (Sol.mk v2.inn (Pl.mk v2.pl.A (w64 ((w64 (t1 + 1)) + 1)) v2.pl.C v2.pl.D) v2.kids)).set (Int.toNat t5) (Sol.mk v3.inn (Pl.mk v3.pl.A v3.pl.B (w64 ((w64 ((w64 (t1 + 1)) + 1)) + 1)) v3.pl.D) v3.kids)) (Int.toNat t5) (Sol.mk v4.inn (Pl.mk v4.pl.A v4.pl.B v4.pl.C (w64 ((w64 ((w64 ((w64 (t1 + 1)) + 1)) + 1)) + 1))) v4.kids)) onil))))))))))))))))))))))))))))))))))) (Tlaws_markSolidS_0 n self rec0 hself hrec0 (w64 ((w64 ((w64 ((w64 ((w64 (t1 + 1)) + 1)) + 1)) + 1)) + 1)) t5 (((((l1000.set (Int.toNat t5) (Sol.mk ((Int.tmod t1 3) == 0) v0.pl v0.kids)).set (Int.toNat t5) (Sol.mk v1.inn (Pl.mk (w64 (t1 + 1)) v1.pl.B v1.pl.C v1.pl.D) v1.kids)).set (Int.toNat t5) (Sol.mk v2.inn (Pl.mk v2.pl.A (w64 ((w64 (t1 + 1)) + 1)) v2.pl.C v2.pl.D) v2.kids)).set (Int.toNat t5) (Sol.mk v3.inn (Pl.mk v3.pl.A v3.pl.B (w64 ((w64 ((w64 (t1 + 1)) + 1)) + 1)) v3.pl.D) v3.kids)).set (Int.toNat t5) (Sol.mk v4.inn (Pl.mk v4.pl.A v4.pl.B v4.pl.C (w64 ((w64 ((w64 ((w64 (t1 + 1)) + 1)) + 1)) + 1))) v4.kids)) r h) (by kernel_rfl)
  · replace h := Option.some.inj h; subst h
    exact x_endR 6 [] onil (by kernel_rfl) (by decide) (cleanSol _) rfl rfl
def Dlaws_markSolidS_b (n : Nat) (self : (List Sol × Int) → Option (Int × List Sol)) (a : (List Sol × Int)) : Option (Int × List Sol) :=
  match a with
  | (a0, a1) => loopN (Dlaws_markSolidS_1 n self) n (a1, 0, a0)
theorem Tlaws_markSolidS_w {Y} (n : Nat) (self : (List Sol × Int) → Option (Int × List Sol)) (hself : ∀ (a : (List Sol × Int)) (r : (Int × List Sol)), self a = some r → TurnP Try.prog 34 (eSol true) a r) (a0 : List Sol) (a1 : Int) (r : (Int × List Sol)) (h : Dlaws_markSolidS_b n self (a0, a1) = some r) (hl : r.2.length = a0.length) : Big Try.prog H Y (.call 34 [.msl 1000 a0.length, i64 a1] (lk [(1000, ⟨true, 6, (eSol true).f a0⟩)]) (i64 r.1) (lk [(1000, ⟨true, 6, (eSol true).f r.2⟩)])) := by
  unfold Dlaws_markSolidS_b at h
  refine x_callR (fn := Try.f34) (c := bodyOf Try.f34) Try.func34 (by kernel_rfl) ⟨rfl, by show ((eSol true).f r.2).length = ((eSol true).f a0).length; rw [Enc.len, Enc.len, hl]⟩ ?_
  exact x_to 10 [] onil (Tlaws_markSolidS_1 n self hself n (a1, 0, a0) r h) (by kernel_rfl)
theorem Tlaws_markSolidS_len (_n : Nat) (self : (List Sol × Int) → Option (Int × List Sol)) : ∀ (m : Nat) (a : (Int × Int × List Sol)) (r : (Int × List Sol)), loopN (Dlaws_markSolidS_1 _n self) m a = some r → r.2.length = a.2.2.length := by
  refine loopN_ind (fun _rec0 hrec0 a r h => ?_)
  obtain ⟨_t1, t5, l⟩ := a
  unfold Dlaws_markSolidS_1 at h
  replace h : frk (decide (t5 < (l.length : Int))) _ _ = some r := h
  revert h
  cases decide (t5 < (l.length : Int)) <;> intro h
  · replace h := Option.some.inj h; subst h; rfl
  · rw [frk_tt] at h
    obtain ⟨_, _, h⟩ := bind_some h
    obtain ⟨_, _, h⟩ := bind_some h
    obtain ⟨_, _, h⟩ := bind_some h
    obtain ⟨_, _, h⟩ := bind_some h
    obtain ⟨_, _, h⟩ := bind_some h
    unfold Dlaws_markSolidS_0 at h
    obtain ⟨_, _, h⟩ := bind_some h
    obtain ⟨_, _, h⟩ := bind_some h
    have := hrec0 _ _ h
    simpa using this
theorem Tlaws_markSolidS_nil {Y} (a1 r : Int) (h : some a1 = some r) : Big Try.prog H Y (.call 34 [.nil, i64 a1] (lk []) (i64 r) (lk [])) := by
  refine x_call (fn := Try.f34) (c := bodyOf Try.f34) (bs0 := []) Try.func34 (by kernel_rfl) (by kernel_rfl) ?_
  replace h := Option.some.inj h; subst h
  exact x_end 26 [] [] onil onil (by kernel_rfl)
theorem Tlaws_markSolidS_t (hE : EqtOk Try.prog H) (hM : Try.prog.follows .mixedOrders = true) (n : Nat) : ∀ (m : Nat) (a : (List Sol × Int)) (r : (Int × List Sol)), loopN (Dlaws_markSolidS_b n) m a = some r → TurnP Try.prog 34 (eSol true) a r := by
  refine loopN_ind (fun self hs a r h => ?_)
  obtain ⟨a0, a1⟩ := a
  have hl : r.2.length = a0.length := Tlaws_markSolidS_len n self n _ _ h
  exact turnP_of hE hM (e := (eSol true)) hl (Tlaws_markSolidS_w n self hs a0 a1 r h hl) (fun h0 => by
    subst h0
    cases n with
    | zero => cases h
    | succ n => replace h : some (a1, []) = some r := h; exact Tlaws_markSolidS_nil a1 r.1 (by rw [← Option.some.inj h])) nLk (by decide)
def Dlaws_markSolidS (n : Nat) (a0 : List Sol) (a1 : Int) : Option (Int × List Sol) := loopN (Dlaws_markSolidS_b n) n (a0, a1)
theorem Tlaws_markSolid {T T' : AV} {kv rv : Value} {pre : List Value} (ht : TurnOk Try.prog 34 (fun u => #[u, kv]) T rv T') (hp : pre.length = 5) : TurnOk Try.prog 10 (fun u => #[.agg (pre ++ [u]).toArray, kv]) T rv T' :=
  turn_wrap (tS := 31) (tL := 29) (i0 := 0) (i1 := 1) (i2 := 2) (p0 := Code.opsOf (cp [0] (bodyOf Try.f10))) (p1 := Code.opsOf (cp [1, 0] (bodyOf Try.f10))) (p2 := Code.opsOf (cp [1, 1, 0] (bodyOf Try.f10))) (k0 := .int .i64 0) (off := 5) (size := 1) (gc := bodyOf Try.f34) Try.func10 (by kernel_rfl) (by kernel_rfl) (by kernel_rfl) Try.func34 (by kernel_rfl) (by kernel_rfl) (by kernel_rfl) (by kernel_rfl) (by kernel_rfl) (isOp_of (by kernel_rfl)) (isOp_of (by kernel_rfl)) (isOp_of (by kernel_rfl)) (isOp_of (by kernel_rfl)) (isOp_of (by kernel_rfl)) (calleeAt_of (by kernel_rfl)) (isOp_of (by kernel_rfl)) (isOp_of (by kernel_rfl)) (isOp_of (by kernel_rfl)) (by kernel_rfl) (by kernel_rfl) hp ht
/-! laws.heldSolidS -/
def Dlaws_heldSolidS_0 (_n : Nat) (self : ((List Sol) × Int) → Option Int) (t0 : List Sol) (rec0 : (Int × Int) → Option Int) (a : (Int × Int)) : Option Int :=
  match a with
  | (t1, t5) => frk (decide (t5 < (t0.length : Int))) ((lget t0 t5).bind fun v0 => frk (!(v0.inn == ((Int.tmod t1 3) == 0))) (some (-1)) ((lget t0 t5).bind fun v1 => frk (v1.pl.A != (w64 (t1 + 1))) (some (-1)) ((lget t0 t5).bind fun v2 => frk (v2.pl.B != (w64 ((w64 (t1 + 1)) + 1))) (some (-1)) ((lget t0 t5).bind fun v3 => frk (v3.pl.C != (w64 ((w64 ((w64 (t1 + 1)) + 1)) + 1))) (some (-1)) ((lget t0 t5).bind fun v4 => frk (v4.pl.D != (w64 ((w64 ((w64 ((w64 (t1 + 1)) + 1)) + 1)) + 1))) (some (-1)) ((lget t0 t5).bind fun v5 => (self (v5.kids, w64 ((w64 ((w64 ((w64 ((w64 (t1 + 1)) + 1)) + 1)) + 1)) + 1))).bind fun v6 => frk (decide (v6 < 0)) (some (-1)) (rec0 (v6, w64 (t5 + 1))))))))) (some t1)
theorem Tlaws_heldSolidS_0 {Y} (n : Nat) (self : ((List Sol) × Int) → Option Int) (hself : ∀ (a : ((List Sol) × Int)) (r : Int), self a = some r → Big Try.prog H Y (.call 35 [.sl false 6 a.1.length ((eSol false).f a.1), i64 a.2] (lk []) (i64 r) (lk []))) (t0 : List Sol) : ∀ (m : Nat) (a : (Int × Int)) (r : Int), loopN (Dlaws_heldSolidS_0 n self t0) m a = some r → Wk Try.prog H Y 35 [.code (cp [1, 0, 1, 0] (bodyOf Try.f35)), .blk 0, .code (cp [1, 1] (bodyOf Try.f35))] (FinX Try.prog Try.f35 [] (i64 r) []) ⟨[(0, .sl false 6 t0.length ((eSol false).f t0)), (1, i64 a.1), (5, i64 a.2)], []⟩ := by
  refine loopN_ind (fun _rec0 hrec0 a r h => ?_)
  obtain ⟨t1, t5⟩ := a
  unfold Dlaws_heldSolidS_0 at h
  refine x_frk 9 [] onil h (by kernel_rfl) (fun h => ?_) (fun h => ?_)
  · obtain ⟨v0, hv0, h⟩ := bind_some h
    refine x_frk 16 [(2, .val (.cptr ((eSol false).c v0 ++ (eSol false).f ((t0).drop (Int.toNat t5 + 1)))))] (ocons (ix (eSol false) hv0) onil) h (by kernel_rfl) (fun h => ?_) (fun h => ?_)
    · replace h := Option.some.inj h; subst h
      exact x_end 4 [] [] onil onil (by kernel_rfl)
    · obtain ⟨v1, hv1, h⟩ := bind_some h
      refine x_frk 19 [(5, .val (.cptr ((eSol false).c v1 ++ (eSol false).f ((t0).drop (Int.toNat t5 + 1)))))] (ocons (ix (eSol false) hv1) onil) h (by kernel_rfl) (fun h => ?_) (fun h => ?_)
      · replace h := Option.some.inj h; subst h
        exact x_end 4 [] [] onil onil (by kernel_rfl)
      · obtain ⟨v2, hv2, h⟩ := bind_some h
        refine x_frk 19 [(5, .val (.cptr ((eSol false).c v2 ++ (eSol false).f ((t0).drop (Int.toNat t5 + 1)))))] (ocons (ix (eSol false) hv2) onil) h (by kernel_rfl) (fun h => ?_) (fun h => ?_)
        · replace h := Option.some.inj h; subst h
          exact x_end 4 [] [] onil onil (by kernel_rfl)
        · obtain ⟨v3, hv3, h⟩ := bind_some h
          refine x_frk 19 [(5, .val (.cptr ((eSol false).c v3 ++ (eSol false).f ((t0).drop (Int.toNat t5 + 1)))))] (ocons (ix (eSol false) hv3) onil) h (by kernel_rfl) (fun h => ?_) (fun h => ?_)
          · replace h := Option.some.inj h; subst h
            exact x_end 4 [] [] onil onil (by kernel_rfl)
          · obtain ⟨v4, hv4, h⟩ := bind_some h
            refine x_frk 19 [(5, .val (.cptr ((eSol false).c v4 ++ (eSol false).f ((t0).drop (Int.toNat t5 + 1)))))] (ocons (ix (eSol false) hv4) onil) h (by kernel_rfl) (fun h => ?_) (fun h => ?_)
            · replace h := Option.some.inj h; subst h
              exact x_end 4 [] [] onil onil (by kernel_rfl)
            · obtain ⟨v5, hv5, h⟩ := bind_some h
              obtain ⟨v6, hv6, h⟩ := bind_some h
              refine x_frk 23 [(5, .val (.cptr ((eSol false).c v5 ++ (eSol false).f ((t0).drop (Int.toNat t5 + 1))))), (3, .call [] [] (i64 v6) [])] (ocons (ix (eSol false) hv5) (ocons (hself (v5.kids, w64 ((w64 ((w64 ((w64 ((w64 (t1 + 1)) + 1)) + 1)) + 1)) + 1)) _ hv6) onil)) h (by kernel_rfl) (fun h => ?_) (fun h => ?_)
              · replace h := Option.some.inj h; subst h
                exact x_end 4 [] [] onil onil (by kernel_rfl)
              · exact x_to 8 [] onil (hrec0 (v6, w64 (t5 + 1)) r h) (by kernel_rfl)
  · replace h := Option.some.inj h; subst h
    exact x_end 6 [] [] onil onil (by kernel_rfl)
def Dlaws_heldSolidS_b (n : Nat) (self : ((List Sol) × Int) → Option Int) (a : ((List Sol) × Int)) : Option Int :=
  match a with
  | (a0, a1) => loopN (Dlaws_heldSolidS_0 n self a0) n (a1, 0)
def Dlaws_heldSolidS (n : Nat) (a0 : (List Sol)) (a1 : Int) : Option Int := loopN (Dlaws_heldSolidS_b n) n (a0, a1)
theorem Tlaws_heldSolidS_b {Y} (n : Nat) : ∀ (m : Nat) (a : ((List Sol) × Int)) (r : Int), loopN (Dlaws_heldSolidS_b n) m a = some r → ∀ (_ : Unit), Big Try.prog H Y (.call 35 [.sl false 6 a.1.length ((eSol false).f a.1), i64 a.2] (lk []) (i64 r) (lk [])) := by
  refine loopN_ind (fun self hs a r h => ?_)
  have hself : ∀ (a : ((List Sol) × Int)) (r : Int), self a = some r → Big Try.prog H Y (.call 35 [.sl false 6 a.1.length ((eSol false).f a.1), i64 a.2] (lk []) (i64 r) (lk [])) := fun a r h => hs a r h ()
  intro _
  obtain ⟨a0, a1⟩ := a
  unfold Dlaws_heldSolidS_b at h
  refine x_call (fn := Try.f35) (c := bodyOf Try.f35) (bs0 := []) Try.func35 (by kernel_rfl) (by kernel_rfl) ?_
  exact x_to 10 [] onil (Tlaws_heldSolidS_0 n self hself a0 n (a1, 0) r h) (by kernel_rfl)
theorem Tlaws_heldSolidS {Y} (n : Nat) (a0 : (List Sol)) (a1 r : Int) (h : Dlaws_heldSolidS n a0 a1 = some r) : Big Try.prog H Y (.call 35 [.sl false 6 a0.length ((eSol false).f a0), i64 a1] (lk []) (i64 r) (lk [])) := Tlaws_heldSolidS_b n n (a0, a1) r h ()
/-! laws.heldSolid -/
def Dlaws_heldSolid (n : Nat) (a0 : Sol) (a1 : Int) : Option Int :=
  (Dlaws_heldSolidS n a0.kids a1).bind fun v0 => frk (decide (v0 < 0)) (some (-1)) (some v0)
theorem Tlaws_heldSolid {Y} (n : Nat) (a0 : Sol) (a1 r : Int) (h : Dlaws_heldSolid n a0 a1 = some r) : Big Try.prog H Y (.call 11 [.agg [bl a0.inn, i64 a0.pl.A, i64 a0.pl.B, i64 a0.pl.C, i64 a0.pl.D, .sl false 6 a0.kids.length ((eSol false).f a0.kids)], i64 a1] (lk []) (i64 r) (lk [])) := by
  unfold Dlaws_heldSolid at h
  refine x_call (fn := Try.f11) (c := bodyOf Try.f11) (bs0 := []) Try.func11 (by kernel_rfl) (by kernel_rfl) ?_
  obtain ⟨v0, hv0, h⟩ := bind_some h
  refine x_frk 19 [(5, .call [] [] (i64 v0) [])] (ocons (Tlaws_heldSolidS (Y := Y) n a0.kids a1 _ hv0) onil) h (by kernel_rfl) (fun h => ?_) (fun h => ?_)
  · replace h := Option.some.inj h; subst h
    exact x_end 4 [] [] onil onil (by kernel_rfl)
  · replace h := Option.some.inj h; subst h
    exact x_end 6 [] [] onil onil (by kernel_rfl)
/-! laws.FnExactAgain -/
def Dlaws_FnExactAgain_4 (n : Nat) (_K0 : List Sol) (t10 : Int) (t87 b7_0 : Bool) (b7_1 b7_2 b7_3 b7_4 : Int) (b7_5 : List Sol) : Option Bool :=
  frk t87 (some false) ((Dlaws_heldSolid n (Sol.mk b7_0 (Pl.mk b7_1 b7_2 b7_3 b7_4) b7_5) 1).bind fun v15 => frk (decide (v15 < 0)) (some false) (frk (v15 != t10) (some false) (some true)))
theorem Tlaws_FnExactAgain_4 (u0 : Value) (_hE : EqtOk Try.prog H) (_hM : Try.prog.follows .mixedOrders = true) (n : Nat) (K0 : List Sol) (t10 : Int) (t87 b7_0 : Bool) (b7_1 b7_2 b7_3 b7_4 : Int) (b7_5 : List Sol) (r : Bool) (h : Dlaws_FnExactAgain_4 n K0 t10 t87 b7_0 b7_1 b7_2 b7_3 b7_4 b7_5 = some r) : Wk Try.prog (HL [(u0, oldS K0)]) (YL [(u0, oldS K0)]) 3 [.code (cp [1, 1, 1, 1, 1, 1, 1, 1, 1, 1, 1, 1, 1, 1, 1, 1, 1, 1, 1, 0, 1] (bodyOf Try.f3)), .code (cp [1, 1, 1, 1, 1, 1, 1, 1, 1, 1, 1, 1, 1, 1, 1, 1, 1, 1, 1, 1] (bodyOf Try.f3))] (FinX Try.prog Try.f3 [] (bl r) []) ⟨[(7, .ptr 7 0), (10, i64 t10), (87, bl t87)], [(7, ⟨true, 0, [bl b7_0, i64 b7_1, i64 b7_2, i64 b7_3, i64 b7_4, .sl true 6 b7_5.length ((eSol true).f b7_5)]⟩)]⟩ := by
  unfold Dlaws_FnExactAgain_4 at h
  refine x_frk 0 [] onil h (by kernel_rfl) (fun h => ?_) (fun h => ?_)
  · replace h := Option.some.inj h; subst h
    exact x_end 4 [] [] onil onil (by kernel_rfl)
  · obtain ⟨v15, hv15, h⟩ := bind_some h
    refine x_frk 18 [(1, .rows [(eSol false).f b7_5]), (1, .call [] [] (i64 v15) [])] (ocons (Enc.share (eSol true) (eSol false) (sSol true) b7_5) (ocons (gv (l := [(u0, oldS K0)]) (Tlaws_heldSolid n (Sol.mk b7_0 (Pl.mk b7_1 b7_2 b7_3 b7_4) b7_5) 1 _ hv15) (oCons (oSame _) (oCons (oSame _) oNil))) onil)) h (by kernel_rfl) (fun h => ?_) (fun h => ?_)
    · replace h := Option.some.inj h; subst h
      exact x_end 4 [] [] onil onil (by kernel_rfl)
    · refine x_frk 8 [] onil h (by kernel_rfl) (fun h => ?_) (fun h => ?_)
      · replace h := Option.some.inj h; subst h
        exact x_end 4 [] [] onil onil (by kernel_rfl)
      · replace h := Option.some.inj h; subst h
        exact x_end 5 [] [] onil onil (by kernel_rfl)
def Dlaws_FnExactAgain_3 (n : Nat) (K0 : List Sol) (t5 : Bool) (t10 : Int) (b1_0 : Bool) (b1_1 b1_2 b1_3 b1_4 : Int) (b4_0 : Bool) (b4_1 b4_2 b4_3 b4_4 : Int) (b4_5 : List Sol) (b7_0 : Bool) (b7_1 b7_2 b7_3 b7_4 : Int) (b7_5 : List Sol) : Option Bool :=
  (Dlaws_markSolidS n b7_5 t10).bind fun v10 => (Dlaws_heldSolid n (Sol.mk b7_0 (Pl.mk b7_1 b7_2 b7_3 b7_4) v10.2) 1).bind fun v11 => frk (decide (v11 < 0)) (some false) (frk (v11 != v10.1) (some false) ((Dlaws_toSolid n (Sol.mk b1_0 (Pl.mk b1_1 b1_2 b1_3 b1_4) K0)).bind fun v12 => (Dimpl_Again n v12).bind fun v13 => (Dlaws_eqSolid n v13.1 (Sol.mk b4_0 (Pl.mk b4_1 b4_2 b4_3 b4_4) b4_5)).bind fun v14 => frk (!v14) (some false) (Dlaws_FnExactAgain_4 n K0 v10.1 (!(v13.2 == t5)) b7_0 b7_1 b7_2 b7_3 b7_4 v10.2)))
theorem Tlaws_FnExactAgain_3 (u0 : Value) (hE : EqtOk Try.prog H) (hM : Try.prog.follows .mixedOrders = true) (n : Nat) (K0 : List Sol) (t5 : Bool) (t10 : Int) (b1_0 : Bool) (b1_1 b1_2 b1_3 b1_4 : Int) (b4_0 : Bool) (b4_1 b4_2 b4_3 b4_4 : Int) (b4_5 : List Sol) (b7_0 : Bool) (b7_1 b7_2 b7_3 b7_4 : Int) (b7_5 : List Sol) (r : Bool) (h : Dlaws_FnExactAgain_3 n K0 t5 t10 b1_0 b1_1 b1_2 b1_3 b1_4 b4_0 b4_1 b4_2 b4_3 b4_4 b4_5 b7_0 b7_1 b7_2 b7_3 b7_4 b7_5 = some r) : Wk Try.prog (HL [(u0, oldS K0)]) (YL [(u0, oldS K0)]) 3 [.code (cp [1, 1, 1, 1, 1, 1, 1, 1, 1, 1, 1, 1, 1, 0] (bodyOf Try.f3)), .code (cp [1, 1, 1, 1, 1, 1, 1, 1, 1, 1, 1, 1, 1, 1] (bodyOf Try.f3))] (FinX Try.prog Try.f3 [] (bl r) []) ⟨[(1, .ptr 1 0), (4, .ptr 4 0), (5, bl t5), (7, .ptr 7 0), (10, i64 t10)], [(1, ⟨true, 0, [bl b1_0, i64 b1_1, i64 b1_2, i64 b1_3, i64 b1_4, .lit u0]⟩), (4, ⟨true, 0, [bl b4_0, i64 b4_1, i64 b4_2, i64 b4_3, i64 b4_4, .sl true 6 b4_5.length ((eSol true).f b4_5)]⟩), (7, ⟨true, 0, [bl b7_0, i64 b7_1, i64 b7_2, i64 b7_3, i64 b7_4, .sl true 6 b7_5.length ((eSol true).f b7_5)]⟩)]⟩ := by
  unfold Dlaws_FnExactAgain_3 at h
  obtain ⟨v10, hv10, h⟩ := bind_some h
  obtain ⟨hlv10, htv10⟩ := Tlaws_markSolidS_t hE hM n _ _ _ hv10
  refine x_mark (tL := 31) (f := 10) (dl := 62) (dk := 63) (dr := 64) (da := 10) (b := 7) (xa := .tmp 7) (xk := .tmp 10) (pre := [.bool b7_0, .int .i64 b7_1, .int .i64 b7_2, .int .i64 b7_3, .int .i64 b7_4]) (T := .sl true 6 b7_5.length ((eSol true).f b7_5)) (T' := .sl true 6 v10.2.length ((eSol true).f v10.2)) (kv := .int .i64 t10) (rv := .int .i64 v10.1) rfl (fun _ _ _ h => h) (by kernel_rfl) (by kernel_rfl) (by kernel_rfl) (by simp [nlkLs, nlk, nlkL, nLk]) (by simp) rfl (Tlaws_markSolid htv10 (by rfl)) ?_
  obtain ⟨v11, hv11, h⟩ := bind_some h
  refine x_frk 17 [(1, .rows [(eSol false).f v10.2]), (1, .call [] [] (i64 v11) [])] (ocons (Enc.share (eSol true) (eSol false) (sSol true) v10.2) (ocons (gv (l := [(u0, oldS K0)]) (Tlaws_heldSolid n (Sol.mk b7_0 (Pl.mk b7_1 b7_2 b7_3 b7_4) v10.2) 1 _ hv11) (oCons (oSame _) (oCons (oSame _) oNil))) onil)) h (by kernel_rfl) (fun h => ?_) (fun h => ?_)
  · replace h := Option.some.inj h; subst h
    exact x_end 4 [] [] onil onil (by kernel_rfl)
  · refine x_frk 8 [] onil h (by kernel_rfl) (fun h => ?_) (fun h => ?_)
    · replace h := Option.some.inj h; subst h
      exact x_end 4 [] [] onil onil (by kernel_rfl)
    · obtain ⟨v12, hv12, h⟩ := bind_some h
      obtain ⟨v13, hv13, h⟩ := bind_some h
      obtain ⟨v14, hv14, h⟩ := bind_some h
      refine x_frk 21 [(1, .call [] [] (.agg [bl v12.inn, i64 v12.pl.A, i64 v12.pl.B, i64 v12.pl.C, i64 v12.pl.D, .sl true 6 v12.kids.length ((eSol true).f v12.kids)]) []), (0, .call [] [(eSol false).f v12.kids] (.tup [.agg [bl v13.1.inn, i64 v13.1.pl.A, i64 v13.1.pl.B, i64 v13.1.pl.C, i64 v13.1.pl.D, .sl true 6 v13.1.kids.length ((eSol true).f v13.1.kids)], bl v13.2]) []), (6, .rows [(eSol false).f v13.1.kids]), (0, .rows [(eSol false).f b4_5]), (0, .call [] [] (bl v14) [])] (ocons (gv (l := [(u0, oldS K0)]) (Tlaws_toSolid n (Sol.mk b1_0 (Pl.mk b1_1 b1_2 b1_3 b1_4) K0) _ hv12) (oCons (oSol (u := u0) (K := K0) (by simp)) oNil)) (ocons (gv (l := [(u0, oldS K0)]) (Timpl_Again n v12 _ hv13) (oCons (oSame _) oNil)) (ocons (Enc.share (eSol true) (eSol false) (sSol true) v12.kids) (ocons (Enc.share (eSol true) (eSol false) (sSol true) v13.1.kids) (ocons (Enc.share (eSol true) (eSol false) (sSol true) b4_5) (ocons (gv (l := [(u0, oldS K0)]) (Tlaws_eqSolid n v13.1 (Sol.mk b4_0 (Pl.mk b4_1 b4_2 b4_3 b4_4) b4_5) _ hv14) (oCons (oSame _) (oCons (oSame _) oNil))) onil)))))) h (by kernel_rfl) (fun h => ?_) (fun h => ?_)
      · replace h := Option.some.inj h; subst h
        exact x_end 10 [] [] onil onil (by kernel_rfl)
      · exact x_to 5 [] onil (Tlaws_FnExactAgain_4 u0 hE hM n K0 v10.1 (!(v13.2 == t5)) b7_0 b7_1 b7_2 b7_3 b7_4 v10.2 r h) (by kernel_rfl)
def Dlaws_FnExactAgain_2 (n : Nat) (K0 : List Sol) (t5 t61 b1_0 : Bool) (b1_1 b1_2 b1_3 b1_4 : Int) (b4_0 : Bool) (b4_1 b4_2 b4_3 b4_4 : Int) (b4_5 : List Sol) (b7_0 : Bool) (b7_1 b7_2 b7_3 b7_4 : Int) (b7_5 : List Sol) : Option Bool :=
  frk t61 (some false) (Dlaws_FnExactAgain_3 n K0 t5 1 b1_0 b1_1 b1_2 b1_3 b1_4 b4_0 b4_1 b4_2 b4_3 b4_4 b4_5 b7_0 b7_1 b7_2 b7_3 b7_4 b7_5)
theorem Tlaws_FnExactAgain_2 (u0 : Value) (hE : EqtOk Try.prog H) (hM : Try.prog.follows .mixedOrders = true) (n : Nat) (K0 : List Sol) (t5 t61 b1_0 : Bool) (b1_1 b1_2 b1_3 b1_4 : Int) (b4_0 : Bool) (b4_1 b4_2 b4_3 b4_4 : Int) (b4_5 : List Sol) (b7_0 : Bool) (b7_1 b7_2 b7_3 b7_4 : Int) (b7_5 : List Sol) (r : Bool) (h : Dlaws_FnExactAgain_2 n K0 t5 t61 b1_0 b1_1 b1_2 b1_3 b1_4 b4_0 b4_1 b4_2 b4_3 b4_4 b4_5 b7_0 b7_1 b7_2 b7_3 b7_4 b7_5 = some r) : Wk Try.prog (HL [(u0, oldS K0)]) (YL [(u0, oldS K0)]) 3 [.code (cp [1, 1, 1, 1, 1, 1, 1, 1, 1, 1, 1, 0, 1] (bodyOf Try.f3)), .code (cp [1, 1, 1, 1, 1, 1, 1, 1, 1, 1, 1, 1] (bodyOf Try.f3))] (FinX Try.prog Try.f3 [] (bl r) []) ⟨[(1, .ptr 1 0), (4, .ptr 4 0), (5, bl t5), (7, .ptr 7 0), (61, bl t61)], [(1, ⟨true, 0, [bl b1_0, i64 b1_1, i64 b1_2, i64 b1_3, i64 b1_4, .lit u0]⟩), (4, ⟨true, 0, [bl b4_0, i64 b4_1, i64 b4_2, i64 b4_3, i64 b4_4, .sl true 6 b4_5.length ((eSol true).f b4_5)]⟩), (7, ⟨true, 0, [bl b7_0, i64 b7_1, i64 b7_2, i64 b7_3, i64 b7_4, .sl true 6 b7_5.length ((eSol true).f b7_5)]⟩)]⟩ := by
  unfold Dlaws_FnExactAgain_2 at h
  refine x_frk 0 [] onil h (by kernel_rfl) (fun h => ?_) (fun h => ?_)
  · replace h := Option.some.inj h; subst h
    exact x_end 4 [] [] onil onil (by kernel_rfl)
  · exact x_to 6 [] onil (Tlaws_FnExactAgain_3 u0 hE hM n K0 t5 1 b1_0 b1_1 b1_2 b1_3 b1_4 b4_0 b4_1 b4_2 b4_3 b4_4 b4_5 b7_0 b7_1 b7_2 b7_3 b7_4 b7_5 r h) (by kernel_rfl)
def Dlaws_FnExactAgain_1 (n : Nat) (K0 : List Sol) (t5 t8 : Bool) (t9 : Int) (b1_0 : Bool) (b1_1 b1_2 b1_3 b1_4 : Int) (b4_0 : Bool) (b4_1 b4_2 b4_3 b4_4 : Int) (b4_5 : List Sol) (_b6_0 : Bool) (_b6_1 _b6_2 _b6_3 _b6_4 : Int) (b6_5 : List Sol) (b7_0 : Bool) (b7_1 b7_2 b7_3 b7_4 : Int) (b7_5 : List Sol) : Option Bool :=
  (Dlaws_markSolidS n b6_5 t9).bind fun v8 => frk (decide (v8.1 < 0)) (some false) ((Dlaws_eqSolid n (Sol.mk b7_0 (Pl.mk b7_1 b7_2 b7_3 b7_4) b7_5) (Sol.mk b4_0 (Pl.mk b4_1 b4_2 b4_3 b4_4) b4_5)).bind fun v9 => frk (!v9) (some false) (Dlaws_FnExactAgain_2 n K0 t5 (!(t8 == t5)) b1_0 b1_1 b1_2 b1_3 b1_4 b4_0 b4_1 b4_2 b4_3 b4_4 b4_5 b7_0 b7_1 b7_2 b7_3 b7_4 b7_5))
theorem Tlaws_FnExactAgain_1 (u0 : Value) (hE : EqtOk Try.prog H) (hM : Try.prog.follows .mixedOrders = true) (n : Nat) (K0 : List Sol) (t5 t8 : Bool) (t9 : Int) (b1_0 : Bool) (b1_1 b1_2 b1_3 b1_4 : Int) (b4_0 : Bool) (b4_1 b4_2 b4_3 b4_4 : Int) (b4_5 : List Sol) (b6_0 : Bool) (b6_1 b6_2 b6_3 b6_4 : Int) (b6_5 : List Sol) (b7_0 : Bool) (b7_1 b7_2 b7_3 b7_4 : Int) (b7_5 : List Sol) (r : Bool) (h : Dlaws_FnExactAgain_1 n K0 t5 t8 t9 b1_0 b1_1 b1_2 b1_3 b1_4 b4_0 b4_1 b4_2 b4_3 b4_4 b4_5 b6_0 b6_1 b6_2 b6_3 b6_4 b6_5 b7_0 b7_1 b7_2 b7_3 b7_4 b7_5 = some r) : Wk Try.prog (HL [(u0, oldS K0)]) (YL [(u0, oldS K0)]) 3 [.code (cp [1, 1, 1, 1, 1, 1, 1, 1, 1, 1, 0] (bodyOf Try.f3)), .code (cp [1, 1, 1, 1, 1, 1, 1, 1, 1, 1, 1] (bodyOf Try.f3))] (FinX Try.prog Try.f3 [] (bl r) []) ⟨[(1, .ptr 1 0), (4, .ptr 4 0), (5, bl t5), (6, .ptr 6 0), (7, .ptr 7 0), (8, bl t8), (9, i64 t9)], [(1, ⟨true, 0, [bl b1_0, i64 b1_1, i64 b1_2, i64 b1_3, i64 b1_4, .lit u0]⟩), (4, ⟨true, 0, [bl b4_0, i64 b4_1, i64 b4_2, i64 b4_3, i64 b4_4, .sl true 6 b4_5.length ((eSol true).f b4_5)]⟩), (6, ⟨true, 0, [bl b6_0, i64 b6_1, i64 b6_2, i64 b6_3, i64 b6_4, .sl true 6 b6_5.length ((eSol true).f b6_5)]⟩), (7, ⟨true, 0, [bl b7_0, i64 b7_1, i64 b7_2, i64 b7_3, i64 b7_4, .sl true 6 b7_5.length ((eSol true).f b7_5)]⟩)]⟩ := by
  unfold Dlaws_FnExactAgain_1 at h
  obtain ⟨v8, hv8, h⟩ := bind_some h
  obtain ⟨hlv8, htv8⟩ := Tlaws_markSolidS_t hE hM n _ _ _ hv8
  refine x_mark (tL := 31) (f := 10) (dl := 46) (dk := 47) (dr := 48) (da := 9) (b := 6) (xa := .tmp 6) (xk := .tmp 9) (pre := [.bool b6_0, .int .i64 b6_1, .int .i64 b6_2, .int .i64 b6_3, .int .i64 b6_4]) (T := .sl true 6 b6_5.length ((eSol true).f b6_5)) (T' := .sl true 6 v8.2.length ((eSol true).f v8.2)) (kv := .int .i64 t9) (rv := .int .i64 v8.1) rfl (fun _ _ _ h => h) (by kernel_rfl) (by kernel_rfl) (by kernel_rfl) (by simp [nlkLs, nlk, nlkL, nLk]) (by simp) rfl (Tlaws_markSolid htv8 (by rfl)) ?_
  refine x_frk 6 [] onil h (by kernel_rfl) (fun h => ?_) (fun h => ?_)
  · replace h := Option.some.inj h; subst h
    exact x_end 16 [] [] onil onil (by kernel_rfl)
  · obtain ⟨v9, hv9, h⟩ := bind_some h
    refine x_frk 6 [(0, .rows [(eSol false).f b7_5]), (0, .rows [(eSol false).f b4_5]), (0, .call [] [] (bl v9) [])] (ocons (Enc.share (eSol true) (eSol false) (sSol true) b7_5) (ocons (Enc.share (eSol true) (eSol false) (sSol true) b4_5) (ocons (gv (l := [(u0, oldS K0)]) (Tlaws_eqSolid n (Sol.mk b7_0 (Pl.mk b7_1 b7_2 b7_3 b7_4) b7_5) (Sol.mk b4_0 (Pl.mk b4_1 b4_2 b4_3 b4_4) b4_5) _ hv9) (oCons (oSame _) (oCons (oSame _) oNil))) onil))) h (by kernel_rfl) (fun h => ?_) (fun h => ?_)
    · replace h := Option.some.inj h; subst h
      exact x_end 10 [] [] onil onil (by kernel_rfl)
    · exact x_to 5 [] onil (Tlaws_FnExactAgain_2 u0 hE hM n K0 t5 (!(t8 == t5)) b1_0 b1_1 b1_2 b1_3 b1_4 b4_0 b4_1 b4_2 b4_3 b4_4 b4_5 b7_0 b7_1 b7_2 b7_3 b7_4 b7_5 r h) (by kernel_rfl)
def Dlaws_FnExactAgain_0 (n : Nat) (K0 : List Sol) (t5 t8 t40 b1_0 : Bool) (b1_1 b1_2 b1_3 b1_4 : Int) (b4_0 : Bool) (b4_1 b4_2 b4_3 b4_4 : Int) (b4_5 : List Sol) (b6_0 : Bool) (b6_1 b6_2 b6_3 b6_4 : Int) (b6_5 : List Sol) (b7_0 : Bool) (b7_1 b7_2 b7_3 b7_4 : Int) (b7_5 : List Sol) : Option Bool :=
  frk t40 (some false) ((Dlaws_toSolid n (Sol.mk b1_0 (Pl.mk b1_1 b1_2 b1_3 b1_4) K0)).bind fun v6 => (Dlaws_eqSolid n (Sol.mk b6_0 (Pl.mk b6_1 b6_2 b6_3 b6_4) b6_5) v6).bind fun v7 => frk (!v7) (some false) (Dlaws_FnExactAgain_1 n K0 t5 t8 1 b1_0 b1_1 b1_2 b1_3 b1_4 b4_0 b4_1 b4_2 b4_3 b4_4 b4_5 b6_0 b6_1 b6_2 b6_3 b6_4 b6_5 b7_0 b7_1 b7_2 b7_3 b7_4 b7_5))
theorem Tlaws_FnExactAgain_0 (u0 : Value) (hE : EqtOk Try.prog H) (hM : Try.prog.follows .mixedOrders = true) (n : Nat) (K0 : List Sol) (t5 t8 t40 b1_0 : Bool) (b1_1 b1_2 b1_3 b1_4 : Int) (b4_0 : Bool) (b4_1 b4_2 b4_3 b4_4 : Int) (b4_5 : List Sol) (b6_0 : Bool) (b6_1 b6_2 b6_3 b6_4 : Int) (b6_5 : List Sol) (b7_0 : Bool) (b7_1 b7_2 b7_3 b7_4 : Int) (b7_5 : List Sol) (r : Bool) (h : Dlaws_FnExactAgain_0 n K0 t5 t8 t40 b1_0 b1_1 b1_2 b1_3 b1_4 b4_0 b4_1 b4_2 b4_3 b4_4 b4_5 b6_0 b6_1 b6_2 b6_3 b6_4 b6_5 b7_0 b7_1 b7_2 b7_3 b7_4 b7_5 = some r) : Wk Try.prog (HL [(u0, oldS K0)]) (YL [(u0, oldS K0)]) 3 [.code (cp [1, 1, 1, 1, 1, 1, 1, 0, 1] (bodyOf Try.f3)), .code (cp [1, 1, 1, 1, 1, 1, 1, 1] (bodyOf Try.f3))] (FinX Try.prog Try.f3 [] (bl r) []) ⟨[(1, .ptr 1 0), (4, .ptr 4 0), (5, bl t5), (6, .ptr 6 0), (7, .ptr 7 0), (8, bl t8), (40, bl t40)], [(1, ⟨true, 0, [bl b1_0, i64 b1_1, i64 b1_2, i64 b1_3, i64 b1_4, .lit u0]⟩), (4, ⟨true, 0, [bl b4_0, i64 b4_1, i64 b4_2, i64 b4_3, i64 b4_4, .sl true 6 b4_5.length ((eSol true).f b4_5)]⟩), (6, ⟨true, 0, [bl b6_0, i64 b6_1, i64 b6_2, i64 b6_3, i64 b6_4, .sl true 6 b6_5.length ((eSol true).f b6_5)]⟩), (7, ⟨true, 0, [bl b7_0, i64 b7_1, i64 b7_2, i64 b7_3, i64 b7_4, .sl true 6 b7_5.length ((eSol true).f b7_5)]⟩)]⟩ := by
  unfold Dlaws_FnExactAgain_0 at h
  refine x_frk 0 [] onil h (by kernel_rfl) (fun h => ?_) (fun h => ?_)
  · replace h := Option.some.inj h; subst h
    exact x_end 4 [] [] onil onil (by kernel_rfl)
  · obtain ⟨v6, hv6, h⟩ := bind_some h
    obtain ⟨v7, hv7, h⟩ := bind_some h
    refine x_frk 10 [(0, .rows [(eSol false).f b6_5]), (1, .call [] [] (.agg [bl v6.inn, i64 v6.pl.A, i64 v6.pl.B, i64 v6.pl.C, i64 v6.pl.D, .sl true 6 v6.kids.length ((eSol true).f v6.kids)]) []), (0, .call [] [(eSol false).f v6.kids] (bl v7) [])] (ocons (Enc.share (eSol true) (eSol false) (sSol true) b6_5) (ocons (gv (l := [(u0, oldS K0)]) (Tlaws_toSolid n (Sol.mk b1_0 (Pl.mk b1_1 b1_2 b1_3 b1_4) K0) _ hv6) (oCons (oSol (u := u0) (K := K0) (by simp)) oNil)) (ocons (gv (l := [(u0, oldS K0)]) (Tlaws_eqSolid n (Sol.mk b6_0 (Pl.mk b6_1 b6_2 b6_3 b6_4) b6_5) v6 _ hv7) (oCons (oSame _) (oCons (oSame _) oNil))) (ocons (Enc.share (eSol true) (eSol false) (sSol true) v6.kids) onil)))) h (by kernel_rfl) (fun h => ?_) (fun h => ?_)
    · replace h := Option.some.inj h; subst h
      exact x_end 4 [] [] onil onil (by kernel_rfl)
    · exact x_to 6 [] onil (Tlaws_FnExactAgain_1 u0 hE hM n K0 t5 t8 1 b1_0 b1_1 b1_2 b1_3 b1_4 b4_0 b4_1 b4_2 b4_3 b4_4 b4_5 b6_0 b6_1 b6_2 b6_3 b6_4 b6_5 b7_0 b7_1 b7_2 b7_3 b7_4 b7_5 r h) (by kernel_rfl)
def Dlaws_FnExactAgain (n : Nat) (K0 : List Sol) (a0 : Sol) : Option Bool :=
  (Dlaws_szSolid n (Sol.mk a0.inn a0.pl K0) 1048576).bind fun v0 => frk (decide (v0 < 0)) (some true) ((Dlaws_toSolid n (Sol.mk a0.inn a0.pl K0)).bind fun v1 => (Dspec_Again n v1).bind fun v2 => (Dlaws_toSolid n (Sol.mk a0.inn a0.pl K0)).bind fun v3 => (Dimpl_Again n v3).bind fun v4 => (Dlaws_eqSolid n v4.1 v2.1).bind fun v5 => frk (!v5) (some false) (Dlaws_FnExactAgain_0 n K0 v2.2 v4.2 (!(v4.2 == v2.2)) a0.inn a0.pl.A a0.pl.B a0.pl.C a0.pl.D v2.1.inn v2.1.pl.A v2.1.pl.B v2.1.pl.C v2.1.pl.D v2.1.kids v3.inn v3.pl.A v3.pl.B v3.pl.C v3.pl.D v3.kids v4.1.inn v4.1.pl.A v4.1.pl.B v4.1.pl.C v4.1.pl.D v4.1.kids))
theorem Tlaws_FnExactAgain (u0 : Value) (hE : EqtOk Try.prog H) (hM : Try.prog.follows .mixedOrders = true) (n : Nat) (K0 : List Sol) (a0 : Sol) (r : Bool) (h : Dlaws_FnExactAgain n K0 a0 = some r) : Big Try.prog (HL [(u0, oldS K0)]) (YL [(u0, oldS K0)]) (.call 3 [.agg [bl a0.inn, i64 a0.pl.A, i64 a0.pl.B, i64 a0.pl.C, i64 a0.pl.D, .lit u0]] (lk []) (bl r) (lk [])) := by
  unfold Dlaws_FnExactAgain at h
  refine x_call (fn := Try.f3) (c := bodyOf Try.f3) (bs0 := []) Try.func3 (by kernel_rfl) (by kernel_rfl) ?_
  obtain ⟨v0, hv0, h⟩ := bind_some h
  refine x_frk 22 [(5, .call [] [] (i64 v0) [])] (ocons (gv (l := [(u0, oldS K0)]) (Tlaws_szSolid n (Sol.mk a0.inn a0.pl K0) 1048576 _ hv0) (oCons (oSol (u := u0) (K := K0) (by simp)) (oCons (oSame _) oNil))) onil) h (by kernel_rfl) (fun h => ?_) (fun h => ?_)
  · replace h := Option.some.inj h; subst h
    exact x_end 4 [] [] onil onil (by kernel_rfl)
  · obtain ⟨v1, hv1, h⟩ := bind_some h
    obtain ⟨v2, hv2, h⟩ := bind_some h
    obtain ⟨v3, hv3, h⟩ := bind_some h
    obtain ⟨v4, hv4, h⟩ := bind_some h
    obtain ⟨v5, hv5, h⟩ := bind_some h
    refine x_frk 39 [(1, .call [] [] (.agg [bl v1.inn, i64 v1.pl.A, i64 v1.pl.B, i64 v1.pl.C, i64 v1.pl.D, .sl true 6 v1.kids.length ((eSol true).f v1.kids)]) []), (0, .call [] [(eSol false).f v1.kids] (.tup [.agg [bl v2.1.inn, i64 v2.1.pl.A, i64 v2.1.pl.B, i64 v2.1.pl.C, i64 v2.1.pl.D, .sl true 6 v2.1.kids.length ((eSol true).f v2.1.kids)], bl v2.2]) []), (7, .call [] [] (.agg [bl v3.inn, i64 v3.pl.A, i64 v3.pl.B, i64 v3.pl.C, i64 v3.pl.D, .sl true 6 v3.kids.length ((eSol true).f v3.kids)]) []), (2, .rows [(eSol false).f v3.kids]), (0, .call [] [] (.tup [.agg [bl v4.1.inn, i64 v4.1.pl.A, i64 v4.1.pl.B, i64 v4.1.pl.C, i64 v4.1.pl.D, .sl true 6 v4.1.kids.length ((eSol true).f v4.1.kids)], bl v4.2]) []), (6, .rows [(eSol false).f v4.1.kids]), (0, .rows [(eSol false).f v2.1.kids]), (0, .call [] [] (bl v5) [])] (ocons (gv (l := [(u0, oldS K0)]) (Tlaws_toSolid n (Sol.mk a0.inn a0.pl K0) _ hv1) (oCons (oSol (u := u0) (K := K0) (by simp)) oNil)) (ocons (gv (l := [(u0, oldS K0)]) (Tspec_Again n v1 _ hv2) (oCons (oSame _) oNil)) (ocons (Enc.share (eSol true) (eSol false) (sSol true) v1.kids) (ocons (gv (l := [(u0, oldS K0)]) (Tlaws_toSolid n (Sol.mk a0.inn a0.pl K0) _ hv3) (oCons (oSol (u := u0) (K := K0) (by simp)) oNil)) (ocons (Enc.share (eSol true) (eSol false) (sSol true) v3.kids) (ocons (gv (l := [(u0, oldS K0)]) (Timpl_Again n v3 _ hv4) (oCons (oSame _) oNil)) (ocons (Enc.share (eSol true) (eSol false) (sSol true) v4.1.kids) (ocons (Enc.share (eSol true) (eSol false) (sSol true) v2.1.kids) (ocons (gv (l := [(u0, oldS K0)]) (Tlaws_eqSolid n v4.1 v2.1 _ hv5) (oCons (oSame _) (oCons (oSame _) oNil))) onil))))))))) h (by kernel_rfl) (fun h => ?_) (fun h => ?_)
    · replace h := Option.some.inj h; subst h
      exact x_end 10 [] [] onil onil (by kernel_rfl)
    · exact x_to 5 [] onil (Tlaws_FnExactAgain_0 u0 hE hM n K0 v2.2 v4.2 (!(v4.2 == v2.2)) a0.inn a0.pl.A a0.pl.B a0.pl.C a0.pl.D v2.1.inn v2.1.pl.A v2.1.pl.B v2.1.pl.C v2.1.pl.D v2.1.kids v3.inn v3.pl.A v3.pl.B v3.pl.C v3.pl.D v3.kids v4.1.inn v4.1.pl.A v4.1.pl.B v4.1.pl.C v4.1.pl.D v4.1.kids r h) (by kernel_rfl)
end Evl.T
