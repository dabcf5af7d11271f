/- Walks. No condition. -/
import Derived.Test.YtomdcfehnigklaaJm
import Derived.Test.YtomdcfehnigklaaChecked
namespace Evl.T
open Go Evl Go.Proofs
set_option maxRecDepth 100000
def HF : FuncId → Bool := fun f => [6, 20, 39].contains f
def HB : Hints := { mv := hasP [(29, 33), (30, 27), (88, 88), (88, 89), (134, 8), (134, 9), (136, 8), (136, 9), (146, 48), (146, 49)], own := hasP [(60, 1), (65, 0), (67, 0), (134, 1), (134, 2), (136, 1), (136, 2), (189, 1), (189, 2), (200, 2), (200, 3)], mt := hasP [(87, 0), (88, 0), (89, 0), (90, 0), (91, 0), (92, 0), (93, 0), (132, 0), (145, 0), (146, 0), (147, 0), (148, 0), (149, 0), (150, 0), (175, 0), (185, 0), (186, 0), (188, 0), (199, 0), (200, 0), (217, 0)], eqt := fun t => [30, 104].contains t }
def H : Hints := withMarks HB Try.prog HF fun _ _ => True
def HL (l : List (Value × AV)) : Hints := HLg HB Try.prog HF l
def YL (l : List (Value × AV)) : FuncId → List AV → (Nat → Option Box) → AV → (Nat → Option Box) → Prop := YLg H Try.prog l
theorem gv {l : List (Value × AV)} {f : FuncId} {args args' : List AV} {bx bx' : Nat → Option Box} {r : AV} (h : Big Try.prog H (fun _ _ _ _ _ => False) (.call f args' bx r bx')) (ho : OldAs l args args') : Big Try.prog (HL l) (YL l) (.call f args bx r bx') := gvL h ho
/-! laws.szSolidS -/
def Dlaws_szSolidS_in_0 (_n : Nat) (self : (Sol × Int) → Option Int) (t0 : List Sol) (rec0 : (Int × Int) → Option Int) (a : (Int × Int)) : Option Int :=
  match a with
  | (t1, t5) => frk (decide (t5 < (t0.length : Int))) ((lget t0 t5).bind fun v0 => (self (v0, t1)).bind fun v1 => frk (decide (v1 < 0)) (some (-1)) (rec0 (v1, w64 (t5 + 1)))) (some t1)
theorem Tlaws_szSolidS_in_0 {Y} (n : Nat) (self : (Sol × Int) → Option Int) (hself : ∀ (a : (Sol × Int)) (r : Int), self a = some r → Big Try.prog H Y (.call 14 [.agg [bl a.1.inn, i64 a.1.pl.A, i64 a.1.pl.B, i64 a.1.pl.C, i64 a.1.pl.D, .sl false 6 a.1.kids.length ((eSol false).f a.1.kids)], i64 a.2] (lk []) (i64 r) (lk []))) (t0 : List Sol) : ∀ (m : Nat) (a : (Int × Int)) (r : Int), loopN (Dlaws_szSolidS_in_0 n self t0) m a = some r → Wk Try.prog H Y 34 [.code (cp [1, 1, 1, 0, 1, 0] (bodyOf Try.f34)), .blk 0, .code (cp [1, 1, 1, 1] (bodyOf Try.f34))] (FinX Try.prog Try.f34 [] (i64 r) []) ⟨[(0, .sl false 6 t0.length ((eSol false).f t0)), (1, i64 a.1), (5, i64 a.2)], []⟩ := by
  refine loopN_ind (fun _rec0 hrec0 a r h => ?_)
  obtain ⟨t1, t5⟩ := a
  unfold Dlaws_szSolidS_in_0 at h
  refine x_frk 9 [] onil h (by kernel_rfl) (fun h => ?_) (fun h => ?_)
  · obtain ⟨v0, hv0, h⟩ := bind_some h
    obtain ⟨v1, hv1, h⟩ := bind_some h
    refine x_frk 18 [(2, .val (.cptr ((eSol false).c v0 ++ (eSol false).f ((t0).drop (Int.toNat t5 + 1))))), (2, .call [] [] (i64 v1) [])] (ocons (ix (eSol false) hv0) (ocons (hself (v0, t1) _ hv1) onil)) h (by kernel_rfl) (fun h => ?_) (fun h => ?_)
    · replace h := Option.some.inj h; subst h
      exact x_end 4 [] [] onil onil (by kernel_rfl)
    · exact x_to 8 [] onil (hrec0 (v1, w64 (t5 + 1)) r h) (by kernel_rfl)
  · replace h := Option.some.inj h; subst h
    exact x_end 6 [] [] onil onil (by kernel_rfl)
def Dlaws_szSolidS_in (n : Nat) (self : (Sol × Int) → Option Int) (a0 : (List Sol)) (a1 : Int) : Option Int :=
  frk (decide ((w64 (a1 - (a0.length : Int))) < 0)) (some (-1)) (loopN (Dlaws_szSolidS_in_0 n self a0) n (w64 (a1 - (a0.length : Int)), 0))
theorem Tlaws_szSolidS_in {Y} (n : Nat) (self : (Sol × Int) → Option Int) (hself : ∀ (a : (Sol × Int)) (r : Int), self a = some r → Big Try.prog H Y (.call 14 [.agg [bl a.1.inn, i64 a.1.pl.A, i64 a.1.pl.B, i64 a.1.pl.C, i64 a.1.pl.D, .sl false 6 a.1.kids.length ((eSol false).f a.1.kids)], i64 a.2] (lk []) (i64 r) (lk []))) (a0 : (List Sol)) (a1 : Int) (r : Int) (h : Dlaws_szSolidS_in n self a0 a1 = some r) : Big Try.prog H Y (.call 34 [.sl false 6 a0.length ((eSol false).f a0), i64 a1] (lk []) (i64 r) (lk [])) := by
  unfold Dlaws_szSolidS_in at h
  refine x_call (fn := Try.f34) (c := bodyOf Try.f34) (bs0 := []) Try.func34 (by kernel_rfl) (by kernel_rfl) ?_
  refine x_frk 18 [] onil h (by kernel_rfl) (fun h => ?_) (fun h => ?_)
  · replace h := Option.some.inj h; subst h
    exact x_end 4 [] [] onil onil (by kernel_rfl)
  · exact x_to 7 [] onil (Tlaws_szSolidS_in_0 n self hself a0 n (w64 (a1 - (a0.length : Int)), 0) r h) (by kernel_rfl)
/-! laws.szSolid -/
def Dlaws_szSolid_b (n : Nat) (self : (Sol × Int) → Option Int) (a : (Sol × Int)) : Option Int :=
  match a with
  | (a0, a1) => (Dlaws_szSolidS_in n self a0.kids a1).bind fun v0 => frk (decide (v0 < 0)) (some (-1)) (some v0)
def Dlaws_szSolid (n : Nat) (a0 : Sol) (a1 : Int) : Option Int := loopN (Dlaws_szSolid_b n) n (a0, a1)
theorem Tlaws_szSolid_b {Y} (n : Nat) : ∀ (m : Nat) (a : (Sol × Int)) (r : Int), loopN (Dlaws_szSolid_b n) m a = some r → ∀ (_ : Unit), Big Try.prog H Y (.call 14 [.agg [bl a.1.inn, i64 a.1.pl.A, i64 a.1.pl.B, i64 a.1.pl.C, i64 a.1.pl.D, .sl false 6 a.1.kids.length ((eSol false).f a.1.kids)], i64 a.2] (lk []) (i64 r) (lk [])) := by
  refine loopN_ind (fun self hs a r h => ?_)
  have hself : ∀ (a : (Sol × Int)) (r : Int), self a = some r → Big Try.prog H Y (.call 14 [.agg [bl a.1.inn, i64 a.1.pl.A, i64 a.1.pl.B, i64 a.1.pl.C, i64 a.1.pl.D, .sl false 6 a.1.kids.length ((eSol false).f a.1.kids)], i64 a.2] (lk []) (i64 r) (lk [])) := fun a r h => hs a r h ()
  intro _
  obtain ⟨a0, a1⟩ := a
  unfold Dlaws_szSolid_b at h
  refine x_call (fn := Try.f14) (c := bodyOf Try.f14) (bs0 := []) Try.func14 (by kernel_rfl) (by kernel_rfl) ?_
  obtain ⟨v0, hv0, h⟩ := bind_some h
  refine x_frk 19 [(5, .call [] [] (i64 v0) [])] (ocons (Tlaws_szSolidS_in (Y := Y) n self hself a0.kids a1 _ hv0) onil) h (by kernel_rfl) (fun h => ?_) (fun h => ?_)
  · replace h := Option.some.inj h; subst h
    exact x_end 4 [] [] onil onil (by kernel_rfl)
  · replace h := Option.some.inj h; subst h
    exact x_end 6 [] [] onil onil (by kernel_rfl)
theorem Tlaws_szSolid {Y} (n : Nat) (a0 : Sol) (a1 : Int) (r : Int) (h : Dlaws_szSolid n a0 a1 = some r) : Big Try.prog H Y (.call 14 [.agg [bl a0.inn, i64 a0.pl.A, i64 a0.pl.B, i64 a0.pl.C, i64 a0.pl.D, .sl false 6 a0.kids.length ((eSol false).f a0.kids)], i64 a1] (lk []) (i64 r) (lk [])) := Tlaws_szSolid_b n n (a0, a1) r h ()
/-! laws.toPlane -/
def Dlaws_toPlane (a0 : Pl) : Option Pl :=
  some a0
theorem Tlaws_toPlane {Y} (a0 : Pl) (r : Pl) (h : Dlaws_toPlane a0 = some r) : Big Try.prog H Y (.call 63 [.agg [i64 a0.A, i64 a0.B, i64 a0.C, i64 a0.D]] (lk []) (.agg [i64 r.A, i64 r.B, i64 r.C, i64 r.D]) (lk [])) := by
  unfold Dlaws_toPlane at h
  refine x_call (fn := Try.f63) (c := bodyOf Try.f63) (bs0 := []) Try.func63 (by kernel_rfl) (by kernel_rfl) ?_
  replace h := Option.some.inj h; subst h
  exact x_end 42 [] [] onil onil (by kernel_rfl)
/-! laws.toSolidS -/
def Dlaws_toSolidS_in_0 (_n : Nat) (self : Sol → Option Sol) (t0 : List Sol) (rec0 : (Int × List Sol) → Option (List Sol)) (a : (Int × List Sol)) : Option (List Sol) :=
  match a with
  | (t4, l7) => frk (decide (t4 < (t0.length : Int))) ((lget t0 t4).bind fun v1 => (self v1).bind fun v2 => (lget l7 t4).bind fun _v3 => rec0 (w64 (t4 + 1), (l7.set (Int.toNat t4) v2))) (some l7)
theorem Tlaws_toSolidS_in_0 {Y} (n : Nat) (self : Sol → Option Sol) (hself : ∀ (a : Sol) (r : Sol), self a = some r → Big Try.prog H Y (.call 16 [.agg [bl a.inn, i64 a.pl.A, i64 a.pl.B, i64 a.pl.C, i64 a.pl.D, .sl false 6 a.kids.length ((eSol false).f a.kids)]] (lk []) (.agg [bl r.inn, i64 r.pl.A, i64 r.pl.B, i64 r.pl.C, i64 r.pl.D, .sl true 6 r.kids.length ((eSol true).f r.kids)]) (lk []))) (t0 : List Sol) : ∀ (m : Nat) (a : (Int × List Sol)) (r : (List Sol)), loopN (Dlaws_toSolidS_in_0 n self t0) m a = some r → Wk Try.prog H Y 36 [.code (cp [1, 1, 0, 1, 0] (bodyOf Try.f36)), .blk 0, .code (cp [1, 1, 1] (bodyOf Try.f36))] (FinX Try.prog Try.f36 [] (.sl true 6 r.length ((eSol true).f r)) []) ⟨[(0, .sl false 6 t0.length ((eSol false).f t0)), (3, .msl 7 a.2.length), (4, i64 a.1)], [(7, ⟨true, 6, (eSol true).f a.2⟩)]⟩ := by
  refine loopN_ind (fun _rec0 hrec0 a r h => ?_)
  obtain ⟨t4, l7⟩ := a
  unfold Dlaws_toSolidS_in_0 at h
  refine x_frk 9 [] onil h (by kernel_rfl) (fun h => ?_) (fun h => ?_)
  · obtain ⟨v1, hv1, h⟩ := bind_some h
    obtain ⟨v2, hv2, h⟩ := bind_some h
    obtain ⟨_v3, hv3, h⟩ := bind_some h
    exact x_to 23 [(4, .val (.cptr ((eSol false).c v1 ++ (eSol false).f ((t0).drop (Int.toNat t4 + 1))))), (1, .call [] [] (.agg [bl v2.inn, i64 v2.pl.A, i64 v2.pl.B, i64 v2.pl.C, i64 v2.pl.D, .sl true 6 v2.kids.length ((eSol true).f v2.kids)]) []), (0, .unit), (0, .cells ((eSol true).f (l7.set (Int.toNat t4) v2))), (0, .fix 3 (.msl 7 (l7.set (Int.toNat t4) v2).length)), (0, .fix 14 (.msl 7 (l7.set (Int.toNat t4) v2).length))] (ocons (ix (eSol false) hv1) (ocons (hself v1 _ hv2) (ocons (inr hv3) (ocons (stA (eSol true) hv3 0 6 [bl v2.inn, i64 v2.pl.A, i64 v2.pl.B, i64 v2.pl.C, i64 v2.pl.D, .sl true 6 v2.kids.length ((eSol true).f v2.kids)] v2 rfl rfl) (ocons (setLen 7 l7 (Int.toNat t4) v2) (ocons (setLen 7 l7 (Int.toNat t4) v2) onil)))))) (hrec0 (w64 (t4 + 1), (l7.set (Int.toNat t4) v2)) r h) (by kernel_rfl)
  · replace h := Option.some.inj h; subst h
    exact x_end 6 [] [] onil (ocons (len_row (L := l7) (eSol true)) onil) (by kernel_rfl)
def Dlaws_toSolidS_in (n : Nat) (self : Sol → Option Sol) (a0 : (List Sol)) : Option (List Sol) :=
  chk (mkB (a0.length : Int) 64) (loopN (Dlaws_toSolidS_in_0 n self a0) n (0, (List.replicate (Int.toNat (a0.length : Int)) zSol)))
theorem Tlaws_toSolidS_in {Y} (n : Nat) (self : Sol → Option Sol) (hself : ∀ (a : Sol) (r : Sol), self a = some r → Big Try.prog H Y (.call 16 [.agg [bl a.inn, i64 a.pl.A, i64 a.pl.B, i64 a.pl.C, i64 a.pl.D, .sl false 6 a.kids.length ((eSol false).f a.kids)]] (lk []) (.agg [bl r.inn, i64 r.pl.A, i64 r.pl.B, i64 r.pl.C, i64 r.pl.D, .sl true 6 r.kids.length ((eSol true).f r.kids)]) (lk []))) (a0 : (List Sol)) (r : (List Sol)) (h : Dlaws_toSolidS_in n self a0 = some r) : Big Try.prog H Y (.call 36 [.sl false 6 a0.length ((eSol false).f a0)] (lk []) (.sl true 6 r.length ((eSol true).f r)) (lk [])) := by
  unfold Dlaws_toSolidS_in at h
  refine x_call (fn := Try.f36) (c := bodyOf Try.f36) (bs0 := []) Try.func36 (by kernel_rfl) (by kernel_rfl) ?_
  obtain ⟨c0, h⟩ := chk_some h
  exact x_to 20 [(3, .mk (List.replicate (Int.toNat (a0.length : Int)) ()).length (eZs.f (List.replicate (Int.toNat (a0.length : Int)) ()))), (1, .wkb 7 ⟨true, 6, eZs.f (List.replicate (Int.toNat (a0.length : Int)) ())⟩ ⟨true, 6, (eSol true).f (List.replicate (Int.toNat (a0.length : Int)) zSol)⟩), (0, .fix 3 (.msl 7 (List.replicate (Int.toNat (a0.length : Int)) zSol).length)), (0, .fix 7 (.msl 7 (List.replicate (Int.toNat (a0.length : Int)) zSol).length))] (ocons (rflI (a0.length : Int)) (ocons (mkOk eZs c0 () rfl) (ocons (rflB ⟨true, 6, eZs.f (List.replicate (Int.toNat (a0.length : Int)) ())⟩) (ocons (wkZs true true (Int.toNat (a0.length : Int))) (ocons (congrArg (AV.msl 7) (zLen (Int.toNat (a0.length : Int)))) (ocons (congrArg (AV.msl 7) (zLen (Int.toNat (a0.length : Int)))) onil)))))) (Tlaws_toSolidS_in_0 n self hself a0 n (0, (List.replicate (Int.toNat (a0.length : Int)) zSol)) r h) (by kernel_rfl)
/-! laws.toSolid -/
def Dlaws_toSolid_b (n : Nat) (self : Sol → Option Sol) (a : Sol) : Option Sol :=
  match a with
  | a0 => (Dlaws_toPlane a0.pl).bind fun v0 => (Dlaws_toSolidS_in n self a0.kids).bind fun v1 => some (Sol.mk a0.inn v0 v1)
def Dlaws_toSolid (n : Nat) (a0 : Sol) : Option Sol := loopN (Dlaws_toSolid_b n) n a0
theorem Tlaws_toSolid_b {Y} (n : Nat) : ∀ (m : Nat) (a : Sol) (r : Sol), loopN (Dlaws_toSolid_b n) m a = some r → ∀ (_ : Unit), Big Try.prog H Y (.call 16 [.agg [bl a.inn, i64 a.pl.A, i64 a.pl.B, i64 a.pl.C, i64 a.pl.D, .sl false 6 a.kids.length ((eSol false).f a.kids)]] (lk []) (.agg [bl r.inn, i64 r.pl.A, i64 r.pl.B, i64 r.pl.C, i64 r.pl.D, .sl true 6 r.kids.length ((eSol true).f r.kids)]) (lk [])) := by
  refine loopN_ind (fun self hs a r h => ?_)
  have hself : ∀ (a : Sol) (r : Sol), self a = some r → Big Try.prog H Y (.call 16 [.agg [bl a.inn, i64 a.pl.A, i64 a.pl.B, i64 a.pl.C, i64 a.pl.D, .sl false 6 a.kids.length ((eSol false).f a.kids)]] (lk []) (.agg [bl r.inn, i64 r.pl.A, i64 r.pl.B, i64 r.pl.C, i64 r.pl.D, .sl true 6 r.kids.length ((eSol true).f r.kids)]) (lk [])) := fun a r h => hs a r h ()
  intro _
  obtain ⟨a0, rfl⟩ : ∃ x, x = a := ⟨a, rfl⟩
  unfold Dlaws_toSolid_b at h
  refine x_call (fn := Try.f16) (c := bodyOf Try.f16) (bs0 := []) Try.func16 (by kernel_rfl) (by kernel_rfl) ?_
  obtain ⟨v0, hv0, h⟩ := bind_some h
  obtain ⟨v1, hv1, h⟩ := bind_some h
  replace h := Option.some.inj h; subst h
  exact x_end 37 [(9, .call [] [] (.agg [i64 v0.A, i64 v0.B, i64 v0.C, i64 v0.D]) []), (4, .call [] [] (.sl true 6 v1.length ((eSol true).f v1)) [])] [] (ocons (Tlaws_toPlane (Y := Y) a0.pl _ hv0) (ocons (Tlaws_toSolidS_in (Y := Y) n self hself a0.kids _ hv1) onil)) (ocons (len_row (L := v1) (eSol true)) onil) (by kernel_rfl)
theorem Tlaws_toSolid {Y} (n : Nat) (a0 : Sol) (r : Sol) (h : Dlaws_toSolid n a0 = some r) : Big Try.prog H Y (.call 16 [.agg [bl a0.inn, i64 a0.pl.A, i64 a0.pl.B, i64 a0.pl.C, i64 a0.pl.D, .sl false 6 a0.kids.length ((eSol false).f a0.kids)]] (lk []) (.agg [bl r.inn, i64 r.pl.A, i64 r.pl.B, i64 r.pl.C, i64 r.pl.D, .sl true 6 r.kids.length ((eSol true).f r.kids)]) (lk [])) := Tlaws_toSolid_b n n a0 r h ()
/-! laws.eqPlane -/
def Dlaws_eqPlane (a0 : Pl) (a1 : Pl) : Option Bool :=
  frk (a0.A != a1.A) (some false) (frk (a0.B != a1.B) (some false) (frk (a0.C != a1.C) (some false) (frk (a0.D != a1.D) (some false) (some true))))
theorem Tlaws_eqPlane {Y} (a0 : Pl) (a1 : Pl) (r : Bool) (h : Dlaws_eqPlane a0 a1 = some r) : Big Try.prog H Y (.call 68 [.agg [i64 a0.A, i64 a0.B, i64 a0.C, i64 a0.D], .agg [i64 a1.A, i64 a1.B, i64 a1.C, i64 a1.D]] (lk []) (bl r) (lk [])) := by
  unfold Dlaws_eqPlane at h
  refine x_call (fn := Try.f68) (c := bodyOf Try.f68) (bs0 := []) Try.func68 (by kernel_rfl) (by kernel_rfl) ?_
  refine x_frk 15 [] onil h (by kernel_rfl) (fun h => ?_) (fun h => ?_)
  · replace h := Option.some.inj h; subst h
    exact x_end 4 [] [] onil onil (by kernel_rfl)
  · refine x_frk 10 [] onil h (by kernel_rfl) (fun h => ?_) (fun h => ?_)
    · replace h := Option.some.inj h; subst h
      exact x_end 4 [] [] onil onil (by kernel_rfl)
    · refine x_frk 10 [] onil h (by kernel_rfl) (fun h => ?_) (fun h => ?_)
      · replace h := Option.some.inj h; subst h
        exact x_end 4 [] [] onil onil (by kernel_rfl)
      · refine x_frk 10 [] onil h (by kernel_rfl) (fun h => ?_) (fun h => ?_)
        · replace h := Option.some.inj h; subst h
          exact x_end 4 [] [] onil onil (by kernel_rfl)
        · replace h := Option.some.inj h; subst h
          exact x_end 5 [] [] onil onil (by kernel_rfl)
/-! laws.eqSolidS -/
def Dlaws_eqSolidS_in_0 (_n : Nat) (self : (Sol × Sol) → Option Bool) (t0 : List Sol) (t1 : List Sol) (rec0 : Int → Option Bool) (a : Int) : Option Bool :=
  match a with
  | t5 => frk (decide (t5 < (t0.length : Int))) ((lget t0 t5).bind fun v0 => (lget t1 t5).bind fun v1 => (self (v0, v1)).bind fun v2 => frk (!v2) (some false) (rec0 (w64 (t5 + 1)))) (some true)
theorem Tlaws_eqSolidS_in_0 {Y} (n : Nat) (self : (Sol × Sol) → Option Bool) (hself : ∀ (a : (Sol × Sol)) (r : Bool), self a = some r → Big Try.prog H Y (.call 19 [.agg [bl a.1.inn, i64 a.1.pl.A, i64 a.1.pl.B, i64 a.1.pl.C, i64 a.1.pl.D, .sl false 6 a.1.kids.length ((eSol false).f a.1.kids)], .agg [bl a.2.inn, i64 a.2.pl.A, i64 a.2.pl.B, i64 a.2.pl.C, i64 a.2.pl.D, .sl false 6 a.2.kids.length ((eSol false).f a.2.kids)]] (lk []) (bl r) (lk []))) (t0 : List Sol) (t1 : List Sol) : ∀ (m : Nat) (a : Int) (r : Bool), loopN (Dlaws_eqSolidS_in_0 n self t0 t1) m a = some r → Wk Try.prog H Y 38 [.code (cp [1, 1, 0, 1, 0] (bodyOf Try.f38)), .blk 0, .code (cp [1, 1, 1] (bodyOf Try.f38))] (FinX Try.prog Try.f38 [] (bl r) []) ⟨[(0, .sl false 6 t0.length ((eSol false).f t0)), (1, .sl false 6 t1.length ((eSol false).f t1)), (5, i64 a)], []⟩ := by
  refine loopN_ind (fun _rec0 hrec0 a r h => ?_)
  obtain ⟨t5, rfl⟩ : ∃ x, x = a := ⟨a, rfl⟩
  unfold Dlaws_eqSolidS_in_0 at h
  refine x_frk 9 [] onil h (by kernel_rfl) (fun h => ?_) (fun h => ?_)
  · obtain ⟨v0, hv0, h⟩ := bind_some h
    obtain ⟨v1, hv1, h⟩ := bind_some h
    obtain ⟨v2, hv2, h⟩ := bind_some h
    refine x_frk 16 [(2, .val (.cptr ((eSol false).c v0 ++ (eSol false).f ((t0).drop (Int.toNat t5 + 1))))), (3, .val (.cptr ((eSol false).c v1 ++ (eSol false).f ((t1).drop (Int.toNat t5 + 1))))), (1, .call [] [] (bl v2) [])] (ocons (ix (eSol false) hv0) (ocons (ix (eSol false) hv1) (ocons (hself (v0, v1) _ hv2) onil))) h (by kernel_rfl) (fun h => ?_) (fun h => ?_)
    · replace h := Option.some.inj h; subst h
      exact x_end 4 [] [] onil onil (by kernel_rfl)
    · exact x_to 8 [] onil (hrec0 (w64 (t5 + 1)) r h) (by kernel_rfl)
  · replace h := Option.some.inj h; subst h
    exact x_end 5 [] [] onil onil (by kernel_rfl)
def Dlaws_eqSolidS_in (n : Nat) (self : (Sol × Sol) → Option Bool) (a0 : (List Sol)) (a1 : (List Sol)) : Option Bool :=
  frk ((a0.length : Int) != (a1.length : Int)) (some false) (loopN (Dlaws_eqSolidS_in_0 n self a0 a1) n 0)
theorem Tlaws_eqSolidS_in {Y} (n : Nat) (self : (Sol × Sol) → Option Bool) (hself : ∀ (a : (Sol × Sol)) (r : Bool), self a = some r → Big Try.prog H Y (.call 19 [.agg [bl a.1.inn, i64 a.1.pl.A, i64 a.1.pl.B, i64 a.1.pl.C, i64 a.1.pl.D, .sl false 6 a.1.kids.length ((eSol false).f a.1.kids)], .agg [bl a.2.inn, i64 a.2.pl.A, i64 a.2.pl.B, i64 a.2.pl.C, i64 a.2.pl.D, .sl false 6 a.2.kids.length ((eSol false).f a.2.kids)]] (lk []) (bl r) (lk []))) (a0 : (List Sol)) (a1 : (List Sol)) (r : Bool) (h : Dlaws_eqSolidS_in n self a0 a1 = some r) : Big Try.prog H Y (.call 38 [.sl false 6 a0.length ((eSol false).f a0), .sl false 6 a1.length ((eSol false).f a1)] (lk []) (bl r) (lk [])) := by
  unfold Dlaws_eqSolidS_in at h
  refine x_call (fn := Try.f38) (c := bodyOf Try.f38) (bs0 := []) Try.func38 (by kernel_rfl) (by kernel_rfl) ?_
  refine x_frk 13 [] onil h (by kernel_rfl) (fun h => ?_) (fun h => ?_)
  · replace h := Option.some.inj h; subst h
    exact x_end 4 [] [] onil onil (by kernel_rfl)
  · exact x_to 7 [] onil (Tlaws_eqSolidS_in_0 n self hself a0 a1 n 0 r h) (by kernel_rfl)
/-! laws.eqSolid -/
def Dlaws_eqSolid_b (n : Nat) (self : (Sol × Sol) → Option Bool) (a : (Sol × Sol)) : Option Bool :=
  match a with
  | (a0, a1) => frk (!(a0.inn == a1.inn)) (some false) ((Dlaws_eqPlane a0.pl a1.pl).bind fun v0 => frk (!v0) (some false) ((Dlaws_eqSolidS_in n self a0.kids a1.kids).bind fun v1 => frk (!v1) (some false) (some true)))
def Dlaws_eqSolid (n : Nat) (a0 : Sol) (a1 : Sol) : Option Bool := loopN (Dlaws_eqSolid_b n) n (a0, a1)
theorem Tlaws_eqSolid_b {Y} (n : Nat) : ∀ (m : Nat) (a : (Sol × Sol)) (r : Bool), loopN (Dlaws_eqSolid_b n) m a = some r → ∀ (_ : Unit), Big Try.prog H Y (.call 19 [.agg [bl a.1.inn, i64 a.1.pl.A, i64 a.1.pl.B, i64 a.1.pl.C, i64 a.1.pl.D, .sl false 6 a.1.kids.length ((eSol false).f a.1.kids)], .agg [bl a.2.inn, i64 a.2.pl.A, i64 a.2.pl.B, i64 a.2.pl.C, i64 a.2.pl.D, .sl false 6 a.2.kids.length ((eSol false).f a.2.kids)]] (lk []) (bl r) (lk [])) := by
  refine loopN_ind (fun self hs a r h => ?_)
  have hself : ∀ (a : (Sol × Sol)) (r : Bool), self a = some r → Big Try.prog H Y (.call 19 [.agg [bl a.1.inn, i64 a.1.pl.A, i64 a.1.pl.B, i64 a.1.pl.C, i64 a.1.pl.D, .sl false 6 a.1.kids.length ((eSol false).f a.1.kids)], .agg [bl a.2.inn, i64 a.2.pl.A, i64 a.2.pl.B, i64 a.2.pl.C, i64 a.2.pl.D, .sl false 6 a.2.kids.length ((eSol false).f a.2.kids)]] (lk []) (bl r) (lk [])) := fun a r h => hs a r h ()
  intro _
  obtain ⟨a0, a1⟩ := a
  unfold Dlaws_eqSolid_b at h
  refine x_call (fn := Try.f19) (c := bodyOf Try.f19) (bs0 := []) Try.func19 (by kernel_rfl) (by kernel_rfl) ?_
  refine x_frk 15 [] onil h (by kernel_rfl) (fun h => ?_) (fun h => ?_)
  · replace h := Option.some.inj h; subst h
    exact x_end 4 [] [] onil onil (by kernel_rfl)
  · obtain ⟨v0, hv0, h⟩ := bind_some h
    refine x_frk 11 [(4, .call [] [] (bl v0) [])] (ocons (Tlaws_eqPlane (Y := Y) a0.pl a1.pl _ hv0) onil) h (by kernel_rfl) (fun h => ?_) (fun h => ?_)
    · replace h := Option.some.inj h; subst h
      exact x_end 4 [] [] onil onil (by kernel_rfl)
    · obtain ⟨v1, hv1, h⟩ := bind_some h
      refine x_frk 11 [(4, .call [] [] (bl v1) [])] (ocons (Tlaws_eqSolidS_in (Y := Y) n self hself a0.kids a1.kids _ hv1) onil) h (by kernel_rfl) (fun h => ?_) (fun h => ?_)
      · replace h := Option.some.inj h; subst h
        exact x_end 4 [] [] onil onil (by kernel_rfl)
      · replace h := Option.some.inj h; subst h
        exact x_end 5 [] [] onil onil (by kernel_rfl)
theorem Tlaws_eqSolid {Y} (n : Nat) (a0 : Sol) (a1 : Sol) (r : Bool) (h : Dlaws_eqSolid n a0 a1 = some r) : Big Try.prog H Y (.call 19 [.agg [bl a0.inn, i64 a0.pl.A, i64 a0.pl.B, i64 a0.pl.C, i64 a0.pl.D, .sl false 6 a0.kids.length ((eSol false).f a0.kids)], .agg [bl a1.inn, i64 a1.pl.A, i64 a1.pl.B, i64 a1.pl.C, i64 a1.pl.D, .sl false 6 a1.kids.length ((eSol false).f a1.kids)]] (lk []) (bl r) (lk [])) := Tlaws_eqSolid_b n n (a0, a1) r h ()
/-! spec.l8Leaf -/
def Dspec_l8Leaf (a0 : Sol) : Option Bool :=
  some ((a0.kids.length : Int) == 0)
theorem Tspec_l8Leaf {Y} (a0 : Sol) (r : Bool) (h : Dspec_l8Leaf a0 = some r) : Big Try.prog H Y (.call 131 [.agg [bl a0.inn, i64 a0.pl.A, i64 a0.pl.B, i64 a0.pl.C, i64 a0.pl.D, .sl false 6 a0.kids.length ((eSol false).f a0.kids)]] (lk []) (bl r) (lk [])) := by
  unfold Dspec_l8Leaf at h
  refine x_call (fn := Try.f131) (c := bodyOf Try.f131) (bs0 := []) Try.func131 (by kernel_rfl) (by kernel_rfl) ?_
  replace h := Option.some.inj h; subst h
  exact x_end 13 [] [] onil onil (by kernel_rfl)
/-! spec.l8Count -/
def Dspec_l8Count_1 (_n : Nat) (self : (Sol × Int) → Option Int) (t1 : Int) (_b2_0 : Bool) (_b2_1 : Int) (_b2_2 : Int) (_b2_3 : Int) (_b2_4 : Int) (b2_5 : List Sol) (rec0 : (Int × Int) → Option Int) (a : (Int × Int)) : Option Int :=
  match a with
  | (t5, t6) => frk (decide (t6 < (b2_5.length : Int))) ((lget b2_5 t6).bind fun v1 => (self (v1, w64 (t1 - t5))).bind fun v2 => rec0 (w64 (t5 + v2), w64 (t6 + 1))) (some t5)
theorem Tspec_l8Count_1 {Y} (n : Nat) (self : (Sol × Int) → Option Int) (hself : ∀ (a : (Sol × Int)) (r : Int), self a = some r → Big Try.prog H Y (.call 129 [.agg [bl a.1.inn, i64 a.1.pl.A, i64 a.1.pl.B, i64 a.1.pl.C, i64 a.1.pl.D, .sl false 6 a.1.kids.length ((eSol false).f a.1.kids)], i64 a.2] (lk []) (i64 r) (lk []))) (t1 : Int) (b2_0 : Bool) (b2_1 : Int) (b2_2 : Int) (b2_3 : Int) (b2_4 : Int) (b2_5 : List Sol) : ∀ (m : Nat) (a : (Int × Int)) (r : Int), loopN (Dspec_l8Count_1 n self t1 b2_0 b2_1 b2_2 b2_3 b2_4 b2_5) m a = some r → Wk Try.prog H Y 129 [.code (cp [1, 1, 1, 0, 1, 0] (bodyOf Try.f129)), .blk 0, .code (cp [1, 1, 1, 1] (bodyOf Try.f129))] (FinX Try.prog Try.f129 [] (i64 r) []) ⟨[(1, i64 t1), (2, .ptr 2 0), (5, i64 a.1), (6, i64 a.2)], [(2, ⟨true, 0, [bl b2_0, i64 b2_1, i64 b2_2, i64 b2_3, i64 b2_4, .sl false 6 b2_5.length ((eSol false).f b2_5)]⟩)]⟩ := by
  refine loopN_ind (fun _rec0 hrec0 a r h => ?_)
  obtain ⟨t5, t6⟩ := a
  unfold Dspec_l8Count_1 at h
  refine x_frk 10 [] onil h (by kernel_rfl) (fun h => ?_) (fun h => ?_)
  · obtain ⟨v1, hv1, h⟩ := bind_some h
    obtain ⟨v2, hv2, h⟩ := bind_some h
    exact x_to 24 [(4, .val (.cptr ((eSol false).c v1 ++ (eSol false).f ((b2_5).drop (Int.toNat t6 + 1))))), (4, .call [] [] (i64 v2) [])] (ocons (ix (eSol false) hv1) (ocons (hself (v1, w64 (t1 - t5)) _ hv2) onil)) (hrec0 (w64 (t5 + v2), w64 (t6 + 1)) r h) (by kernel_rfl)
  · replace h := Option.some.inj h; subst h
    exact x_end 6 [] [] onil onil (by kernel_rfl)
def Dspec_l8Count_0 (n : Nat) (self : (Sol × Int) → Option Int) (t1 : Int) (t12 : Bool) (b2_0 : Bool) (b2_1 : Int) (b2_2 : Int) (b2_3 : Int) (b2_4 : Int) (b2_5 : List Sol) : Option Int :=
  frk t12 (some 0) (loopN (Dspec_l8Count_1 n self t1 b2_0 b2_1 b2_2 b2_3 b2_4 b2_5) n (1, 0))
theorem Tspec_l8Count_0 {Y} (n : Nat) (self : (Sol × Int) → Option Int) (hself : ∀ (a : (Sol × Int)) (r : Int), self a = some r → Big Try.prog H Y (.call 129 [.agg [bl a.1.inn, i64 a.1.pl.A, i64 a.1.pl.B, i64 a.1.pl.C, i64 a.1.pl.D, .sl false 6 a.1.kids.length ((eSol false).f a.1.kids)], i64 a.2] (lk []) (i64 r) (lk []))) (t1 : Int) (t12 : Bool) (b2_0 : Bool) (b2_1 : Int) (b2_2 : Int) (b2_3 : Int) (b2_4 : Int) (b2_5 : List Sol) (r : Int) (h : Dspec_l8Count_0 n self t1 t12 b2_0 b2_1 b2_2 b2_3 b2_4 b2_5 = some r) : Wk Try.prog H Y 129 [.code (cp [1, 0, 1] (bodyOf Try.f129)), .code (cp [1, 1] (bodyOf Try.f129))] (FinX Try.prog Try.f129 [] (i64 r) []) ⟨[(1, i64 t1), (2, .ptr 2 0), (12, bl t12)], [(2, ⟨true, 0, [bl b2_0, i64 b2_1, i64 b2_2, i64 b2_3, i64 b2_4, .sl false 6 b2_5.length ((eSol false).f b2_5)]⟩)]⟩ := by
  unfold Dspec_l8Count_0 at h
  refine x_frk 0 [] onil h (by kernel_rfl) (fun h => ?_) (fun h => ?_)
  · replace h := Option.some.inj h; subst h
    exact x_end 4 [] [] onil onil (by kernel_rfl)
  · exact x_to 11 [] onil (Tspec_l8Count_1 n self hself t1 b2_0 b2_1 b2_2 b2_3 b2_4 b2_5 n (1, 0) r h) (by kernel_rfl)
def Dspec_l8Count_b (n : Nat) (self : (Sol × Int) → Option Int) (a : (Sol × Int)) : Option Int :=
  match a with
  | (a0, a1) => (Dspec_l8Leaf a0).bind fun v0 => frk v0 (some 0) (Dspec_l8Count_0 n self a1 (decide (a1 ≤ 0)) a0.inn a0.pl.A a0.pl.B a0.pl.C a0.pl.D a0.kids)
def Dspec_l8Count (n : Nat) (a0 : Sol) (a1 : Int) : Option Int := loopN (Dspec_l8Count_b n) n (a0, a1)
theorem Tspec_l8Count_b {Y} (n : Nat) : ∀ (m : Nat) (a : (Sol × Int)) (r : Int), loopN (Dspec_l8Count_b n) m a = some r → ∀ (_ : Unit), Big Try.prog H Y (.call 129 [.agg [bl a.1.inn, i64 a.1.pl.A, i64 a.1.pl.B, i64 a.1.pl.C, i64 a.1.pl.D, .sl false 6 a.1.kids.length ((eSol false).f a.1.kids)], i64 a.2] (lk []) (i64 r) (lk [])) := by
  refine loopN_ind (fun self hs a r h => ?_)
  have hself : ∀ (a : (Sol × Int)) (r : Int), self a = some r → Big Try.prog H Y (.call 129 [.agg [bl a.1.inn, i64 a.1.pl.A, i64 a.1.pl.B, i64 a.1.pl.C, i64 a.1.pl.D, .sl false 6 a.1.kids.length ((eSol false).f a.1.kids)], i64 a.2] (lk []) (i64 r) (lk [])) := fun a r h => hs a r h ()
  intro _
  obtain ⟨a0, a1⟩ := a
  unfold Dspec_l8Count_b at h
  refine x_call (fn := Try.f129) (c := bodyOf Try.f129) (bs0 := []) Try.func129 (by kernel_rfl) (by kernel_rfl) ?_
  obtain ⟨v0, hv0, h⟩ := bind_some h
  refine x_frk 11 [(3, .call [] [] (bl v0) [])] (ocons (Tspec_l8Leaf (Y := Y) a0 _ hv0) onil) h (by kernel_rfl) (fun h => ?_) (fun h => ?_)
  · replace h := Option.some.inj h; subst h
    exact x_end 9 [] [] onil onil (by kernel_rfl)
  · exact x_to 4 [] onil (Tspec_l8Count_0 n self hself a1 (decide (a1 ≤ 0)) a0.inn a0.pl.A a0.pl.B a0.pl.C a0.pl.D a0.kids r h) (by kernel_rfl)
theorem Tspec_l8Count {Y} (n : Nat) (a0 : Sol) (a1 : Int) (r : Int) (h : Dspec_l8Count n a0 a1 = some r) : Big Try.prog H Y (.call 129 [.agg [bl a0.inn, i64 a0.pl.A, i64 a0.pl.B, i64 a0.pl.C, i64 a0.pl.D, .sl false 6 a0.kids.length ((eSol false).f a0.kids)], i64 a1] (lk []) (i64 r) (lk [])) := Tspec_l8Count_b n n (a0, a1) r h ()
/-! spec.l1In -/
def Dspec_l1In (a0 : Int) (a1 : Int) (a2 : Int) : Option Bool :=
  frk (decide (a0 ≥ a1)) (some (decide (a0 ≤ a2))) (some false)
theorem Tspec_l1In {Y} (a0 : Int) (a1 : Int) (a2 : Int) (r : Bool) (h : Dspec_l1In a0 a1 a2 = some r) : Big Try.prog H Y (.call 70 [i64 a0, i64 a1, i64 a2] (lk []) (bl r) (lk [])) := by
  unfold Dspec_l1In at h
  refine x_call (fn := Try.f70) (c := bodyOf Try.f70) (bs0 := []) Try.func70 (by kernel_rfl) (by kernel_rfl) ?_
  refine x_frk 10 [] onil h (by kernel_rfl) (fun h => ?_) (fun h => ?_)
  · replace h := Option.some.inj h; subst h
    exact x_end 6 [] [] onil onil (by kernel_rfl)
  · replace h := Option.some.inj h; subst h
    exact x_end 6 [] [] onil onil (by kernel_rfl)
/-! spec.l3In -/
def Dspec_l3In (a0 : Pl) : Option Bool :=
  (Dspec_l1In a0.A (-500) 500).bind fun v0 => frk v0 ((Dspec_l1In a0.B (-500) 500).bind fun v1 => frk v1 ((Dspec_l1In a0.C (-500) 500).bind fun v2 => frk v2 ((Dspec_l1In a0.D (-500) 500).bind fun v3 => some v3) (some false)) (some false)) (some false)
theorem Tspec_l3In {Y} (a0 : Pl) (r : Bool) (h : Dspec_l3In a0 = some r) : Big Try.prog H Y (.call 170 [.agg [i64 a0.A, i64 a0.B, i64 a0.C, i64 a0.D]] (lk []) (bl r) (lk [])) := by
  unfold Dspec_l3In at h
  refine x_call (fn := Try.f170) (c := bodyOf Try.f170) (bs0 := []) Try.func170 (by kernel_rfl) (by kernel_rfl) ?_
  obtain ⟨v0, hv0, h⟩ := bind_some h
  refine x_frk 18 [(8, .call [] [] (bl v0) [])] (ocons (Tspec_l1In (Y := Y) a0.A (-500) 500 _ hv0) onil) h (by kernel_rfl) (fun h => ?_) (fun h => ?_)
  · obtain ⟨v1, hv1, h⟩ := bind_some h
    refine x_frk 8 [(5, .call [] [] (bl v1) [])] (ocons (Tspec_l1In (Y := Y) a0.B (-500) 500 _ hv1) onil) h (by kernel_rfl) (fun h => ?_) (fun h => ?_)
    · obtain ⟨v2, hv2, h⟩ := bind_some h
      refine x_frk 8 [(5, .call [] [] (bl v2) [])] (ocons (Tspec_l1In (Y := Y) a0.C (-500) 500 _ hv2) onil) h (by kernel_rfl) (fun h => ?_) (fun h => ?_)
      · obtain ⟨v3, hv3, h⟩ := bind_some h
        replace h := Option.some.inj h; subst h
        exact x_end 9 [(5, .call [] [] (bl v3) [])] [] (ocons (Tspec_l1In (Y := Y) a0.D (-500) 500 _ hv3) onil) onil (by kernel_rfl)
      · replace h := Option.some.inj h; subst h
        exact x_end 9 [] [] onil onil (by kernel_rfl)
    · replace h := Option.some.inj h; subst h
      exact x_end 17 [] [] onil onil (by kernel_rfl)
  · replace h := Option.some.inj h; subst h
    exact x_end 25 [] [] onil onil (by kernel_rfl)
/-! spec.l3Abs -/
def Dspec_l3Abs (a0 : Int) : Option Int :=
  frk (decide (a0 < 0)) (some (w64 (0 - a0))) (some a0)
theorem Tspec_l3Abs {Y} (a0 : Int) (r : Int) (h : Dspec_l3Abs a0 = some r) : Big Try.prog H Y (.call 169 [i64 a0] (lk []) (i64 r) (lk [])) := by
  unfold Dspec_l3Abs at h
  refine x_call (fn := Try.f169) (c := bodyOf Try.f169) (bs0 := []) Try.func169 (by kernel_rfl) (by kernel_rfl) ?_
  refine x_frk 10 [] onil h (by kernel_rfl) (fun h => ?_) (fun h => ?_)
  · replace h := Option.some.inj h; subst h
    exact x_end 6 [] [] onil onil (by kernel_rfl)
  · replace h := Option.some.inj h; subst h
    exact x_end 6 [] [] onil onil (by kernel_rfl)
/-! spec.l3Gcd -/
def Dspec_l3Gcd_0 (_n : Nat) (rec0 : (Int × Int) → Option Int) (a : (Int × Int)) : Option Int :=
  match a with
  | (t0, t1) => frk (decide (t1 > 0)) ((rm .i64 t0 t1).bind fun v2 => rec0 (t1, v2)) (some t0)
theorem Tspec_l3Gcd_0 {Y} (n : Nat) : ∀ (m : Nat) (a : (Int × Int)) (r : Int), loopN (Dspec_l3Gcd_0 n) m a = some r → Wk Try.prog H Y 171 [.code (cp [1, 1, 1, 0, 0] (bodyOf Try.f171)), .blk 0, .code (cp [1, 1, 1, 1] (bodyOf Try.f171))] (FinX Try.prog Try.f171 [] (i64 r) []) ⟨[(0, i64 a.1), (1, i64 a.2)], []⟩ := by
  refine loopN_ind (fun _rec0 hrec0 a r h => ?_)
  obtain ⟨_t0, t1⟩ := a
  unfold Dspec_l3Gcd_0 at h
  refine x_frk 7 [] onil h (by kernel_rfl) (fun h => ?_) (fun h => ?_)
  · obtain ⟨v2, hv2, h⟩ := bind_some h
    exact x_to 20 [(2, .val (i64 v2))] (ocons (rmOk hv2) onil) (hrec0 (t1, v2) r h) (by kernel_rfl)
  · replace h := Option.some.inj h; subst h
    exact x_end 6 [] [] onil onil (by kernel_rfl)
def Dspec_l3Gcd (n : Nat) (a0 : Int) (a1 : Int) : Option Int :=
  (Dspec_l3Abs a0).bind fun v0 => (Dspec_l3Abs a1).bind fun v1 => loopN (Dspec_l3Gcd_0 n) n (v0, v1)
theorem Tspec_l3Gcd {Y} (n : Nat) (a0 : Int) (a1 : Int) (r : Int) (h : Dspec_l3Gcd n a0 a1 = some r) : Big Try.prog H Y (.call 171 [i64 a0, i64 a1] (lk []) (i64 r) (lk [])) := by
  unfold Dspec_l3Gcd at h
  refine x_call (fn := Try.f171) (c := bodyOf Try.f171) (bs0 := []) Try.func171 (by kernel_rfl) (by kernel_rfl) ?_
  obtain ⟨v0, hv0, h⟩ := bind_some h
  obtain ⟨v1, hv1, h⟩ := bind_some h
  exact x_to 18 [(2, .call [] [] (i64 v0) []), (2, .call [] [] (i64 v1) [])] (ocons (Tspec_l3Abs (Y := Y) a0 _ hv0) (ocons (Tspec_l3Abs (Y := Y) a1 _ hv1) onil)) (Tspec_l3Gcd_0 n n (v0, v1) r h) (by kernel_rfl)
/-! spec.PlaneOk -/
def Dspec_PlaneOk (n : Nat) (a0 : Pl) : Option Bool :=
  (Dspec_l3In a0).bind fun v0 => frk v0 (frk (a0.A != 0) ((Dspec_l3Gcd n a0.A a0.B).bind fun v1 => (Dspec_l3Gcd n a0.C a0.D).bind fun v2 => (Dspec_l3Gcd n v1 v2).bind fun v3 => some (v3 == 1)) (frk (a0.B != 0) ((Dspec_l3Gcd n a0.A a0.B).bind fun v4 => (Dspec_l3Gcd n a0.C a0.D).bind fun v5 => (Dspec_l3Gcd n v4 v5).bind fun v6 => some (v6 == 1)) (frk (a0.C != 0) ((Dspec_l3Gcd n a0.A a0.B).bind fun v7 => (Dspec_l3Gcd n a0.C a0.D).bind fun v8 => (Dspec_l3Gcd n v7 v8).bind fun v9 => some (v9 == 1)) (some false)))) (some false)
theorem Tspec_PlaneOk {Y} (n : Nat) (a0 : Pl) (r : Bool) (h : Dspec_PlaneOk n a0 = some r) : Big Try.prog H Y (.call 122 [.agg [i64 a0.A, i64 a0.B, i64 a0.C, i64 a0.D]] (lk []) (bl r) (lk [])) := by
  unfold Dspec_PlaneOk at h
  refine x_call (fn := Try.f122) (c := bodyOf Try.f122) (bs0 := []) Try.func122 (by kernel_rfl) (by kernel_rfl) ?_
  obtain ⟨v0, hv0, h⟩ := bind_some h
  refine x_frk 10 [(3, .call [] [] (bl v0) [])] (ocons (Tspec_l3In (Y := Y) a0 _ hv0) onil) h (by kernel_rfl) (fun h => ?_) (fun h => ?_)
  · refine x_frk 4 [] onil h (by kernel_rfl) (fun h => ?_) (fun h => ?_)
    · obtain ⟨v1, hv1, h⟩ := bind_some h
      obtain ⟨v2, hv2, h⟩ := bind_some h
      obtain ⟨v3, hv3, h⟩ := bind_some h
      replace h := Option.some.inj h; subst h
      exact x_end 26 [(15, .call [] [] (i64 v1) []), (4, .call [] [] (i64 v2) []), (0, .call [] [] (i64 v3) [])] [] (ocons (Tspec_l3Gcd (Y := Y) n a0.A a0.B _ hv1) (ocons (Tspec_l3Gcd (Y := Y) n a0.C a0.D _ hv2) (ocons (Tspec_l3Gcd (Y := Y) n v1 v2 _ hv3) onil))) onil (by kernel_rfl)
    · refine x_frk 5 [] onil h (by kernel_rfl) (fun h => ?_) (fun h => ?_)
      · obtain ⟨v4, hv4, h⟩ := bind_some h
        obtain ⟨v5, hv5, h⟩ := bind_some h
        obtain ⟨v6, hv6, h⟩ := bind_some h
        replace h := Option.some.inj h; subst h
        exact x_end 21 [(10, .call [] [] (i64 v4) []), (4, .call [] [] (i64 v5) []), (0, .call [] [] (i64 v6) [])] [] (ocons (Tspec_l3Gcd (Y := Y) n a0.A a0.B _ hv4) (ocons (Tspec_l3Gcd (Y := Y) n a0.C a0.D _ hv5) (ocons (Tspec_l3Gcd (Y := Y) n v4 v5 _ hv6) onil))) onil (by kernel_rfl)
      · refine x_frk 6 [] onil h (by kernel_rfl) (fun h => ?_) (fun h => ?_)
        · obtain ⟨v7, hv7, h⟩ := bind_some h
          obtain ⟨v8, hv8, h⟩ := bind_some h
          obtain ⟨v9, hv9, h⟩ := bind_some h
          replace h := Option.some.inj h; subst h
          exact x_end 15 [(4, .call [] [] (i64 v7) []), (4, .call [] [] (i64 v8) []), (0, .call [] [] (i64 v9) [])] [] (ocons (Tspec_l3Gcd (Y := Y) n a0.A a0.B _ hv7) (ocons (Tspec_l3Gcd (Y := Y) n a0.C a0.D _ hv8) (ocons (Tspec_l3Gcd (Y := Y) n v7 v8 _ hv9) onil))) onil (by kernel_rfl)
        · replace h := Option.some.inj h; subst h
          exact x_end 15 [] [] onil onil (by kernel_rfl)
  · replace h := Option.some.inj h; subst h
    exact x_end 30 [] [] onil onil (by kernel_rfl)
/-! spec.l4Cross -/
def Dspec_l4Cross (a0 : Pl) (a1 : Pl) : Option (Int × Int × Int) :=
  some (w64 ((w64 (a0.B * a1.C)) - (w64 (a0.C * a1.B))), w64 ((w64 (a0.C * a1.A)) - (w64 (a0.A * a1.C))), w64 ((w64 (a0.A * a1.B)) - (w64 (a0.B * a1.A))))
theorem Tspec_l4Cross {Y} (a0 : Pl) (a1 : Pl) (r : (Int × Int × Int)) (h : Dspec_l4Cross a0 a1 = some r) : Big Try.prog H Y (.call 212 [.agg [i64 a0.A, i64 a0.B, i64 a0.C, i64 a0.D], .agg [i64 a1.A, i64 a1.B, i64 a1.C, i64 a1.D]] (lk []) (.agg [i64 r.1, i64 r.2.1, i64 r.2.2]) (lk [])) := by
  unfold Dspec_l4Cross at h
  refine x_call (fn := Try.f212) (c := bodyOf Try.f212) (bs0 := []) Try.func212 (by kernel_rfl) (by kernel_rfl) ?_
  replace h := Option.some.inj h; subst h
  exact x_end 44 [] [] onil onil (by kernel_rfl)
/-! spec.l3Sign -/
def Dspec_l3Sign (a0 : Int) : Option Int :=
  frk (decide (a0 > 0)) (some 1) (frk (decide (a0 < 0)) (some (-1)) (some 0))
theorem Tspec_l3Sign {Y} (a0 : Int) (r : Int) (h : Dspec_l3Sign a0 = some r) : Big Try.prog H Y (.call 206 [i64 a0] (lk []) (i64 r) (lk [])) := by
  unfold Dspec_l3Sign at h
  refine x_call (fn := Try.f206) (c := bodyOf Try.f206) (bs0 := []) Try.func206 (by kernel_rfl) (by kernel_rfl) ?_
  refine x_frk 12 [] onil h (by kernel_rfl) (fun h => ?_) (fun h => ?_)
  · replace h := Option.some.inj h; subst h
    exact x_end 4 [] [] onil onil (by kernel_rfl)
  · refine x_frk 6 [] onil h (by kernel_rfl) (fun h => ?_) (fun h => ?_)
    · replace h := Option.some.inj h; subst h
      exact x_end 4 [] [] onil onil (by kernel_rfl)
    · replace h := Option.some.inj h; subst h
      exact x_end 6 [] [] onil onil (by kernel_rfl)
/-! spec.l4Parallel -/
def Dspec_l4Parallel (a0 : Pl) (a1 : Pl) : Option Int :=
  (Dspec_l4Cross a0 a1).bind fun v0 => frk (!(v0.1 == 0 && (v0.2.1 == 0 && (v0.2.2 == 0 && true)))) (some 0) ((Dspec_l3Sign (w64 ((w64 ((w64 (a0.A * a1.A)) + (w64 (a0.B * a1.B)))) + (w64 (a0.C * a1.C))))).bind fun v1 => some v1)
theorem Tspec_l4Parallel {Y} (a0 : Pl) (a1 : Pl) (r : Int) (h : Dspec_l4Parallel a0 a1 = some r) : Big Try.prog H Y (.call 210 [.agg [i64 a0.A, i64 a0.B, i64 a0.C, i64 a0.D], .agg [i64 a1.A, i64 a1.B, i64 a1.C, i64 a1.D]] (lk []) (i64 r) (lk [])) := by
  unfold Dspec_l4Parallel at h
  refine x_call (fn := Try.f210) (c := bodyOf Try.f210) (bs0 := []) Try.func210 (by kernel_rfl) (by kernel_rfl) ?_
  obtain ⟨v0, hv0, h⟩ := bind_some h
  refine x_frk 15 [(5, .call [] [] (.agg [i64 v0.1, i64 v0.2.1, i64 v0.2.2]) [])] (ocons (Tspec_l4Cross (Y := Y) a0 a1 _ hv0) onil) h (by kernel_rfl) (fun h => ?_) (fun h => ?_)
  · replace h := Option.some.inj h; subst h
    exact x_end 4 [] [] onil onil (by kernel_rfl)
  · obtain ⟨v1, hv1, h⟩ := bind_some h
    replace h := Option.some.inj h; subst h
    exact x_end 23 [(17, .call [] [] (i64 v1) [])] [] (ocons (Tspec_l3Sign (Y := Y) (w64 ((w64 ((w64 (a0.A * a1.A)) + (w64 (a0.B * a1.B)))) + (w64 (a0.C * a1.C)))) _ hv1) onil) onil (by kernel_rfl)
/-! spec.l6Clash2 -/
def Dspec_l6Clash2 (a0 : Pl) (a1 : Pl) : Option Bool :=
  (Dspec_l4Parallel a0 a1).bind fun v0 => frk (decide (v0 ≥ 0)) (some false) ((Dspec_l3Abs a1.A).bind fun v1 => (Dspec_l3Abs a1.B).bind fun v2 => (Dspec_l3Abs a1.C).bind fun v3 => (Dspec_l3Abs a0.A).bind fun v4 => (Dspec_l3Abs a0.B).bind fun v5 => (Dspec_l3Abs a0.C).bind fun v6 => some (decide ((w64 ((w64 ((w64 ((w64 (v1 + v2)) + v3)) * a0.D)) + (w64 ((w64 ((w64 (v4 + v5)) + v6)) * a1.D)))) ≤ 0)))
theorem Tspec_l6Clash2 {Y} (a0 : Pl) (a1 : Pl) (r : Bool) (h : Dspec_l6Clash2 a0 a1 = some r) : Big Try.prog H Y (.call 193 [.agg [i64 a0.A, i64 a0.B, i64 a0.C, i64 a0.D], .agg [i64 a1.A, i64 a1.B, i64 a1.C, i64 a1.D]] (lk []) (bl r) (lk [])) := by
  unfold Dspec_l6Clash2 at h
  refine x_call (fn := Try.f193) (c := bodyOf Try.f193) (bs0 := []) Try.func193 (by kernel_rfl) (by kernel_rfl) ?_
  obtain ⟨v0, hv0, h⟩ := bind_some h
  refine x_frk 14 [(5, .call [] [] (i64 v0) [])] (ocons (Tspec_l4Parallel (Y := Y) a0 a1 _ hv0) onil) h (by kernel_rfl) (fun h => ?_) (fun h => ?_)
  · replace h := Option.some.inj h; subst h
    exact x_end 4 [] [] onil onil (by kernel_rfl)
  · obtain ⟨v1, hv1, h⟩ := bind_some h
    obtain ⟨v2, hv2, h⟩ := bind_some h
    obtain ⟨v3, hv3, h⟩ := bind_some h
    obtain ⟨v4, hv4, h⟩ := bind_some h
    obtain ⟨v5, hv5, h⟩ := bind_some h
    obtain ⟨v6, hv6, h⟩ := bind_some h
    replace h := Option.some.inj h; subst h
    exact x_end 45 [(2, .call [] [] (i64 v1) []), (2, .call [] [] (i64 v2) []), (3, .call [] [] (i64 v3) []), (4, .call [] [] (i64 v4) []), (2, .call [] [] (i64 v5) []), (3, .call [] [] (i64 v6) [])] [] (ocons (Tspec_l3Abs (Y := Y) a1.A _ hv1) (ocons (Tspec_l3Abs (Y := Y) a1.B _ hv2) (ocons (Tspec_l3Abs (Y := Y) a1.C _ hv3) (ocons (Tspec_l3Abs (Y := Y) a0.A _ hv4) (ocons (Tspec_l3Abs (Y := Y) a0.B _ hv5) (ocons (Tspec_l3Abs (Y := Y) a0.C _ hv6) onil)))))) onil (by kernel_rfl)
/-! spec.l4Det3 -/
def Dspec_l4Det3 (a0 : Pl) (a1 : Pl) (a2 : Pl) : Option Int :=
  (Dspec_l4Cross a1 a2).bind fun v0 => some (w64 ((w64 ((w64 (a0.A * v0.1)) + (w64 (a0.B * v0.2.1)))) + (w64 (a0.C * v0.2.2))))
theorem Tspec_l4Det3 {Y} (a0 : Pl) (a1 : Pl) (a2 : Pl) (r : Int) (h : Dspec_l4Det3 a0 a1 a2 = some r) : Big Try.prog H Y (.call 211 [.agg [i64 a0.A, i64 a0.B, i64 a0.C, i64 a0.D], .agg [i64 a1.A, i64 a1.B, i64 a1.C, i64 a1.D], .agg [i64 a2.A, i64 a2.B, i64 a2.C, i64 a2.D]] (lk []) (i64 r) (lk [])) := by
  unfold Dspec_l4Det3 at h
  refine x_call (fn := Try.f211) (c := bodyOf Try.f211) (bs0 := []) Try.func211 (by kernel_rfl) (by kernel_rfl) ?_
  obtain ⟨v0, hv0, h⟩ := bind_some h
  replace h := Option.some.inj h; subst h
  exact x_end 36 [(6, .call [] [] (.agg [i64 v0.1, i64 v0.2.1, i64 v0.2.2]) [])] [] (ocons (Tspec_l4Cross (Y := Y) a1 a2 _ hv0) onil) onil (by kernel_rfl)
/-! spec.l6Sum -/
def Dspec_l6Sum_1 (_n : Nat) (rec0 : (Bool × Bool × Int × Int) → Option Bool) (t0 : List Int) (t1 : List Int) (t5 : Bool) (t6 : Bool) (t7 : Int) (t8 : Int) : Option Bool :=
  (lget t0 t8).bind fun v2 => (Dspec_l3Abs v2).bind fun v3 => (lget t1 t8).bind fun v4 => rec0 (t5, t6, w64 (t7 + (w64 (v3 * v4))), w64 (t8 + 1))
theorem Tspec_l6Sum_1 {Y} (n : Nat) (rec0 : (Bool × Bool × Int × Int) → Option Bool) (t0 : List Int) (t1 : List Int) (hrec0 : ∀ (a : (Bool × Bool × Int × Int)) (r : Bool), rec0 a = some r → Wk Try.prog H Y 213 [.code (cp [1, 1, 1, 1, 0, 1, 0] (bodyOf Try.f213)), .blk 0, .code (cp [1, 1, 1, 1, 1] (bodyOf Try.f213))] (FinX Try.prog Try.f213 [] (bl r) []) ⟨[(0, .sl false 1 t0.length ((eInt).f t0)), (1, .sl false 1 t1.length ((eInt).f t1)), (5, bl a.1), (6, bl a.2.1), (7, i64 a.2.2.1), (8, i64 a.2.2.2)], []⟩) (t5 : Bool) (t6 : Bool) (t7 : Int) (t8 : Int) (r : Bool) (h : Dspec_l6Sum_1 n rec0 t0 t1 t5 t6 t7 t8 = some r) : Wk Try.prog H Y 213 [.code (cp [1, 1, 1, 1, 0, 1, 0, 0, 1, 0, 0, 1, 1] (bodyOf Try.f213)), .blk 1, .code (cp [1, 1, 1, 1, 0, 1, 0, 0, 1, 1] (bodyOf Try.f213)), .lp (cp [1, 1, 1, 1, 0, 1, 0] (bodyOf Try.f213)), .blk 0, .code (cp [1, 1, 1, 1, 1] (bodyOf Try.f213))] (FinX Try.prog Try.f213 [] (bl r) []) ⟨[(0, .sl false 1 t0.length ((eInt).f t0)), (1, .sl false 1 t1.length ((eInt).f t1)), (5, bl t5), (6, bl t6), (7, i64 t7), (8, i64 t8)], []⟩ := by
  unfold Dspec_l6Sum_1 at h
  obtain ⟨v2, hv2, h⟩ := bind_some h
  obtain ⟨v3, hv3, h⟩ := bind_some h
  obtain ⟨v4, hv4, h⟩ := bind_some h
  exact x_to 22 [(3, .val (.cptr (eInt.c v2 ++ (eInt).f ((t0).drop (Int.toNat t8 + 1))))), (1, .call [] [] (i64 v3) []), (2, .val (.cptr (eInt.c v4 ++ (eInt).f ((t1).drop (Int.toNat t8 + 1)))))] (ocons (ix eInt hv2) (ocons (Tspec_l3Abs (Y := Y) v2 _ hv3) (ocons (ix eInt hv4) onil))) (hrec0 (t5, t6, w64 (t7 + (w64 (v3 * v4))), w64 (t8 + 1)) r h) (by kernel_rfl)
def Dspec_l6Sum_0 (n : Nat) (rec0 : (Bool × Bool × Int × Int) → Option Bool) (t0 : List Int) (t1 : List Int) (t5 : Bool) (t6 : Bool) (t7 : Int) (t8 : Int) : Option Bool :=
  frk t6 ((lget t0 t8).bind fun v1 => Dspec_l6Sum_1 n rec0 t0 t1 t5 (decide (v1 < 0)) t7 t8) (Dspec_l6Sum_1 n rec0 t0 t1 t5 false t7 t8)
theorem Tspec_l6Sum_0 {Y} (n : Nat) (rec0 : (Bool × Bool × Int × Int) → Option Bool) (t0 : List Int) (t1 : List Int) (hrec0 : ∀ (a : (Bool × Bool × Int × Int)) (r : Bool), rec0 a = some r → Wk Try.prog H Y 213 [.code (cp [1, 1, 1, 1, 0, 1, 0] (bodyOf Try.f213)), .blk 0, .code (cp [1, 1, 1, 1, 1] (bodyOf Try.f213))] (FinX Try.prog Try.f213 [] (bl r) []) ⟨[(0, .sl false 1 t0.length ((eInt).f t0)), (1, .sl false 1 t1.length ((eInt).f t1)), (5, bl a.1), (6, bl a.2.1), (7, i64 a.2.2.1), (8, i64 a.2.2.2)], []⟩) (t5 : Bool) (t6 : Bool) (t7 : Int) (t8 : Int) (r : Bool) (h : Dspec_l6Sum_0 n rec0 t0 t1 t5 t6 t7 t8 = some r) : Wk Try.prog H Y 213 [.code (cp [1, 1, 1, 1, 0, 1, 0, 0, 1, 0, 0, 1, 0] (bodyOf Try.f213)), .code (cp [1, 1, 1, 1, 0, 1, 0, 0, 1, 0, 0, 1, 1] (bodyOf Try.f213)), .blk 1, .code (cp [1, 1, 1, 1, 0, 1, 0, 0, 1, 1] (bodyOf Try.f213)), .lp (cp [1, 1, 1, 1, 0, 1, 0] (bodyOf Try.f213)), .blk 0, .code (cp [1, 1, 1, 1, 1] (bodyOf Try.f213))] (FinX Try.prog Try.f213 [] (bl r) []) ⟨[(0, .sl false 1 t0.length ((eInt).f t0)), (1, .sl false 1 t1.length ((eInt).f t1)), (5, bl t5), (6, bl t6), (7, i64 t7), (8, i64 t8)], []⟩ := by
  unfold Dspec_l6Sum_0 at h
  refine x_frk 3 [] onil h (by kernel_rfl) (fun h => ?_) (fun h => ?_)
  · obtain ⟨v1, hv1, h⟩ := bind_some h
    exact x_to 8 [(2, .val (.cptr (eInt.c v1 ++ (eInt).f ((t0).drop (Int.toNat t8 + 1)))))] (ocons (ix eInt hv1) onil) (Tspec_l6Sum_1 n rec0 t0 t1 hrec0 t5 (decide (v1 < 0)) t7 t8 r h) (by kernel_rfl)
  · exact x_to 8 [] onil (Tspec_l6Sum_1 n rec0 t0 t1 hrec0 t5 false t7 t8 r h) (by kernel_rfl)
def Dspec_l6Sum_2 (_n : Nat) (t5 : Bool) (t6 : Bool) (t7 : Int) : Option Bool :=
  frk t5 (some (decide (t7 ≤ 0))) (frk t6 (some (decide (t7 ≤ 0))) (some false))
theorem Tspec_l6Sum_2 {Y} (n : Nat) (t5 : Bool) (t6 : Bool) (t7 : Int) (r : Bool) (h : Dspec_l6Sum_2 n t5 t6 t7 = some r) : Wk Try.prog H Y 213 [.code (cp [1, 1, 1, 1, 1, 0] (bodyOf Try.f213)), .code (cp [1, 1, 1, 1, 1, 1] (bodyOf Try.f213))] (FinX Try.prog Try.f213 [] (bl r) []) ⟨[(5, bl t5), (6, bl t6), (7, i64 t7)], []⟩ := by
  unfold Dspec_l6Sum_2 at h
  refine x_frk 3 [] onil h (by kernel_rfl) (fun h => ?_) (fun h => ?_)
  · replace h := Option.some.inj h; subst h
    exact x_end 8 [] [] onil onil (by kernel_rfl)
  · refine x_frk 3 [] onil h (by kernel_rfl) (fun h => ?_) (fun h => ?_)
    · replace h := Option.some.inj h; subst h
      exact x_end 5 [] [] onil onil (by kernel_rfl)
    · replace h := Option.some.inj h; subst h
      exact x_end 5 [] [] onil onil (by kernel_rfl)
def Dspec_l6Sum_3 (n : Nat) (t0 : List Int) (t1 : List Int) (rec0 : (Bool × Bool × Int × Int) → Option Bool) (a : (Bool × Bool × Int × Int)) : Option Bool :=
  match a with
  | (t5, t6, t7, t8) => frk (decide (t8 < (t0.length : Int))) (frk t5 ((lget t0 t8).bind fun v0 => Dspec_l6Sum_0 n rec0 t0 t1 (decide (v0 > 0)) t6 t7 t8) (Dspec_l6Sum_0 n rec0 t0 t1 false t6 t7 t8)) (Dspec_l6Sum_2 n t5 t6 t7)
theorem Tspec_l6Sum_3 {Y} (n : Nat) (t0 : List Int) (t1 : List Int) : ∀ (m : Nat) (a : (Bool × Bool × Int × Int)) (r : Bool), loopN (Dspec_l6Sum_3 n t0 t1) m a = some r → Wk Try.prog H Y 213 [.code (cp [1, 1, 1, 1, 0, 1, 0] (bodyOf Try.f213)), .blk 0, .code (cp [1, 1, 1, 1, 1] (bodyOf Try.f213))] (FinX Try.prog Try.f213 [] (bl r) []) ⟨[(0, .sl false 1 t0.length ((eInt).f t0)), (1, .sl false 1 t1.length ((eInt).f t1)), (5, bl a.1), (6, bl a.2.1), (7, i64 a.2.2.1), (8, i64 a.2.2.2)], []⟩ := by
  refine loopN_ind (fun rec0 hrec0 a r h => ?_)
  obtain ⟨t5, t6, t7, t8⟩ := a
  unfold Dspec_l6Sum_3 at h
  refine x_frk 9 [] onil h (by kernel_rfl) (fun h => ?_) (fun h => ?_)
  · refine x_frk 7 [] onil h (by kernel_rfl) (fun h => ?_) (fun h => ?_)
    · obtain ⟨v0, hv0, h⟩ := bind_some h
      exact x_to 9 [(2, .val (.cptr (eInt.c v0 ++ (eInt).f ((t0).drop (Int.toNat t8 + 1)))))] (ocons (ix eInt hv0) onil) (Tspec_l6Sum_0 n rec0 t0 t1 hrec0 (decide (v0 > 0)) t6 t7 t8 r h) (by kernel_rfl)
    · exact x_to 9 [] onil (Tspec_l6Sum_0 n rec0 t0 t1 hrec0 false t6 t7 t8 r h) (by kernel_rfl)
  · exact x_to 2 [] onil (Tspec_l6Sum_2 n t5 t6 t7 r h) (by kernel_rfl)
def Dspec_l6Sum (n : Nat) (a0 : (List Int)) (a1 : (List Int)) : Option Bool :=
  loopN (Dspec_l6Sum_3 n a0 a1) n (true, true, 0, 0)
theorem Tspec_l6Sum {Y} (n : Nat) (a0 : (List Int)) (a1 : (List Int)) (r : Bool) (h : Dspec_l6Sum n a0 a1 = some r) : Big Try.prog H Y (.call 213 [.sl false 1 a0.length ((eInt).f a0), .sl false 1 a1.length ((eInt).f a1)] (lk []) (bl r) (lk [])) := by
  unfold Dspec_l6Sum at h
  refine x_call (fn := Try.f213) (c := bodyOf Try.f213) (bs0 := []) Try.func213 (by kernel_rfl) (by kernel_rfl) ?_
  exact x_to 22 [] onil (Tspec_l6Sum_3 n a0 a1 n (true, true, 0, 0) r h) (by kernel_rfl)
/-! spec.l6Clash3 -/
def Dspec_l6Clash3_0 (n : Nat) (_b3_0 : Int) (_b3_1 : Int) (_b3_2 : Int) (b3_3 : Int) (_b4_0 : Int) (_b4_1 : Int) (_b4_2 : Int) (b4_3 : Int) (_b5_0 : Int) (_b5_1 : Int) (_b5_2 : Int) (b5_3 : Int) (b7_0 : Int) (_b7_1 : Int) (_b7_2 : Int) (b8_0 : Int) (_b8_1 : Int) (_b8_2 : Int) (b9_0 : Int) (_b9_1 : Int) (_b9_2 : Int) : Option Bool :=
  (Dspec_l6Sum n [b7_0, b8_0, b9_0] [b3_3, b4_3, b5_3]).bind fun v4 => some v4
theorem Tspec_l6Clash3_0 {Y} (n : Nat) (b3_0 : Int) (b3_1 : Int) (b3_2 : Int) (b3_3 : Int) (b4_0 : Int) (b4_1 : Int) (b4_2 : Int) (b4_3 : Int) (b5_0 : Int) (b5_1 : Int) (b5_2 : Int) (b5_3 : Int) (b7_0 : Int) (b7_1 : Int) (b7_2 : Int) (b8_0 : Int) (b8_1 : Int) (b8_2 : Int) (b9_0 : Int) (b9_1 : Int) (b9_2 : Int) (r : Bool) (h : Dspec_l6Clash3_0 n b3_0 b3_1 b3_2 b3_3 b4_0 b4_1 b4_2 b4_3 b5_0 b5_1 b5_2 b5_3 b7_0 b7_1 b7_2 b8_0 b8_1 b8_2 b9_0 b9_1 b9_2 = some r) : Wk Try.prog H Y 194 [.code (cp [1, 1, 1, 1, 1, 0, 1, 0, 0, 1, 0, 0, 1, 0, 0] (bodyOf Try.f194)), .code (cp [1, 1, 1, 1, 1, 0, 1, 0, 0, 1, 0, 0, 1, 0, 1] (bodyOf Try.f194)), .blk 1, .code (cp [1, 1, 1, 1, 1, 0, 1, 0, 0, 1, 1] (bodyOf Try.f194)), .lp (cp [1, 1, 1, 1, 1, 0, 1, 0] (bodyOf Try.f194)), .blk 0, .code (cp [1, 1, 1, 1, 1, 1] (bodyOf Try.f194))] (FinX Try.prog Try.f194 [] (bl r) []) ⟨[(3, .ptr 3 0), (4, .ptr 4 0), (5, .ptr 5 0), (7, .ptr 7 0), (8, .ptr 8 0), (9, .ptr 9 0), (10, i64 0)], [(3, ⟨true, 0, [i64 b3_0, i64 b3_1, i64 b3_2, i64 b3_3]⟩), (4, ⟨true, 0, [i64 b4_0, i64 b4_1, i64 b4_2, i64 b4_3]⟩), (5, ⟨true, 0, [i64 b5_0, i64 b5_1, i64 b5_2, i64 b5_3]⟩), (7, ⟨true, 0, [i64 b7_0, i64 b7_1, i64 b7_2]⟩), (8, ⟨true, 0, [i64 b8_0, i64 b8_1, i64 b8_2]⟩), (9, ⟨true, 0, [i64 b9_0, i64 b9_1, i64 b9_2]⟩)]⟩ := by
  unfold Dspec_l6Clash3_0 at h
  obtain ⟨v4, hv4, h⟩ := bind_some h
  replace h := Option.some.inj h; subst h
  exact x_end 21 [(17, .call [] [(eInt).f [b3_3, b4_3, b5_3], (eInt).f [b7_0, b8_0, b9_0]] (bl v4) [])] [] (ocons (Tspec_l6Sum (Y := Y) n [b7_0, b8_0, b9_0] [b3_3, b4_3, b5_3] _ hv4) (ocons (len_row (L := [b7_0, b8_0, b9_0]) eInt) (ocons (Enc.share eInt eInt sInt [b7_0, b8_0, b9_0]) (ocons (len_row (L := [b3_3, b4_3, b5_3]) eInt) (ocons (Enc.share eInt eInt sInt [b3_3, b4_3, b5_3]) onil))))) onil (by kernel_rfl)
def Dspec_l6Clash3_2 (n : Nat) (_b3_0 : Int) (_b3_1 : Int) (_b3_2 : Int) (b3_3 : Int) (_b4_0 : Int) (_b4_1 : Int) (_b4_2 : Int) (b4_3 : Int) (_b5_0 : Int) (_b5_1 : Int) (_b5_2 : Int) (b5_3 : Int) (_b7_0 : Int) (b7_1 : Int) (_b7_2 : Int) (_b8_0 : Int) (b8_1 : Int) (_b8_2 : Int) (_b9_0 : Int) (b9_1 : Int) (_b9_2 : Int) : Option Bool :=
  (Dspec_l6Sum n [b7_1, b8_1, b9_1] [b3_3, b4_3, b5_3]).bind fun v6 => some v6
theorem Tspec_l6Clash3_2 {Y} (n : Nat) (b3_0 : Int) (b3_1 : Int) (b3_2 : Int) (b3_3 : Int) (b4_0 : Int) (b4_1 : Int) (b4_2 : Int) (b4_3 : Int) (b5_0 : Int) (b5_1 : Int) (b5_2 : Int) (b5_3 : Int) (b7_0 : Int) (b7_1 : Int) (b7_2 : Int) (b8_0 : Int) (b8_1 : Int) (b8_2 : Int) (b9_0 : Int) (b9_1 : Int) (b9_2 : Int) (r : Bool) (h : Dspec_l6Clash3_2 n b3_0 b3_1 b3_2 b3_3 b4_0 b4_1 b4_2 b4_3 b5_0 b5_1 b5_2 b5_3 b7_0 b7_1 b7_2 b8_0 b8_1 b8_2 b9_0 b9_1 b9_2 = some r) : Wk Try.prog H Y 194 [.code (cp [1, 1, 1, 1, 1, 0, 1, 0, 0, 1, 0, 0, 1, 0, 0] (bodyOf Try.f194)), .code (cp [1, 1, 1, 1, 1, 0, 1, 0, 0, 1, 0, 0, 1, 0, 1] (bodyOf Try.f194)), .blk 1, .code (cp [1, 1, 1, 1, 1, 0, 1, 0, 0, 1, 1] (bodyOf Try.f194)), .lp (cp [1, 1, 1, 1, 1, 0, 1, 0] (bodyOf Try.f194)), .blk 0, .code (cp [1, 1, 1, 1, 1, 1] (bodyOf Try.f194))] (FinX Try.prog Try.f194 [] (bl r) []) ⟨[(3, .ptr 3 0), (4, .ptr 4 0), (5, .ptr 5 0), (7, .ptr 7 0), (8, .ptr 8 0), (9, .ptr 9 0), (10, i64 1)], [(3, ⟨true, 0, [i64 b3_0, i64 b3_1, i64 b3_2, i64 b3_3]⟩), (4, ⟨true, 0, [i64 b4_0, i64 b4_1, i64 b4_2, i64 b4_3]⟩), (5, ⟨true, 0, [i64 b5_0, i64 b5_1, i64 b5_2, i64 b5_3]⟩), (7, ⟨true, 0, [i64 b7_0, i64 b7_1, i64 b7_2]⟩), (8, ⟨true, 0, [i64 b8_0, i64 b8_1, i64 b8_2]⟩), (9, ⟨true, 0, [i64 b9_0, i64 b9_1, i64 b9_2]⟩)]⟩ := by
  unfold Dspec_l6Clash3_2 at h
  obtain ⟨v6, hv6, h⟩ := bind_some h
  replace h := Option.some.inj h; subst h
  exact x_end 21 [(17, .call [] [(eInt).f [b3_3, b4_3, b5_3], (eInt).f [b7_1, b8_1, b9_1]] (bl v6) [])] [] (ocons (Tspec_l6Sum (Y := Y) n [b7_1, b8_1, b9_1] [b3_3, b4_3, b5_3] _ hv6) (ocons (len_row (L := [b7_1, b8_1, b9_1]) eInt) (ocons (Enc.share eInt eInt sInt [b7_1, b8_1, b9_1]) (ocons (len_row (L := [b3_3, b4_3, b5_3]) eInt) (ocons (Enc.share eInt eInt sInt [b3_3, b4_3, b5_3]) onil))))) onil (by kernel_rfl)
def Dspec_l6Clash3_4 (n : Nat) (_b3_0 : Int) (_b3_1 : Int) (_b3_2 : Int) (b3_3 : Int) (_b4_0 : Int) (_b4_1 : Int) (_b4_2 : Int) (b4_3 : Int) (_b5_0 : Int) (_b5_1 : Int) (_b5_2 : Int) (b5_3 : Int) (_b7_0 : Int) (_b7_1 : Int) (b7_2 : Int) (_b8_0 : Int) (_b8_1 : Int) (b8_2 : Int) (_b9_0 : Int) (_b9_1 : Int) (b9_2 : Int) : Option Bool :=
  (Dspec_l6Sum n [b7_2, b8_2, b9_2] [b3_3, b4_3, b5_3]).bind fun v8 => some v8
theorem Tspec_l6Clash3_4 {Y} (n : Nat) (b3_0 : Int) (b3_1 : Int) (b3_2 : Int) (b3_3 : Int) (b4_0 : Int) (b4_1 : Int) (b4_2 : Int) (b4_3 : Int) (b5_0 : Int) (b5_1 : Int) (b5_2 : Int) (b5_3 : Int) (b7_0 : Int) (b7_1 : Int) (b7_2 : Int) (b8_0 : Int) (b8_1 : Int) (b8_2 : Int) (b9_0 : Int) (b9_1 : Int) (b9_2 : Int) (r : Bool) (h : Dspec_l6Clash3_4 n b3_0 b3_1 b3_2 b3_3 b4_0 b4_1 b4_2 b4_3 b5_0 b5_1 b5_2 b5_3 b7_0 b7_1 b7_2 b8_0 b8_1 b8_2 b9_0 b9_1 b9_2 = some r) : Wk Try.prog H Y 194 [.code (cp [1, 1, 1, 1, 1, 0, 1, 0, 0, 1, 0, 0, 1, 0, 0] (bodyOf Try.f194)), .code (cp [1, 1, 1, 1, 1, 0, 1, 0, 0, 1, 0, 0, 1, 0, 1] (bodyOf Try.f194)), .blk 1, .code (cp [1, 1, 1, 1, 1, 0, 1, 0, 0, 1, 1] (bodyOf Try.f194)), .lp (cp [1, 1, 1, 1, 1, 0, 1, 0] (bodyOf Try.f194)), .blk 0, .code (cp [1, 1, 1, 1, 1, 1] (bodyOf Try.f194))] (FinX Try.prog Try.f194 [] (bl r) []) ⟨[(3, .ptr 3 0), (4, .ptr 4 0), (5, .ptr 5 0), (7, .ptr 7 0), (8, .ptr 8 0), (9, .ptr 9 0), (10, i64 2)], [(3, ⟨true, 0, [i64 b3_0, i64 b3_1, i64 b3_2, i64 b3_3]⟩), (4, ⟨true, 0, [i64 b4_0, i64 b4_1, i64 b4_2, i64 b4_3]⟩), (5, ⟨true, 0, [i64 b5_0, i64 b5_1, i64 b5_2, i64 b5_3]⟩), (7, ⟨true, 0, [i64 b7_0, i64 b7_1, i64 b7_2]⟩), (8, ⟨true, 0, [i64 b8_0, i64 b8_1, i64 b8_2]⟩), (9, ⟨true, 0, [i64 b9_0, i64 b9_1, i64 b9_2]⟩)]⟩ := by
  unfold Dspec_l6Clash3_4 at h
  obtain ⟨v8, hv8, h⟩ := bind_some h
  replace h := Option.some.inj h; subst h
  exact x_end 21 [(17, .call [] [(eInt).f [b3_3, b4_3, b5_3], (eInt).f [b7_2, b8_2, b9_2]] (bl v8) [])] [] (ocons (Tspec_l6Sum (Y := Y) n [b7_2, b8_2, b9_2] [b3_3, b4_3, b5_3] _ hv8) (ocons (len_row (L := [b7_2, b8_2, b9_2]) eInt) (ocons (Enc.share eInt eInt sInt [b7_2, b8_2, b9_2]) (ocons (len_row (L := [b3_3, b4_3, b5_3]) eInt) (ocons (Enc.share eInt eInt sInt [b3_3, b4_3, b5_3]) onil))))) onil (by kernel_rfl)
def Dspec_l6Clash3_5 (n : Nat) (t44 : Bool) (_b3_0 : Int) (_b3_1 : Int) (_b3_2 : Int) (b3_3 : Int) (_b4_0 : Int) (_b4_1 : Int) (_b4_2 : Int) (b4_3 : Int) (_b5_0 : Int) (_b5_1 : Int) (_b5_2 : Int) (b5_3 : Int) (_b7_0 : Int) (_b7_1 : Int) (b7_2 : Int) (_b8_0 : Int) (_b8_1 : Int) (b8_2 : Int) (_b9_0 : Int) (_b9_1 : Int) (b9_2 : Int) : Option Bool :=
  frk t44 ((Dspec_l6Sum n [b7_2, b8_2, b9_2] [b3_3, b4_3, b5_3]).bind fun v9 => some v9) (some false)
theorem Tspec_l6Clash3_5 {Y} (n : Nat) (t44 : Bool) (b3_0 : Int) (b3_1 : Int) (b3_2 : Int) (b3_3 : Int) (b4_0 : Int) (b4_1 : Int) (b4_2 : Int) (b4_3 : Int) (b5_0 : Int) (b5_1 : Int) (b5_2 : Int) (b5_3 : Int) (b7_0 : Int) (b7_1 : Int) (b7_2 : Int) (b8_0 : Int) (b8_1 : Int) (b8_2 : Int) (b9_0 : Int) (b9_1 : Int) (b9_2 : Int) (r : Bool) (h : Dspec_l6Clash3_5 n t44 b3_0 b3_1 b3_2 b3_3 b4_0 b4_1 b4_2 b4_3 b5_0 b5_1 b5_2 b5_3 b7_0 b7_1 b7_2 b8_0 b8_1 b8_2 b9_0 b9_1 b9_2 = some r) : Wk Try.prog H Y 194 [.code (cp [1, 1, 1, 1, 1, 0, 1, 0, 0, 1, 0, 0, 1] (bodyOf Try.f194)), .blk 1, .code (cp [1, 1, 1, 1, 1, 0, 1, 0, 0, 1, 1] (bodyOf Try.f194)), .lp (cp [1, 1, 1, 1, 1, 0, 1, 0] (bodyOf Try.f194)), .blk 0, .code (cp [1, 1, 1, 1, 1, 1] (bodyOf Try.f194))] (FinX Try.prog Try.f194 [] (bl r) []) ⟨[(3, .ptr 3 0), (4, .ptr 4 0), (5, .ptr 5 0), (7, .ptr 7 0), (8, .ptr 8 0), (9, .ptr 9 0), (10, i64 2), (44, bl t44)], [(3, ⟨true, 0, [i64 b3_0, i64 b3_1, i64 b3_2, i64 b3_3]⟩), (4, ⟨true, 0, [i64 b4_0, i64 b4_1, i64 b4_2, i64 b4_3]⟩), (5, ⟨true, 0, [i64 b5_0, i64 b5_1, i64 b5_2, i64 b5_3]⟩), (7, ⟨true, 0, [i64 b7_0, i64 b7_1, i64 b7_2]⟩), (8, ⟨true, 0, [i64 b8_0, i64 b8_1, i64 b8_2]⟩), (9, ⟨true, 0, [i64 b9_0, i64 b9_1, i64 b9_2]⟩)]⟩ := by
  unfold Dspec_l6Clash3_5 at h
  refine x_frk 0 [] onil h (by kernel_rfl) (fun h => ?_) (fun h => ?_)
  · obtain ⟨v9, hv9, h⟩ := bind_some h
    replace h := Option.some.inj h; subst h
    exact x_end 22 [(17, .call [] [(eInt).f [b3_3, b4_3, b5_3], (eInt).f [b7_2, b8_2, b9_2]] (bl v9) [])] [] (ocons (Tspec_l6Sum (Y := Y) n [b7_2, b8_2, b9_2] [b3_3, b4_3, b5_3] _ hv9) (ocons (len_row (L := [b7_2, b8_2, b9_2]) eInt) (ocons (Enc.share eInt eInt sInt [b7_2, b8_2, b9_2]) (ocons (len_row (L := [b3_3, b4_3, b5_3]) eInt) (ocons (Enc.share eInt eInt sInt [b3_3, b4_3, b5_3]) onil))))) onil (by kernel_rfl)
  · replace h := Option.some.inj h; subst h
    exact x_end 21 [] [] onil onil (by kernel_rfl)
def Dspec_l6Clash3_3 (n : Nat) (t44 : Bool) (b3_0 : Int) (b3_1 : Int) (b3_2 : Int) (b3_3 : Int) (b4_0 : Int) (b4_1 : Int) (b4_2 : Int) (b4_3 : Int) (b5_0 : Int) (b5_1 : Int) (b5_2 : Int) (b5_3 : Int) (b7_0 : Int) (b7_1 : Int) (b7_2 : Int) (b8_0 : Int) (b8_1 : Int) (b8_2 : Int) (b9_0 : Int) (b9_1 : Int) (b9_2 : Int) : Option Bool :=
  frk t44 ((Dspec_l6Sum n [b7_1, b8_1, b9_1] [b3_3, b4_3, b5_3]).bind fun v7 => some v7) (frk (b7_2 != 0) (Dspec_l6Clash3_4 n b3_0 b3_1 b3_2 b3_3 b4_0 b4_1 b4_2 b4_3 b5_0 b5_1 b5_2 b5_3 b7_0 b7_1 b7_2 b8_0 b8_1 b8_2 b9_0 b9_1 b9_2) (frk (b8_2 != 0) (Dspec_l6Clash3_4 n b3_0 b3_1 b3_2 b3_3 b4_0 b4_1 b4_2 b4_3 b5_0 b5_1 b5_2 b5_3 b7_0 b7_1 b7_2 b8_0 b8_1 b8_2 b9_0 b9_1 b9_2) (Dspec_l6Clash3_5 n (b9_2 != 0) b3_0 b3_1 b3_2 b3_3 b4_0 b4_1 b4_2 b4_3 b5_0 b5_1 b5_2 b5_3 b7_0 b7_1 b7_2 b8_0 b8_1 b8_2 b9_0 b9_1 b9_2)))
theorem Tspec_l6Clash3_3 {Y} (n : Nat) (t44 : Bool) (b3_0 : Int) (b3_1 : Int) (b3_2 : Int) (b3_3 : Int) (b4_0 : Int) (b4_1 : Int) (b4_2 : Int) (b4_3 : Int) (b5_0 : Int) (b5_1 : Int) (b5_2 : Int) (b5_3 : Int) (b7_0 : Int) (b7_1 : Int) (b7_2 : Int) (b8_0 : Int) (b8_1 : Int) (b8_2 : Int) (b9_0 : Int) (b9_1 : Int) (b9_2 : Int) (r : Bool) (h : Dspec_l6Clash3_3 n t44 b3_0 b3_1 b3_2 b3_3 b4_0 b4_1 b4_2 b4_3 b5_0 b5_1 b5_2 b5_3 b7_0 b7_1 b7_2 b8_0 b8_1 b8_2 b9_0 b9_1 b9_2 = some r) : Wk Try.prog H Y 194 [.code (cp [1, 1, 1, 1, 1, 0, 1, 0, 0, 1, 0, 0, 1] (bodyOf Try.f194)), .blk 1, .code (cp [1, 1, 1, 1, 1, 0, 1, 0, 0, 1, 1] (bodyOf Try.f194)), .lp (cp [1, 1, 1, 1, 1, 0, 1, 0] (bodyOf Try.f194)), .blk 0, .code (cp [1, 1, 1, 1, 1, 1] (bodyOf Try.f194))] (FinX Try.prog Try.f194 [] (bl r) []) ⟨[(3, .ptr 3 0), (4, .ptr 4 0), (5, .ptr 5 0), (7, .ptr 7 0), (8, .ptr 8 0), (9, .ptr 9 0), (10, i64 1), (44, bl t44)], [(3, ⟨true, 0, [i64 b3_0, i64 b3_1, i64 b3_2, i64 b3_3]⟩), (4, ⟨true, 0, [i64 b4_0, i64 b4_1, i64 b4_2, i64 b4_3]⟩), (5, ⟨true, 0, [i64 b5_0, i64 b5_1, i64 b5_2, i64 b5_3]⟩), (7, ⟨true, 0, [i64 b7_0, i64 b7_1, i64 b7_2]⟩), (8, ⟨true, 0, [i64 b8_0, i64 b8_1, i64 b8_2]⟩), (9, ⟨true, 0, [i64 b9_0, i64 b9_1, i64 b9_2]⟩)]⟩ := by
  unfold Dspec_l6Clash3_3 at h
  refine x_frk 0 [] onil h (by kernel_rfl) (fun h => ?_) (fun h => ?_)
  · obtain ⟨v7, hv7, h⟩ := bind_some h
    replace h := Option.some.inj h; subst h
    exact x_end 22 [(17, .call [] [(eInt).f [b3_3, b4_3, b5_3], (eInt).f [b7_1, b8_1, b9_1]] (bl v7) [])] [] (ocons (Tspec_l6Sum (Y := Y) n [b7_1, b8_1, b9_1] [b3_3, b4_3, b5_3] _ hv7) (ocons (len_row (L := [b7_1, b8_1, b9_1]) eInt) (ocons (Enc.share eInt eInt sInt [b7_1, b8_1, b9_1]) (ocons (len_row (L := [b3_3, b4_3, b5_3]) eInt) (ocons (Enc.share eInt eInt sInt [b3_3, b4_3, b5_3]) onil))))) onil (by kernel_rfl)
  · refine x_frk 26 [] onil h (by kernel_rfl) (fun h => ?_) (fun h => ?_)
    · exact x_to 14 [] onil (Tspec_l6Clash3_4 n b3_0 b3_1 b3_2 b3_3 b4_0 b4_1 b4_2 b4_3 b5_0 b5_1 b5_2 b5_3 b7_0 b7_1 b7_2 b8_0 b8_1 b8_2 b9_0 b9_1 b9_2 r h) (by kernel_rfl)
    · refine x_frk 6 [] onil h (by kernel_rfl) (fun h => ?_) (fun h => ?_)
      · exact x_to 8 [] onil (Tspec_l6Clash3_4 n b3_0 b3_1 b3_2 b3_3 b4_0 b4_1 b4_2 b4_3 b5_0 b5_1 b5_2 b5_3 b7_0 b7_1 b7_2 b8_0 b8_1 b8_2 b9_0 b9_1 b9_2 r h) (by kernel_rfl)
      · exact x_to 6 [] onil (Tspec_l6Clash3_5 n (b9_2 != 0) b3_0 b3_1 b3_2 b3_3 b4_0 b4_1 b4_2 b4_3 b5_0 b5_1 b5_2 b5_3 b7_0 b7_1 b7_2 b8_0 b8_1 b8_2 b9_0 b9_1 b9_2 r h) (by kernel_rfl)
def Dspec_l6Clash3_1 (n : Nat) (t44 : Bool) (b3_0 : Int) (b3_1 : Int) (b3_2 : Int) (b3_3 : Int) (b4_0 : Int) (b4_1 : Int) (b4_2 : Int) (b4_3 : Int) (b5_0 : Int) (b5_1 : Int) (b5_2 : Int) (b5_3 : Int) (b7_0 : Int) (b7_1 : Int) (b7_2 : Int) (b8_0 : Int) (b8_1 : Int) (b8_2 : Int) (b9_0 : Int) (b9_1 : Int) (b9_2 : Int) : Option Bool :=
  frk t44 ((Dspec_l6Sum n [b7_0, b8_0, b9_0] [b3_3, b4_3, b5_3]).bind fun v5 => some v5) (frk (b7_1 != 0) (Dspec_l6Clash3_2 n b3_0 b3_1 b3_2 b3_3 b4_0 b4_1 b4_2 b4_3 b5_0 b5_1 b5_2 b5_3 b7_0 b7_1 b7_2 b8_0 b8_1 b8_2 b9_0 b9_1 b9_2) (frk (b8_1 != 0) (Dspec_l6Clash3_2 n b3_0 b3_1 b3_2 b3_3 b4_0 b4_1 b4_2 b4_3 b5_0 b5_1 b5_2 b5_3 b7_0 b7_1 b7_2 b8_0 b8_1 b8_2 b9_0 b9_1 b9_2) (Dspec_l6Clash3_3 n (b9_1 != 0) b3_0 b3_1 b3_2 b3_3 b4_0 b4_1 b4_2 b4_3 b5_0 b5_1 b5_2 b5_3 b7_0 b7_1 b7_2 b8_0 b8_1 b8_2 b9_0 b9_1 b9_2)))
theorem Tspec_l6Clash3_1 {Y} (n : Nat) (t44 : Bool) (b3_0 : Int) (b3_1 : Int) (b3_2 : Int) (b3_3 : Int) (b4_0 : Int) (b4_1 : Int) (b4_2 : Int) (b4_3 : Int) (b5_0 : Int) (b5_1 : Int) (b5_2 : Int) (b5_3 : Int) (b7_0 : Int) (b7_1 : Int) (b7_2 : Int) (b8_0 : Int) (b8_1 : Int) (b8_2 : Int) (b9_0 : Int) (b9_1 : Int) (b9_2 : Int) (r : Bool) (h : Dspec_l6Clash3_1 n t44 b3_0 b3_1 b3_2 b3_3 b4_0 b4_1 b4_2 b4_3 b5_0 b5_1 b5_2 b5_3 b7_0 b7_1 b7_2 b8_0 b8_1 b8_2 b9_0 b9_1 b9_2 = some r) : Wk Try.prog H Y 194 [.code (cp [1, 1, 1, 1, 1, 0, 1, 0, 0, 1, 0, 0, 1] (bodyOf Try.f194)), .blk 1, .code (cp [1, 1, 1, 1, 1, 0, 1, 0, 0, 1, 1] (bodyOf Try.f194)), .lp (cp [1, 1, 1, 1, 1, 0, 1, 0] (bodyOf Try.f194)), .blk 0, .code (cp [1, 1, 1, 1, 1, 1] (bodyOf Try.f194))] (FinX Try.prog Try.f194 [] (bl r) []) ⟨[(3, .ptr 3 0), (4, .ptr 4 0), (5, .ptr 5 0), (7, .ptr 7 0), (8, .ptr 8 0), (9, .ptr 9 0), (10, i64 0), (44, bl t44)], [(3, ⟨true, 0, [i64 b3_0, i64 b3_1, i64 b3_2, i64 b3_3]⟩), (4, ⟨true, 0, [i64 b4_0, i64 b4_1, i64 b4_2, i64 b4_3]⟩), (5, ⟨true, 0, [i64 b5_0, i64 b5_1, i64 b5_2, i64 b5_3]⟩), (7, ⟨true, 0, [i64 b7_0, i64 b7_1, i64 b7_2]⟩), (8, ⟨true, 0, [i64 b8_0, i64 b8_1, i64 b8_2]⟩), (9, ⟨true, 0, [i64 b9_0, i64 b9_1, i64 b9_2]⟩)]⟩ := by
  unfold Dspec_l6Clash3_1 at h
  refine x_frk 0 [] onil h (by kernel_rfl) (fun h => ?_) (fun h => ?_)
  · obtain ⟨v5, hv5, h⟩ := bind_some h
    replace h := Option.some.inj h; subst h
    exact x_end 22 [(17, .call [] [(eInt).f [b3_3, b4_3, b5_3], (eInt).f [b7_0, b8_0, b9_0]] (bl v5) [])] [] (ocons (Tspec_l6Sum (Y := Y) n [b7_0, b8_0, b9_0] [b3_3, b4_3, b5_3] _ hv5) (ocons (len_row (L := [b7_0, b8_0, b9_0]) eInt) (ocons (Enc.share eInt eInt sInt [b7_0, b8_0, b9_0]) (ocons (len_row (L := [b3_3, b4_3, b5_3]) eInt) (ocons (Enc.share eInt eInt sInt [b3_3, b4_3, b5_3]) onil))))) onil (by kernel_rfl)
  · refine x_frk 26 [] onil h (by kernel_rfl) (fun h => ?_) (fun h => ?_)
    · exact x_to 14 [] onil (Tspec_l6Clash3_2 n b3_0 b3_1 b3_2 b3_3 b4_0 b4_1 b4_2 b4_3 b5_0 b5_1 b5_2 b5_3 b7_0 b7_1 b7_2 b8_0 b8_1 b8_2 b9_0 b9_1 b9_2 r h) (by kernel_rfl)
    · refine x_frk 6 [] onil h (by kernel_rfl) (fun h => ?_) (fun h => ?_)
      · exact x_to 8 [] onil (Tspec_l6Clash3_2 n b3_0 b3_1 b3_2 b3_3 b4_0 b4_1 b4_2 b4_3 b5_0 b5_1 b5_2 b5_3 b7_0 b7_1 b7_2 b8_0 b8_1 b8_2 b9_0 b9_1 b9_2 r h) (by kernel_rfl)
      · exact x_to 6 [] onil (Tspec_l6Clash3_3 n (b9_1 != 0) b3_0 b3_1 b3_2 b3_3 b4_0 b4_1 b4_2 b4_3 b5_0 b5_1 b5_2 b5_3 b7_0 b7_1 b7_2 b8_0 b8_1 b8_2 b9_0 b9_1 b9_2 r h) (by kernel_rfl)
def Dspec_l6Clash3 (n : Nat) (a0 : Pl) (a1 : Pl) (a2 : Pl) : Option Bool :=
  (Dspec_l4Det3 a0 a1 a2).bind fun v0 => frk (v0 != 0) (some false) ((Dspec_l4Cross a1 a2).bind fun v1 => (Dspec_l4Cross a2 a0).bind fun v2 => (Dspec_l4Cross a0 a1).bind fun v3 => frk (v1.1 != 0) (Dspec_l6Clash3_0 n a0.A a0.B a0.C a0.D a1.A a1.B a1.C a1.D a2.A a2.B a2.C a2.D v1.1 v1.2.1 v1.2.2 v2.1 v2.2.1 v2.2.2 v3.1 v3.2.1 v3.2.2) (frk (v2.1 != 0) (Dspec_l6Clash3_0 n a0.A a0.B a0.C a0.D a1.A a1.B a1.C a1.D a2.A a2.B a2.C a2.D v1.1 v1.2.1 v1.2.2 v2.1 v2.2.1 v2.2.2 v3.1 v3.2.1 v3.2.2) (Dspec_l6Clash3_1 n (v3.1 != 0) a0.A a0.B a0.C a0.D a1.A a1.B a1.C a1.D a2.A a2.B a2.C a2.D v1.1 v1.2.1 v1.2.2 v2.1 v2.2.1 v2.2.2 v3.1 v3.2.1 v3.2.2)))
theorem Tspec_l6Clash3 {Y} (n : Nat) (a0 : Pl) (a1 : Pl) (a2 : Pl) (r : Bool) (h : Dspec_l6Clash3 n a0 a1 a2 = some r) : Big Try.prog H Y (.call 194 [.agg [i64 a0.A, i64 a0.B, i64 a0.C, i64 a0.D], .agg [i64 a1.A, i64 a1.B, i64 a1.C, i64 a1.D], .agg [i64 a2.A, i64 a2.B, i64 a2.C, i64 a2.D]] (lk []) (bl r) (lk [])) := by
  unfold Dspec_l6Clash3 at h
  refine x_call (fn := Try.f194) (c := bodyOf Try.f194) (bs0 := []) Try.func194 (by kernel_rfl) (by kernel_rfl) ?_
  obtain ⟨v0, hv0, h⟩ := bind_some h
  refine x_frk 16 [(7, .call [] [] (i64 v0) [])] (ocons (Tspec_l4Det3 (Y := Y) a0 a1 a2 _ hv0) onil) h (by kernel_rfl) (fun h => ?_) (fun h => ?_)
  · replace h := Option.some.inj h; subst h
    exact x_end 4 [] [] onil onil (by kernel_rfl)
  · obtain ⟨v1, hv1, h⟩ := bind_some h
    obtain ⟨v2, hv2, h⟩ := bind_some h
    obtain ⟨v3, hv3, h⟩ := bind_some h
    refine x_frk 49 [(2, .call [] [] (.agg [i64 v1.1, i64 v1.2.1, i64 v1.2.2]) []), (4, .call [] [] (.agg [i64 v2.1, i64 v2.2.1, i64 v2.2.2]) []), (4, .call [] [] (.agg [i64 v3.1, i64 v3.2.1, i64 v3.2.2]) [])] (ocons (Tspec_l4Cross (Y := Y) a1 a2 _ hv1) (ocons (Tspec_l4Cross (Y := Y) a2 a0 _ hv2) (ocons (Tspec_l4Cross (Y := Y) a0 a1 _ hv3) onil))) h (by kernel_rfl) (fun h => ?_) (fun h => ?_)
    · exact x_to 14 [] onil (Tspec_l6Clash3_0 n a0.A a0.B a0.C a0.D a1.A a1.B a1.C a1.D a2.A a2.B a2.C a2.D v1.1 v1.2.1 v1.2.2 v2.1 v2.2.1 v2.2.2 v3.1 v3.2.1 v3.2.2 r h) (by kernel_rfl)
    · refine x_frk 6 [] onil h (by kernel_rfl) (fun h => ?_) (fun h => ?_)
      · exact x_to 8 [] onil (Tspec_l6Clash3_0 n a0.A a0.B a0.C a0.D a1.A a1.B a1.C a1.D a2.A a2.B a2.C a2.D v1.1 v1.2.1 v1.2.2 v2.1 v2.2.1 v2.2.2 v3.1 v3.2.1 v3.2.2 r h) (by kernel_rfl)
      · exact x_to 6 [] onil (Tspec_l6Clash3_1 n (v3.1 != 0) a0.A a0.B a0.C a0.D a1.A a1.B a1.C a1.D a2.A a2.B a2.C a2.D v1.1 v1.2.1 v1.2.2 v2.1 v2.2.1 v2.2.2 v3.1 v3.2.1 v3.2.2 r h) (by kernel_rfl)
/-! spec.l6Clash4 -/
def Dspec_l6Clash4 (n : Nat) (a0 : Pl) (a1 : Pl) (a2 : Pl) (a3 : Pl) : Option Bool :=
  (Dspec_l4Det3 a1 a2 a3).bind fun v0 => (Dspec_l4Det3 a0 a2 a3).bind fun v1 => (Dspec_l4Det3 a0 a1 a3).bind fun v2 => (Dspec_l4Det3 a0 a1 a2).bind fun v3 => (Dspec_l6Sum n [v0, w64 (0 - v1), v2, w64 (0 - v3)] [a0.D, a1.D, a2.D, a3.D]).bind fun v4 => some v4
theorem Tspec_l6Clash4 {Y} (n : Nat) (a0 : Pl) (a1 : Pl) (a2 : Pl) (a3 : Pl) (r : Bool) (h : Dspec_l6Clash4 n a0 a1 a2 a3 = some r) : Big Try.prog H Y (.call 195 [.agg [i64 a0.A, i64 a0.B, i64 a0.C, i64 a0.D], .agg [i64 a1.A, i64 a1.B, i64 a1.C, i64 a1.D], .agg [i64 a2.A, i64 a2.B, i64 a2.C, i64 a2.D], .agg [i64 a3.A, i64 a3.B, i64 a3.C, i64 a3.D]] (lk []) (bl r) (lk [])) := by
  unfold Dspec_l6Clash4 at h
  refine x_call (fn := Try.f195) (c := bodyOf Try.f195) (bs0 := []) Try.func195 (by kernel_rfl) (by kernel_rfl) ?_
  obtain ⟨v0, hv0, h⟩ := bind_some h
  obtain ⟨v1, hv1, h⟩ := bind_some h
  obtain ⟨v2, hv2, h⟩ := bind_some h
  obtain ⟨v3, hv3, h⟩ := bind_some h
  obtain ⟨v4, hv4, h⟩ := bind_some h
  replace h := Option.some.inj h; subst h
  exact x_end 46 [(8, .call [] [] (i64 v0) []), (3, .call [] [] (i64 v1) []), (4, .call [] [] (i64 v2) []), (3, .call [] [] (i64 v3) []), (13, .call [] [(eInt).f [a0.D, a1.D, a2.D, a3.D], (eInt).f [v0, w64 (0 - v1), v2, w64 (0 - v3)]] (bl v4) [])] [] (ocons (Tspec_l4Det3 (Y := Y) a1 a2 a3 _ hv0) (ocons (Tspec_l4Det3 (Y := Y) a0 a2 a3 _ hv1) (ocons (Tspec_l4Det3 (Y := Y) a0 a1 a3 _ hv2) (ocons (Tspec_l4Det3 (Y := Y) a0 a1 a2 _ hv3) (ocons (Tspec_l6Sum (Y := Y) n [v0, w64 (0 - v1), v2, w64 (0 - v3)] [a0.D, a1.D, a2.D, a3.D] _ hv4) (ocons (len_row (L := [v0, w64 (0 - v1), v2, w64 (0 - v3)]) eInt) (ocons (Enc.share eInt eInt sInt [v0, w64 (0 - v1), v2, w64 (0 - v3)]) (ocons (len_row (L := [a0.D, a1.D, a2.D, a3.D]) eInt) (ocons (Enc.share eInt eInt sInt [a0.D, a1.D, a2.D, a3.D]) onil))))))))) onil (by kernel_rfl)
/-! spec.l6With -/
def Dspec_l6With_0 (n : Nat) (rec1 : Int → Option Bool) (_rec0 : Int → Option Bool) (t6 : Int) (t0 : List Pl) (t5 : Int) (b3_0 : Int) (b3_1 : Int) (b3_2 : Int) (b3_3 : Int) (t7 : Int) (rec2 : Int → Option Bool) (a : Int) : Option Bool :=
  match a with
  | t8 => frk (decide (t8 < t5)) ((lget t0 t6).bind fun v5 => (lget t0 t7).bind fun v6 => (lget t0 t8).bind fun v7 => (Dspec_l6Clash4 n v5 v6 v7 (Pl.mk b3_0 b3_1 b3_2 b3_3)).bind fun v8 => frk v8 (some true) (rec2 (w64 (t8 + 1)))) (rec1 (w64 (t7 + 1)))
theorem Tspec_l6With_0 {Y} (n : Nat) (rec1 : Int → Option Bool) (rec0 : Int → Option Bool) (t6 : Int) (t0 : List Pl) (t5 : Int) (b3_0 : Int) (b3_1 : Int) (b3_2 : Int) (b3_3 : Int) (hrec1 : ∀ (a : Int) (r : Bool), rec1 a = some r → Wk Try.prog H Y 160 [.code (cp [1, 1, 0, 1, 0, 0, 1, 0, 0, 1, 1, 0] (bodyOf Try.f160)), .blk 2, .blk 1, .code (cp [1, 1, 0, 1, 0, 0, 1, 1] (bodyOf Try.f160)), .lp (cp [1, 1, 0, 1, 0] (bodyOf Try.f160)), .blk 0, .code (cp [1, 1, 1] (bodyOf Try.f160))] (FinX Try.prog Try.f160 [] (bl r) []) ⟨[(0, .sl false 4 t0.length ((ePl).f t0)), (3, .ptr 3 0), (5, i64 t5), (6, i64 t6), (7, i64 a)], [(3, ⟨true, 0, [i64 b3_0, i64 b3_1, i64 b3_2, i64 b3_3]⟩)]⟩) (_hrec0 : ∀ (a : Int) (r : Bool), rec0 a = some r → Wk Try.prog H Y 160 [.code (cp [1, 1, 0, 1, 0] (bodyOf Try.f160)), .blk 0, .code (cp [1, 1, 1] (bodyOf Try.f160))] (FinX Try.prog Try.f160 [] (bl r) []) ⟨[(0, .sl false 4 t0.length ((ePl).f t0)), (3, .ptr 3 0), (5, i64 t5), (6, i64 a)], [(3, ⟨true, 0, [i64 b3_0, i64 b3_1, i64 b3_2, i64 b3_3]⟩)]⟩) (t7 : Int) : ∀ (m : Nat) (a : Int) (r : Bool), loopN (Dspec_l6With_0 n rec1 rec0 t6 t0 t5 b3_0 b3_1 b3_2 b3_3 t7) m a = some r → Wk Try.prog H Y 160 [.code (cp [1, 1, 0, 1, 0, 0, 1, 0, 0, 1, 1, 0, 0, 1, 0, 0, 1, 1, 0] (bodyOf Try.f160)), .blk 4, .blk 3, .code (cp [1, 1, 0, 1, 0, 0, 1, 0, 0, 1, 1, 0, 0, 1, 1] (bodyOf Try.f160)), .lp (cp [1, 1, 0, 1, 0, 0, 1, 0, 0, 1, 1, 0] (bodyOf Try.f160)), .blk 2, .blk 1, .code (cp [1, 1, 0, 1, 0, 0, 1, 1] (bodyOf Try.f160)), .lp (cp [1, 1, 0, 1, 0] (bodyOf Try.f160)), .blk 0, .code (cp [1, 1, 1] (bodyOf Try.f160))] (FinX Try.prog Try.f160 [] (bl r) []) ⟨[(0, .sl false 4 t0.length ((ePl).f t0)), (3, .ptr 3 0), (5, i64 t5), (6, i64 t6), (7, i64 t7), (8, i64 a)], [(3, ⟨true, 0, [i64 b3_0, i64 b3_1, i64 b3_2, i64 b3_3]⟩)]⟩ := by
  refine loopN_ind (fun _rec2 hrec2 a r h => ?_)
  obtain ⟨t8, rfl⟩ : ∃ x, x = a := ⟨a, rfl⟩
  unfold Dspec_l6With_0 at h
  refine x_frk 8 [] onil h (by kernel_rfl) (fun h => ?_) (fun h => ?_)
  · obtain ⟨v5, hv5, h⟩ := bind_some h
    obtain ⟨v6, hv6, h⟩ := bind_some h
    obtain ⟨v7, hv7, h⟩ := bind_some h
    obtain ⟨v8, hv8, h⟩ := bind_some h
    refine x_frk 20 [(2, .val (.cptr (ePl.c v5 ++ (ePl).f ((t0).drop (Int.toNat t6 + 1))))), (3, .val (.cptr (ePl.c v6 ++ (ePl).f ((t0).drop (Int.toNat t7 + 1))))), (3, .val (.cptr (ePl.c v7 ++ (ePl).f ((t0).drop (Int.toNat t8 + 1))))), (2, .call [] [] (bl v8) [])] (ocons (ix ePl hv5) (ocons (ix ePl hv6) (ocons (ix ePl hv7) (ocons (Tspec_l6Clash4 (Y := Y) n v5 v6 v7 (Pl.mk b3_0 b3_1 b3_2 b3_3) _ hv8) onil)))) h (by kernel_rfl) (fun h => ?_) (fun h => ?_)
    · replace h := Option.some.inj h; subst h
      exact x_end 4 [] [] onil onil (by kernel_rfl)
    · exact x_to 8 [] onil (hrec2 (w64 (t8 + 1)) r h) (by kernel_rfl)
  · exact x_to 8 [] onil (hrec1 (w64 (t7 + 1)) r h) (by kernel_rfl)
def Dspec_l6With_1 (n : Nat) (rec0 : Int → Option Bool) (t0 : List Pl) (t5 : Int) (b3_0 : Int) (b3_1 : Int) (b3_2 : Int) (b3_3 : Int) (t6 : Int) (rec1 : Int → Option Bool) (a : Int) : Option Bool :=
  match a with
  | t7 => frk (decide (t7 < t5)) ((lget t0 t6).bind fun v2 => (lget t0 t7).bind fun v3 => (Dspec_l6Clash3 n v2 v3 (Pl.mk b3_0 b3_1 b3_2 b3_3)).bind fun v4 => frk v4 (some true) (loopN (Dspec_l6With_0 n rec1 rec0 t6 t0 t5 b3_0 b3_1 b3_2 b3_3 t7) n (w64 (t7 + 1)))) (rec0 (w64 (t6 + 1)))
theorem Tspec_l6With_1 {Y} (n : Nat) (rec0 : Int → Option Bool) (t0 : List Pl) (t5 : Int) (b3_0 : Int) (b3_1 : Int) (b3_2 : Int) (b3_3 : Int) (hrec0 : ∀ (a : Int) (r : Bool), rec0 a = some r → Wk Try.prog H Y 160 [.code (cp [1, 1, 0, 1, 0] (bodyOf Try.f160)), .blk 0, .code (cp [1, 1, 1] (bodyOf Try.f160))] (FinX Try.prog Try.f160 [] (bl r) []) ⟨[(0, .sl false 4 t0.length ((ePl).f t0)), (3, .ptr 3 0), (5, i64 t5), (6, i64 a)], [(3, ⟨true, 0, [i64 b3_0, i64 b3_1, i64 b3_2, i64 b3_3]⟩)]⟩) (t6 : Int) : ∀ (m : Nat) (a : Int) (r : Bool), loopN (Dspec_l6With_1 n rec0 t0 t5 b3_0 b3_1 b3_2 b3_3 t6) m a = some r → Wk Try.prog H Y 160 [.code (cp [1, 1, 0, 1, 0, 0, 1, 0, 0, 1, 1, 0] (bodyOf Try.f160)), .blk 2, .blk 1, .code (cp [1, 1, 0, 1, 0, 0, 1, 1] (bodyOf Try.f160)), .lp (cp [1, 1, 0, 1, 0] (bodyOf Try.f160)), .blk 0, .code (cp [1, 1, 1] (bodyOf Try.f160))] (FinX Try.prog Try.f160 [] (bl r) []) ⟨[(0, .sl false 4 t0.length ((ePl).f t0)), (3, .ptr 3 0), (5, i64 t5), (6, i64 t6), (7, i64 a)], [(3, ⟨true, 0, [i64 b3_0, i64 b3_1, i64 b3_2, i64 b3_3]⟩)]⟩ := by
  refine loopN_ind (fun rec1 hrec1 a r h => ?_)
  obtain ⟨t7, rfl⟩ : ∃ x, x = a := ⟨a, rfl⟩
  unfold Dspec_l6With_1 at h
  refine x_frk 8 [] onil h (by kernel_rfl) (fun h => ?_) (fun h => ?_)
  · obtain ⟨v2, hv2, h⟩ := bind_some h
    obtain ⟨v3, hv3, h⟩ := bind_some h
    obtain ⟨v4, hv4, h⟩ := bind_some h
    refine x_frk 17 [(2, .val (.cptr (ePl.c v2 ++ (ePl).f ((t0).drop (Int.toNat t6 + 1))))), (3, .val (.cptr (ePl.c v3 ++ (ePl).f ((t0).drop (Int.toNat t7 + 1))))), (2, .call [] [] (bl v4) [])] (ocons (ix ePl hv2) (ocons (ix ePl hv3) (ocons (Tspec_l6Clash3 (Y := Y) n v2 v3 (Pl.mk b3_0 b3_1 b3_2 b3_3) _ hv4) onil))) h (by kernel_rfl) (fun h => ?_) (fun h => ?_)
    · replace h := Option.some.inj h; subst h
      exact x_end 4 [] [] onil onil (by kernel_rfl)
    · exact x_to 8 [] onil (Tspec_l6With_0 n rec1 rec0 t6 t0 t5 b3_0 b3_1 b3_2 b3_3 hrec1 hrec0 t7 n (w64 (t7 + 1)) r h) (by kernel_rfl)
  · exact x_to 8 [] onil (hrec0 (w64 (t6 + 1)) r h) (by kernel_rfl)
def Dspec_l6With_2 (n : Nat) (t0 : List Pl) (t5 : Int) (b3_0 : Int) (b3_1 : Int) (b3_2 : Int) (b3_3 : Int) (rec0 : Int → Option Bool) (a : Int) : Option Bool :=
  match a with
  | t6 => frk (decide (t6 < t5)) ((lget t0 t6).bind fun v0 => (Dspec_l6Clash2 v0 (Pl.mk b3_0 b3_1 b3_2 b3_3)).bind fun v1 => frk v1 (some true) (loopN (Dspec_l6With_1 n rec0 t0 t5 b3_0 b3_1 b3_2 b3_3 t6) n (w64 (t6 + 1)))) (some false)
theorem Tspec_l6With_2 {Y} (n : Nat) (t0 : List Pl) (t5 : Int) (b3_0 : Int) (b3_1 : Int) (b3_2 : Int) (b3_3 : Int) : ∀ (m : Nat) (a : Int) (r : Bool), loopN (Dspec_l6With_2 n t0 t5 b3_0 b3_1 b3_2 b3_3) m a = some r → Wk Try.prog H Y 160 [.code (cp [1, 1, 0, 1, 0] (bodyOf Try.f160)), .blk 0, .code (cp [1, 1, 1] (bodyOf Try.f160))] (FinX Try.prog Try.f160 [] (bl r) []) ⟨[(0, .sl false 4 t0.length ((ePl).f t0)), (3, .ptr 3 0), (5, i64 t5), (6, i64 a)], [(3, ⟨true, 0, [i64 b3_0, i64 b3_1, i64 b3_2, i64 b3_3]⟩)]⟩ := by
  refine loopN_ind (fun rec0 hrec0 a r h => ?_)
  obtain ⟨t6, rfl⟩ : ∃ x, x = a := ⟨a, rfl⟩
  unfold Dspec_l6With_2 at h
  refine x_frk 8 [] onil h (by kernel_rfl) (fun h => ?_) (fun h => ?_)
  · obtain ⟨v0, hv0, h⟩ := bind_some h
    obtain ⟨v1, hv1, h⟩ := bind_some h
    refine x_frk 13 [(2, .val (.cptr (ePl.c v0 ++ (ePl).f ((t0).drop (Int.toNat t6 + 1))))), (2, .call [] [] (bl v1) [])] (ocons (ix ePl hv0) (ocons (Tspec_l6Clash2 (Y := Y) v0 (Pl.mk b3_0 b3_1 b3_2 b3_3) _ hv1) onil)) h (by kernel_rfl) (fun h => ?_) (fun h => ?_)
    · replace h := Option.some.inj h; subst h
      exact x_end 4 [] [] onil onil (by kernel_rfl)
    · exact x_to 8 [] onil (Tspec_l6With_1 n rec0 t0 t5 b3_0 b3_1 b3_2 b3_3 hrec0 t6 n (w64 (t6 + 1)) r h) (by kernel_rfl)
  · replace h := Option.some.inj h; subst h
    exact x_end 5 [] [] onil onil (by kernel_rfl)
def Dspec_l6With (n : Nat) (a0 : (List Pl)) (a1 : Pl) : Option Bool :=
  loopN (Dspec_l6With_2 n a0 (a0.length : Int) a1.A a1.B a1.C a1.D) n 0
theorem Tspec_l6With {Y} (n : Nat) (a0 : (List Pl)) (a1 : Pl) (r : Bool) (h : Dspec_l6With n a0 a1 = some r) : Big Try.prog H Y (.call 160 [.sl false 4 a0.length ((ePl).f a0), .agg [i64 a1.A, i64 a1.B, i64 a1.C, i64 a1.D]] (lk []) (bl r) (lk [])) := by
  unfold Dspec_l6With at h
  refine x_call (fn := Try.f160) (c := bodyOf Try.f160) (bs0 := []) Try.func160 (by kernel_rfl) (by kernel_rfl) ?_
  exact x_to 17 [] onil (Tspec_l6With_2 n a0 (a0.length : Int) a1.A a1.B a1.C a1.D n 0 r h) (by kernel_rfl)
/-! spec.l3Flip -/
def Dspec_l3Flip (a0 : Pl) : Option Pl :=
  some (Pl.mk (w64 (0 - a0.A)) (w64 (0 - a0.B)) (w64 (0 - a0.C)) (w64 (0 - a0.D)))
theorem Tspec_l3Flip {Y} (a0 : Pl) (r : Pl) (h : Dspec_l3Flip a0 = some r) : Big Try.prog H Y (.call 157 [.agg [i64 a0.A, i64 a0.B, i64 a0.C, i64 a0.D]] (lk []) (.agg [i64 r.A, i64 r.B, i64 r.C, i64 r.D]) (lk [])) := by
  unfold Dspec_l3Flip at h
  refine x_call (fn := Try.f157) (c := bodyOf Try.f157) (bs0 := []) Try.func157 (by kernel_rfl) (by kernel_rfl) ?_
  replace h := Option.some.inj h; subst h
  exact x_end 22 [] [] onil onil (by kernel_rfl)
/-! spec.l8Path -/
def Dspec_l8Path (a0 : (List Pl)) (a1 : Pl) : Option (List Pl) :=
  chk (apB 32 (0 + a0.length)) (chk (apB 32 (([] ++ a0).length + 1)) (some (([] ++ a0) ++ [a1])))
theorem Tspec_l8Path {Y} (a0 : (List Pl)) (a1 : Pl) (r : (List Pl)) (h : Dspec_l8Path a0 a1 = some r) : Big Try.prog H Y (.call 179 [.sl false 4 a0.length ((ePl).f a0), .agg [i64 a1.A, i64 a1.B, i64 a1.C, i64 a1.D]] (lk []) (.sl true 4 r.length ((ePl).f r)) (lk [])) := by
  unfold Dspec_l8Path at h
  refine x_call (fn := Try.f179) (c := bodyOf Try.f179) (bs0 := []) Try.func179 (by kernel_rfl) (by kernel_rfl) ?_
  obtain ⟨c0, h⟩ := chk_some h
  obtain ⟨c1, h⟩ := chk_some h
  replace h := Option.some.inj h; subst h
  exact x_end 15 [(4, .app false (List.length ([] ++ a0)) ((ePl).f ([] ++ a0))), (2, .app false (List.length (([] ++ a0) ++ [a1])) ((ePl).f (([] ++ a0) ++ [a1])))] [] (ocons (len_row' (L := []) ePl) (ocons (app_one (L := []) (M := a0) ePl c0) (ocons (app_new (L := []) (M := a0) ePl) (ocons (app_m (L := []) (M := a0) ePl rfl) (ocons (len_row' (L := a0) ePl) (ocons (len_row' (L := ([] ++ a0)) ePl) (ocons (app_one (L := ([] ++ a0)) (M := [a1]) ePl c1) (ocons (app_new (L := ([] ++ a0)) (M := [a1]) ePl) (ocons (app_m (L := ([] ++ a0)) (M := [a1]) ePl rfl) (ocons (len_row' (L := [a1]) ePl) (ocons (Enc.noOwn ePl (fun _ => rfl) [a1]) onil))))))))))) (ocons (len_row (L := (([] ++ a0) ++ [a1])) ePl) onil) (by kernel_rfl)
/-! spec.l8Look -/
def Dspec_l8Look_0 (_n : Nat) (self : (Sol × (List Pl)) → Option Bool) (t1 : List Pl) (t42 : Bool) (_b2_0 : Bool) (b2_1 : Int) (b2_2 : Int) (b2_3 : Int) (b2_4 : Int) (b2_5 : List Sol) : Option Bool :=
  frk t42 (some false) ((lget b2_5 0).bind fun v5 => (Dspec_l8Path t1 (Pl.mk b2_1 b2_2 b2_3 b2_4)).bind fun v6 => (self (v5, v6)).bind fun v7 => frk v7 ((lget b2_5 1).bind fun v8 => (Dspec_l3Flip (Pl.mk b2_1 b2_2 b2_3 b2_4)).bind fun v9 => (Dspec_l8Path t1 v9).bind fun v10 => (self (v8, v10)).bind fun v11 => some v11) (some false))
theorem Tspec_l8Look_0 {Y} (n : Nat) (self : (Sol × (List Pl)) → Option Bool) (hself : ∀ (a : (Sol × (List Pl))) (r : Bool), self a = some r → Big Try.prog H Y (.call 130 [.agg [bl a.1.inn, i64 a.1.pl.A, i64 a.1.pl.B, i64 a.1.pl.C, i64 a.1.pl.D, .sl false 6 a.1.kids.length ((eSol false).f a.1.kids)], .sl false 4 a.2.length ((ePl).f a.2)] (lk []) (bl r) (lk []))) (t1 : List Pl) (t42 : Bool) (b2_0 : Bool) (b2_1 : Int) (b2_2 : Int) (b2_3 : Int) (b2_4 : Int) (b2_5 : List Sol) (r : Bool) (h : Dspec_l8Look_0 n self t1 t42 b2_0 b2_1 b2_2 b2_3 b2_4 b2_5 = some r) : Wk Try.prog H Y 130 [.code (cp [1, 1, 0, 1] (bodyOf Try.f130)), .code (cp [1, 1, 1] (bodyOf Try.f130))] (FinX Try.prog Try.f130 [] (bl r) []) ⟨[(1, .sl false 4 t1.length ((ePl).f t1)), (2, .ptr 2 0), (42, bl t42)], [(2, ⟨true, 0, [bl b2_0, i64 b2_1, i64 b2_2, i64 b2_3, i64 b2_4, .sl false 6 b2_5.length ((eSol false).f b2_5)]⟩)]⟩ := by
  unfold Dspec_l8Look_0 at h
  refine x_frk 0 [] onil h (by kernel_rfl) (fun h => ?_) (fun h => ?_)
  · replace h := Option.some.inj h; subst h
    exact x_end 4 [] [] onil onil (by kernel_rfl)
  · obtain ⟨v5, hv5, h⟩ := bind_some h
    obtain ⟨v6, hv6, h⟩ := bind_some h
    obtain ⟨v7, hv7, h⟩ := bind_some h
    refine x_frk 13 [(2, .val (.cptr ((eSol false).c v5 ++ (eSol false).f ((b2_5).drop (Int.toNat 0 + 1))))), (4, .call [] [] (.sl false 4 v6.length ((ePl).f v6)) []), (0, .call [] [] (bl v7) [])] (ocons (ix (eSol false) hv5) (ocons (shSl (L := v6) ePl ePl sPl (Tspec_l8Path (Y := Y) t1 (Pl.mk b2_1 b2_2 b2_3 b2_4) _ hv6)) (ocons (hself (v5, v6) _ hv7) onil))) h (by kernel_rfl) (fun h => ?_) (fun h => ?_)
    · obtain ⟨v8, hv8, h⟩ := bind_some h
      obtain ⟨v9, hv9, h⟩ := bind_some h
      obtain ⟨v10, hv10, h⟩ := bind_some h
      obtain ⟨v11, hv11, h⟩ := bind_some h
      replace h := Option.some.inj h; subst h
      exact x_end 13 [(2, .val (.cptr ((eSol false).c v8 ++ (eSol false).f ((b2_5).drop (Int.toNat 1 + 1))))), (4, .call [] [] (.agg [i64 v9.A, i64 v9.B, i64 v9.C, i64 v9.D]) []), (0, .call [] [] (.sl false 4 v10.length ((ePl).f v10)) []), (0, .call [] [] (bl v11) [])] [] (ocons (ix (eSol false) hv8) (ocons (Tspec_l3Flip (Y := Y) (Pl.mk b2_1 b2_2 b2_3 b2_4) _ hv9) (ocons (shSl (L := v10) ePl ePl sPl (Tspec_l8Path (Y := Y) t1 v9 _ hv10)) (ocons (hself (v8, v10) _ hv11) onil)))) onil (by kernel_rfl)
    · replace h := Option.some.inj h; subst h
      exact x_end 13 [] [] onil onil (by kernel_rfl)
def Dspec_l8Look_b (n : Nat) (self : (Sol × (List Pl)) → Option Bool) (a : (Sol × (List Pl))) : Option Bool :=
  match a with
  | (a0, a1) => (Dspec_l8Leaf a0).bind fun v0 => frk v0 (some (a0.pl.A == 0 && (a0.pl.B == 0 && (a0.pl.C == 0 && (a0.pl.D == 0 && true))))) (frk ((a0.kids.length : Int) != 2) (some false) (frk a0.inn (some false) ((Dspec_PlaneOk n a0.pl).bind fun v1 => frk (!v1) (some false) (frk ((a1.length : Int) == 24) (some false) ((Dspec_l6With n a1 a0.pl).bind fun v2 => frk v2 (some false) ((Dspec_l3Flip a0.pl).bind fun v3 => (Dspec_l6With n a1 v3).bind fun v4 => Dspec_l8Look_0 n self a1 v4 a0.inn a0.pl.A a0.pl.B a0.pl.C a0.pl.D a0.kids))))))
def Dspec_l8Look (n : Nat) (a0 : Sol) (a1 : (List Pl)) : Option Bool := loopN (Dspec_l8Look_b n) n (a0, a1)
theorem Tspec_l8Look_b {Y} (n : Nat) : ∀ (m : Nat) (a : (Sol × (List Pl))) (r : Bool), loopN (Dspec_l8Look_b n) m a = some r → ∀ (_ : Unit), Big Try.prog H Y (.call 130 [.agg [bl a.1.inn, i64 a.1.pl.A, i64 a.1.pl.B, i64 a.1.pl.C, i64 a.1.pl.D, .sl false 6 a.1.kids.length ((eSol false).f a.1.kids)], .sl false 4 a.2.length ((ePl).f a.2)] (lk []) (bl r) (lk [])) := by
  refine loopN_ind (fun self hs a r h => ?_)
  have hself : ∀ (a : (Sol × (List Pl))) (r : Bool), self a = some r → Big Try.prog H Y (.call 130 [.agg [bl a.1.inn, i64 a.1.pl.A, i64 a.1.pl.B, i64 a.1.pl.C, i64 a.1.pl.D, .sl false 6 a.1.kids.length ((eSol false).f a.1.kids)], .sl false 4 a.2.length ((ePl).f a.2)] (lk []) (bl r) (lk [])) := fun a r h => hs a r h ()
  intro _
  obtain ⟨a0, a1⟩ := a
  unfold Dspec_l8Look_b at h
  refine x_call (fn := Try.f130) (c := bodyOf Try.f130) (bs0 := []) Try.func130 (by kernel_rfl) (by kernel_rfl) ?_
  obtain ⟨v0, hv0, h⟩ := bind_some h
  refine x_frk 11 [(3, .call [] [] (bl v0) [])] (ocons (Tspec_l8Leaf (Y := Y) a0 _ hv0) onil) h (by kernel_rfl) (fun h => ?_) (fun h => ?_)
  · replace h := Option.some.inj h; subst h
    exact x_end 8 [] [] onil onil (by kernel_rfl)
  · refine x_frk 9 [] onil h (by kernel_rfl) (fun h => ?_) (fun h => ?_)
    · replace h := Option.some.inj h; subst h
      exact x_end 33 [] [] onil onil (by kernel_rfl)
    · refine x_frk 4 [] onil h (by kernel_rfl) (fun h => ?_) (fun h => ?_)
      · replace h := Option.some.inj h; subst h
        exact x_end 29 [] [] onil onil (by kernel_rfl)
      · obtain ⟨v1, hv1, h⟩ := bind_some h
        refine x_frk 6 [(2, .call [] [] (bl v1) [])] (ocons (Tspec_PlaneOk (Y := Y) n a0.pl _ hv1) onil) h (by kernel_rfl) (fun h => ?_) (fun h => ?_)
        · replace h := Option.some.inj h; subst h
          exact x_end 23 [] [] onil onil (by kernel_rfl)
        · refine x_frk 5 [] onil h (by kernel_rfl) (fun h => ?_) (fun h => ?_)
          · replace h := Option.some.inj h; subst h
            exact x_end 18 [] [] onil onil (by kernel_rfl)
          · obtain ⟨v2, hv2, h⟩ := bind_some h
            refine x_frk 6 [(3, .call [] [] (bl v2) [])] (ocons (Tspec_l6With (Y := Y) n a1 a0.pl _ hv2) onil) h (by kernel_rfl) (fun h => ?_) (fun h => ?_)
            · replace h := Option.some.inj h; subst h
              exact x_end 12 [] [] onil onil (by kernel_rfl)
            · obtain ⟨v3, hv3, h⟩ := bind_some h
              obtain ⟨v4, hv4, h⟩ := bind_some h
              exact x_to 7 [(3, .call [] [] (.agg [i64 v3.A, i64 v3.B, i64 v3.C, i64 v3.D]) []), (0, .call [] [] (bl v4) [])] (ocons (Tspec_l3Flip (Y := Y) a0.pl _ hv3) (ocons (Tspec_l6With (Y := Y) n a1 v3 _ hv4) onil)) (Tspec_l8Look_0 n self hself a1 v4 a0.inn a0.pl.A a0.pl.B a0.pl.C a0.pl.D a0.kids r h) (by kernel_rfl)
theorem Tspec_l8Look {Y} (n : Nat) (a0 : Sol) (a1 : (List Pl)) (r : Bool) (h : Dspec_l8Look n a0 a1 = some r) : Big Try.prog H Y (.call 130 [.agg [bl a0.inn, i64 a0.pl.A, i64 a0.pl.B, i64 a0.pl.C, i64 a0.pl.D, .sl false 6 a0.kids.length ((eSol false).f a0.kids)], .sl false 4 a1.length ((ePl).f a1)] (lk []) (bl r) (lk [])) := Tspec_l8Look_b n n (a0, a1) r h ()
/-! spec.SolidOk -/
def Dspec_SolidOk (n : Nat) (a0 : Sol) : Option Bool :=
  (Dspec_l8Count n a0 301).bind fun v0 => frk (decide (v0 ≤ 300)) ((Dspec_l8Look n a0 []).bind fun v1 => some v1) (some false)
theorem Tspec_SolidOk {Y} (n : Nat) (a0 : Sol) (r : Bool) (h : Dspec_SolidOk n a0 = some r) : Big Try.prog H Y (.call 59 [.agg [bl a0.inn, i64 a0.pl.A, i64 a0.pl.B, i64 a0.pl.C, i64 a0.pl.D, .sl false 6 a0.kids.length ((eSol false).f a0.kids)]] (lk []) (bl r) (lk [])) := by
  unfold Dspec_SolidOk at h
  refine x_call (fn := Try.f59) (c := bodyOf Try.f59) (bs0 := []) Try.func59 (by kernel_rfl) (by kernel_rfl) ?_
  obtain ⟨v0, hv0, h⟩ := bind_some h
  refine x_frk 11 [(3, .call [] [] (i64 v0) [])] (ocons (Tspec_l8Count (Y := Y) n a0 301 _ hv0) onil) h (by kernel_rfl) (fun h => ?_) (fun h => ?_)
  · obtain ⟨v1, hv1, h⟩ := bind_some h
    replace h := Option.some.inj h; subst h
    exact x_end 6 [(2, .call [] [(ePl).f []] (bl v1) [])] [] (ocons (Tspec_l8Look (Y := Y) n a0 [] _ hv1) (ocons (len_row (L := []) ePl) (ocons (Enc.share ePl ePl sPl []) onil))) onil (by kernel_rfl)
  · replace h := Option.some.inj h; subst h
    exact x_end 6 [] [] onil onil (by kernel_rfl)
/-! impl.Solid).isLeaf -/
def Dimpl_Solid_isLeaf (a0 : Sol) : Option Bool :=
  some ((a0.kids.length : Int) == 0)
theorem Timpl_Solid_isLeaf {Y} (a0 : Sol) (q0 : List AV) (r : Bool) (h : Dimpl_Solid_isLeaf a0 = some r) : Big Try.prog H Y (.call 133 [.cptr ([bl a0.inn, i64 a0.pl.A, i64 a0.pl.B, i64 a0.pl.C, i64 a0.pl.D, .sl false 6 a0.kids.length ((eSol false).f a0.kids)] ++ q0)] (lk []) (bl r) (lk [])) := by
  unfold Dimpl_Solid_isLeaf at h
  refine x_call (fn := Try.f133) (c := bodyOf Try.f133) (bs0 := []) Try.func133 (by kernel_rfl) (by kernel_rfl) ?_
  replace h := Option.some.inj h; subst h
  exact x_end 14 [] [] onil onil (by kernel_rfl)
/-! impl.inRange -/
def Dimpl_inRange (a0 : Int) (a1 : Int) (a2 : Int) : Option Bool :=
  frk (decide (a0 ≥ a1)) (some (decide (a0 ≤ a2))) (some false)
theorem Timpl_inRange {Y} (a0 : Int) (a1 : Int) (a2 : Int) (r : Bool) (h : Dimpl_inRange a0 a1 a2 = some r) : Big Try.prog H Y (.call 96 [i64 a0, i64 a1, i64 a2] (lk []) (bl r) (lk [])) := by
  unfold Dimpl_inRange at h
  refine x_call (fn := Try.f96) (c := bodyOf Try.f96) (bs0 := []) Try.func96 (by kernel_rfl) (by kernel_rfl) ?_
  refine x_frk 10 [] onil h (by kernel_rfl) (fun h => ?_) (fun h => ?_)
  · replace h := Option.some.inj h; subst h
    exact x_end 6 [] [] onil onil (by kernel_rfl)
  · replace h := Option.some.inj h; subst h
    exact x_end 6 [] [] onil onil (by kernel_rfl)
/-! impl.isCoef -/
def Dimpl_isCoef (a0 : Int) : Option Bool :=
  (Dimpl_inRange a0 (-500) 500).bind fun v0 => some v0
theorem Timpl_isCoef {Y} (a0 : Int) (r : Bool) (h : Dimpl_isCoef a0 = some r) : Big Try.prog H Y (.call 178 [i64 a0] (lk []) (bl r) (lk [])) := by
  unfold Dimpl_isCoef at h
  refine x_call (fn := Try.f178) (c := bodyOf Try.f178) (bs0 := []) Try.func178 (by kernel_rfl) (by kernel_rfl) ?_
  obtain ⟨v0, hv0, h⟩ := bind_some h
  replace h := Option.some.inj h; subst h
  exact x_end 10 [(2, .call [] [] (bl v0) [])] [] (ocons (Timpl_inRange (Y := Y) a0 (-500) 500 _ hv0) onil) onil (by kernel_rfl)
/-! impl.divisor -/
def Dimpl_divisor_0 (_n : Nat) (rec0 : (Int × Int) → Option Int) (_t6 : List Int) (_t7 : Int) (t8 : Int) (rec1 : (Int × Int) → Option Int) (a : (Int × Int)) : Option Int :=
  match a with
  | (t3, t5) => frk (t5 != 0) ((rm .i64 t3 t5).bind fun v1 => rec1 (t5, v1)) (rec0 (t3, w64 (t8 + 1)))
theorem Timpl_divisor_0 {Y} (n : Nat) (rec0 : (Int × Int) → Option Int) (t6 : List Int) (t7 : Int) (hrec0 : ∀ (a : (Int × Int)) (r : Int), rec0 a = some r → Wk Try.prog H Y 202 [.code (cp [1, 1, 0, 1, 0] (bodyOf Try.f202)), .blk 0, .code (cp [1, 1, 1] (bodyOf Try.f202))] (FinX Try.prog Try.f202 [] (i64 r) []) ⟨[(3, i64 a.1), (6, .sl false 1 t6.length ((eInt).f t6)), (7, i64 t7), (8, i64 a.2)], []⟩) (t8 : Int) : ∀ (m : Nat) (a : (Int × Int)) (r : Int), loopN (Dimpl_divisor_0 n rec0 t6 t7 t8) m a = some r → Wk Try.prog H Y 202 [.code (cp [1, 1, 0, 1, 0, 0, 1, 1, 0, 0, 1, 1, 0] (bodyOf Try.f202)), .blk 2, .blk 1, .code (cp [1, 1, 0, 1, 0, 0, 1, 1, 1] (bodyOf Try.f202)), .lp (cp [1, 1, 0, 1, 0] (bodyOf Try.f202)), .blk 0, .code (cp [1, 1, 1] (bodyOf Try.f202))] (FinX Try.prog Try.f202 [] (i64 r) []) ⟨[(3, i64 a.1), (5, i64 a.2), (6, .sl false 1 t6.length ((eInt).f t6)), (7, i64 t7), (8, i64 t8)], []⟩ := by
  refine loopN_ind (fun _rec1 hrec1 a r h => ?_)
  obtain ⟨t3, t5⟩ := a
  unfold Dimpl_divisor_0 at h
  refine x_frk 7 [] onil h (by kernel_rfl) (fun h => ?_) (fun h => ?_)
  · obtain ⟨v1, hv1, h⟩ := bind_some h
    exact x_to 12 [(3, .val (i64 v1))] (ocons (rmOk hv1) onil) (hrec1 (t5, v1) r h) (by kernel_rfl)
  · exact x_to 7 [] onil (hrec0 (t3, w64 (t8 + 1)) r h) (by kernel_rfl)
def Dimpl_divisor_1 (n : Nat) (t6 : List Int) (t7 : Int) (rec0 : (Int × Int) → Option Int) (a : (Int × Int)) : Option Int :=
  match a with
  | (t3, t8) => frk (decide (t8 < t7)) ((lget t6 t8).bind fun v0 => loopN (Dimpl_divisor_0 n rec0 t6 t7 t8) n (t3, maxN v0 [w64 (0 - v0)])) (some t3)
theorem Timpl_divisor_1 {Y} (n : Nat) (t6 : List Int) (t7 : Int) : ∀ (m : Nat) (a : (Int × Int)) (r : Int), loopN (Dimpl_divisor_1 n t6 t7) m a = some r → Wk Try.prog H Y 202 [.code (cp [1, 1, 0, 1, 0] (bodyOf Try.f202)), .blk 0, .code (cp [1, 1, 1] (bodyOf Try.f202))] (FinX Try.prog Try.f202 [] (i64 r) []) ⟨[(3, i64 a.1), (6, .sl false 1 t6.length ((eInt).f t6)), (7, i64 t7), (8, i64 a.2)], []⟩ := by
  refine loopN_ind (fun rec0 hrec0 a r h => ?_)
  obtain ⟨t3, t8⟩ := a
  unfold Dimpl_divisor_1 at h
  refine x_frk 6 [] onil h (by kernel_rfl) (fun h => ?_) (fun h => ?_)
  · obtain ⟨v0, hv0, h⟩ := bind_some h
    exact x_to 18 [(0, .val (.cptr (eInt.c v0 ++ (eInt).f ((t6).drop (Int.toNat t8 + 1))))), (5, .val (.lit (.int .i64 (maxN v0 [w64 (0 - v0)]))))] (ocons (ix eInt hv0) (ocons (maxNok .i64 [w64 (0 - v0)] v0) onil)) (Timpl_divisor_0 n rec0 t6 t7 hrec0 t8 n (t3, maxN v0 [w64 (0 - v0)]) r h) (by kernel_rfl)
  · replace h := Option.some.inj h; subst h
    exact x_end 6 [] [] onil onil (by kernel_rfl)
def Dimpl_divisor (n : Nat) (a0 : (List Int)) : Option Int :=
  loopN (Dimpl_divisor_1 n a0 (a0.length : Int)) n (0, 0)
theorem Timpl_divisor {Y} (n : Nat) (a0 : (List Int)) (r : Int) (h : Dimpl_divisor n a0 = some r) : Big Try.prog H Y (.call 202 [.sl false 1 a0.length ((eInt).f a0)] (lk []) (i64 r) (lk [])) := by
  unfold Dimpl_divisor at h
  refine x_call (fn := Try.f202) (c := bodyOf Try.f202) (bs0 := []) Try.func202 (by kernel_rfl) (by kernel_rfl) ?_
  exact x_to 16 [] onil (Timpl_divisor_1 n a0 (a0.length : Int) n (0, 0) r h) (by kernel_rfl)
/-! impl.PlaneOk -/
def Dimpl_PlaneOk_0 (n : Nat) (t24 : Bool) (b1_0 : Int) (b1_1 : Int) (b1_2 : Int) (b1_3 : Int) : Option Bool :=
  frk t24 (some false) (frk (b1_0 != 0) ((Dimpl_divisor n [b1_0, b1_1, b1_2, b1_3]).bind fun v4 => some (v4 == 1)) (frk (b1_1 != 0) ((Dimpl_divisor n [b1_0, b1_1, b1_2, b1_3]).bind fun v5 => some (v5 == 1)) (frk (b1_2 != 0) ((Dimpl_divisor n [b1_0, b1_1, b1_2, b1_3]).bind fun v6 => some (v6 == 1)) (some false))))
theorem Timpl_PlaneOk_0 {Y} (n : Nat) (t24 : Bool) (b1_0 : Int) (b1_1 : Int) (b1_2 : Int) (b1_3 : Int) (r : Bool) (h : Dimpl_PlaneOk_0 n t24 b1_0 b1_1 b1_2 b1_3 = some r) : Wk Try.prog H Y 177 [.code (cp [1, 0, 1] (bodyOf Try.f177)), .code (cp [1, 1] (bodyOf Try.f177))] (FinX Try.prog Try.f177 [] (bl r) []) ⟨[(1, .ptr 1 0), (24, bl t24)], [(1, ⟨true, 0, [i64 b1_0, i64 b1_1, i64 b1_2, i64 b1_3]⟩)]⟩ := by
  unfold Dimpl_PlaneOk_0 at h
  refine x_frk 0 [] onil h (by kernel_rfl) (fun h => ?_) (fun h => ?_)
  · replace h := Option.some.inj h; subst h
    exact x_end 4 [] [] onil onil (by kernel_rfl)
  · refine x_frk 7 [] onil h (by kernel_rfl) (fun h => ?_) (fun h => ?_)
    · obtain ⟨v4, hv4, h⟩ := bind_some h
      replace h := Option.some.inj h; subst h
      exact x_end 24 [(19, .call [] [(eInt).f [b1_0, b1_1, b1_2, b1_3]] (i64 v4) [])] [] (ocons (Timpl_divisor (Y := Y) n [b1_0, b1_1, b1_2, b1_3] _ hv4) (ocons (len_row (L := [b1_0, b1_1, b1_2, b1_3]) eInt) (ocons (Enc.share eInt eInt sInt [b1_0, b1_1, b1_2, b1_3]) onil))) onil (by kernel_rfl)
    · refine x_frk 5 [] onil h (by kernel_rfl) (fun h => ?_) (fun h => ?_)
      · obtain ⟨v5, hv5, h⟩ := bind_some h
        replace h := Option.some.inj h; subst h
        exact x_end 19 [(14, .call [] [(eInt).f [b1_0, b1_1, b1_2, b1_3]] (i64 v5) [])] [] (ocons (Timpl_divisor (Y := Y) n [b1_0, b1_1, b1_2, b1_3] _ hv5) (ocons (len_row (L := [b1_0, b1_1, b1_2, b1_3]) eInt) (ocons (Enc.share eInt eInt sInt [b1_0, b1_1, b1_2, b1_3]) onil))) onil (by kernel_rfl)
      · refine x_frk 5 [] onil h (by kernel_rfl) (fun h => ?_) (fun h => ?_)
        · obtain ⟨v6, hv6, h⟩ := bind_some h
          replace h := Option.some.inj h; subst h
          exact x_end 14 [(9, .call [] [(eInt).f [b1_0, b1_1, b1_2, b1_3]] (i64 v6) [])] [] (ocons (Timpl_divisor (Y := Y) n [b1_0, b1_1, b1_2, b1_3] _ hv6) (ocons (len_row (L := [b1_0, b1_1, b1_2, b1_3]) eInt) (ocons (Enc.share eInt eInt sInt [b1_0, b1_1, b1_2, b1_3]) onil))) onil (by kernel_rfl)
        · replace h := Option.some.inj h; subst h
          exact x_end 14 [] [] onil onil (by kernel_rfl)
def Dimpl_PlaneOk (n : Nat) (a0 : Pl) : Option Bool :=
  (Dimpl_isCoef a0.A).bind fun v0 => frk (!v0) (some false) ((Dimpl_isCoef a0.B).bind fun v1 => frk (!v1) (some false) ((Dimpl_isCoef a0.C).bind fun v2 => frk (!v2) (some false) ((Dimpl_isCoef a0.D).bind fun v3 => Dimpl_PlaneOk_0 n (!v3) a0.A a0.B a0.C a0.D)))
theorem Timpl_PlaneOk {Y} (n : Nat) (a0 : Pl) (r : Bool) (h : Dimpl_PlaneOk n a0 = some r) : Big Try.prog H Y (.call 177 [.agg [i64 a0.A, i64 a0.B, i64 a0.C, i64 a0.D]] (lk []) (bl r) (lk [])) := by
  unfold Dimpl_PlaneOk at h
  refine x_call (fn := Try.f177) (c := bodyOf Try.f177) (bs0 := []) Try.func177 (by kernel_rfl) (by kernel_rfl) ?_
  obtain ⟨v0, hv0, h⟩ := bind_some h
  refine x_frk 13 [(4, .call [] [] (bl v0) [])] (ocons (Timpl_isCoef (Y := Y) a0.A _ hv0) onil) h (by kernel_rfl) (fun h => ?_) (fun h => ?_)
  · replace h := Option.some.inj h; subst h
    exact x_end 23 [] [] onil onil (by kernel_rfl)
  · obtain ⟨v1, hv1, h⟩ := bind_some h
    refine x_frk 6 [(2, .call [] [] (bl v1) [])] (ocons (Timpl_isCoef (Y := Y) a0.B _ hv1) onil) h (by kernel_rfl) (fun h => ?_) (fun h => ?_)
    · replace h := Option.some.inj h; subst h
      exact x_end 17 [] [] onil onil (by kernel_rfl)
    · obtain ⟨v2, hv2, h⟩ := bind_some h
      refine x_frk 6 [(2, .call [] [] (bl v2) [])] (ocons (Timpl_isCoef (Y := Y) a0.C _ hv2) onil) h (by kernel_rfl) (fun h => ?_) (fun h => ?_)
      · replace h := Option.some.inj h; subst h
        exact x_end 11 [] [] onil onil (by kernel_rfl)
      · obtain ⟨v3, hv3, h⟩ := bind_some h
        exact x_to 6 [(2, .call [] [] (bl v3) [])] (ocons (Timpl_isCoef (Y := Y) a0.D _ hv3) onil) (Timpl_PlaneOk_0 n (!v3) a0.A a0.B a0.C a0.D r h) (by kernel_rfl)
/-! impl.flip -/
def Dimpl_flip (a0 : Pl) : Option Pl :=
  some (Pl.mk (w64 (0 - a0.A)) (w64 (0 - a0.B)) (w64 (0 - a0.C)) (w64 (0 - a0.D)))
theorem Timpl_flip {Y} (a0 : Pl) (r : Pl) (h : Dimpl_flip a0 = some r) : Big Try.prog H Y (.call 163 [.agg [i64 a0.A, i64 a0.B, i64 a0.C, i64 a0.D]] (lk []) (.agg [i64 r.A, i64 r.B, i64 r.C, i64 r.D]) (lk [])) := by
  unfold Dimpl_flip at h
  refine x_call (fn := Try.f163) (c := bodyOf Try.f163) (bs0 := []) Try.func163 (by kernel_rfl) (by kernel_rfl) ?_
  replace h := Option.some.inj h; subst h
  exact x_end 22 [] [] onil onil (by kernel_rfl)
/-! impl.normal -/
def Dimpl_normal (a0 : Pl) : Option (Int × Int × Int) :=
  some (a0.A, a0.B, a0.C)
theorem Timpl_normal {Y} (a0 : Pl) (r : (Int × Int × Int)) (h : Dimpl_normal a0 = some r) : Big Try.prog H Y (.call 78 [.agg [i64 a0.A, i64 a0.B, i64 a0.C, i64 a0.D]] (lk []) (.agg [i64 r.1, i64 r.2.1, i64 r.2.2]) (lk [])) := by
  unfold Dimpl_normal at h
  refine x_call (fn := Try.f78) (c := bodyOf Try.f78) (bs0 := []) Try.func78 (by kernel_rfl) (by kernel_rfl) ?_
  replace h := Option.some.inj h; subst h
  exact x_end 16 [] [] onil onil (by kernel_rfl)
/-! impl.crossOf -/
def Dimpl_crossOf (a0 : (Int × Int × Int)) (a1 : (Int × Int × Int)) : Option (Int × Int × Int) :=
  some (w64 ((w64 (a0.2.1 * a1.2.2)) - (w64 (a0.2.2 * a1.2.1))), w64 ((w64 (a0.2.2 * a1.1)) - (w64 (a0.1 * a1.2.2))), w64 ((w64 (a0.1 * a1.2.1)) - (w64 (a0.2.1 * a1.1))))
theorem Timpl_crossOf {Y} (a0 : (Int × Int × Int)) (a1 : (Int × Int × Int)) (r : (Int × Int × Int)) (h : Dimpl_crossOf a0 a1 = some r) : Big Try.prog H Y (.call 225 [.agg [i64 a0.1, i64 a0.2.1, i64 a0.2.2], .agg [i64 a1.1, i64 a1.2.1, i64 a1.2.2]] (lk []) (.agg [i64 r.1, i64 r.2.1, i64 r.2.2]) (lk [])) := by
  unfold Dimpl_crossOf at h
  refine x_call (fn := Try.f225) (c := bodyOf Try.f225) (bs0 := []) Try.func225 (by kernel_rfl) (by kernel_rfl) ?_
  replace h := Option.some.inj h; subst h
  exact x_end 44 [] [] onil onil (by kernel_rfl)
/-! impl.dot -/
def Dimpl_dot (a0 : (Int × Int × Int)) (a1 : (Int × Int × Int)) : Option Int :=
  some (w64 ((w64 ((w64 (a0.1 * a1.1)) + (w64 (a0.2.1 * a1.2.1)))) + (w64 (a0.2.2 * a1.2.2))))
theorem Timpl_dot {Y} (a0 : (Int × Int × Int)) (a1 : (Int × Int × Int)) (r : Int) (h : Dimpl_dot a0 a1 = some r) : Big Try.prog H Y (.call 227 [.agg [i64 a0.1, i64 a0.2.1, i64 a0.2.2], .agg [i64 a1.1, i64 a1.2.1, i64 a1.2.2]] (lk []) (i64 r) (lk [])) := by
  unfold Dimpl_dot at h
  refine x_call (fn := Try.f227) (c := bodyOf Try.f227) (bs0 := []) Try.func227 (by kernel_rfl) (by kernel_rfl) ?_
  replace h := Option.some.inj h; subst h
  exact x_end 27 [] [] onil onil (by kernel_rfl)
/-! cmp.isNaN[int] -/
def Dcmp_isNaN (a0 : Int) : Option Bool :=
  some (a0 != a0)
theorem Tcmp_isNaN {Y} (a0 : Int) (r : Bool) (h : Dcmp_isNaN a0 = some r) : Big Try.prog H Y (.call 229 [i64 a0] (lk []) (bl r) (lk [])) := by
  unfold Dcmp_isNaN at h
  refine x_call (fn := Try.f229) (c := bodyOf Try.f229) (bs0 := []) Try.func229 (by kernel_rfl) (by kernel_rfl) ?_
  replace h := Option.some.inj h; subst h
  exact x_end 11 [] [] onil onil (by kernel_rfl)
/-! cmp.Compare[int] -/
def Dcmp_Compare (a0 : Int) (a1 : Int) : Option Int :=
  (Dcmp_isNaN a0).bind fun v0 => (Dcmp_isNaN a1).bind fun v1 => frk v0 (frk v1 (some 0) (some (-1))) (frk v1 (some 1) (frk (decide (a0 < a1)) (some (-1)) (frk (decide (a0 > a1)) (some 1) (some 0))))
theorem Tcmp_Compare {Y} (a0 : Int) (a1 : Int) (r : Int) (h : Dcmp_Compare a0 a1 = some r) : Big Try.prog H Y (.call 216 [i64 a0, i64 a1] (lk []) (i64 r) (lk [])) := by
  unfold Dcmp_Compare at h
  refine x_call (fn := Try.f216) (c := bodyOf Try.f216) (bs0 := []) Try.func216 (by kernel_rfl) (by kernel_rfl) ?_
  obtain ⟨v0, hv0, h⟩ := bind_some h
  obtain ⟨v1, hv1, h⟩ := bind_some h
  refine x_frk 21 [(2, .call [] [] (bl v0) []), (2, .call [] [] (bl v1) [])] (ocons (Tcmp_isNaN (Y := Y) a0 _ hv0) (ocons (Tcmp_isNaN (Y := Y) a1 _ hv1) onil)) h (by kernel_rfl) (fun h => ?_) (fun h => ?_)
  · refine x_frk 5 [] onil h (by kernel_rfl) (fun h => ?_) (fun h => ?_)
    · replace h := Option.some.inj h; subst h
      exact x_end 4 [] [] onil onil (by kernel_rfl)
    · replace h := Option.some.inj h; subst h
      exact x_end 5 [] [] onil onil (by kernel_rfl)
  · refine x_frk 6 [] onil h (by kernel_rfl) (fun h => ?_) (fun h => ?_)
    · replace h := Option.some.inj h; subst h
      exact x_end 4 [] [] onil onil (by kernel_rfl)
    · refine x_frk 8 [] onil h (by kernel_rfl) (fun h => ?_) (fun h => ?_)
      · replace h := Option.some.inj h; subst h
        exact x_end 4 [] [] onil onil (by kernel_rfl)
      · refine x_frk 8 [] onil h (by kernel_rfl) (fun h => ?_) (fun h => ?_)
        · replace h := Option.some.inj h; subst h
          exact x_end 4 [] [] onil onil (by kernel_rfl)
        · replace h := Option.some.inj h; subst h
          exact x_end 5 [] [] onil onil (by kernel_rfl)
/-! impl.sign -/
def Dimpl_sign (a0 : Int) : Option Int :=
  (Dcmp_Compare a0 0).bind fun v0 => some v0
theorem Timpl_sign {Y} (a0 : Int) (r : Int) (h : Dimpl_sign a0 = some r) : Big Try.prog H Y (.call 207 [i64 a0] (lk []) (i64 r) (lk [])) := by
  unfold Dimpl_sign at h
  refine x_call (fn := Try.f207) (c := bodyOf Try.f207) (bs0 := []) Try.func207 (by kernel_rfl) (by kernel_rfl) ?_
  obtain ⟨v0, hv0, h⟩ := bind_some h
  replace h := Option.some.inj h; subst h
  exact x_end 10 [(2, .call [] [] (i64 v0) [])] [] (ocons (Tcmp_Compare (Y := Y) a0 0 _ hv0) onil) onil (by kernel_rfl)
/-! impl.parallel -/
def Dimpl_parallel (a0 : Pl) (a1 : Pl) : Option Int :=
  (Dimpl_normal a0).bind fun v0 => (Dimpl_normal a1).bind fun v1 => (Dimpl_crossOf v0 v1).bind fun v2 => frk (!(v2.1 == 0 && (v2.2.1 == 0 && (v2.2.2 == 0 && true)))) (some 0) ((Dimpl_normal a0).bind fun v3 => (Dimpl_normal a1).bind fun v4 => (Dimpl_dot v3 v4).bind fun v5 => (Dimpl_sign v5).bind fun v6 => some v6)
theorem Timpl_parallel {Y} (a0 : Pl) (a1 : Pl) (r : Int) (h : Dimpl_parallel a0 a1 = some r) : Big Try.prog H Y (.call 223 [.agg [i64 a0.A, i64 a0.B, i64 a0.C, i64 a0.D], .agg [i64 a1.A, i64 a1.B, i64 a1.C, i64 a1.D]] (lk []) (i64 r) (lk [])) := by
  unfold Dimpl_parallel at h
  refine x_call (fn := Try.f223) (c := bodyOf Try.f223) (bs0 := []) Try.func223 (by kernel_rfl) (by kernel_rfl) ?_
  obtain ⟨v0, hv0, h⟩ := bind_some h
  obtain ⟨v1, hv1, h⟩ := bind_some h
  obtain ⟨v2, hv2, h⟩ := bind_some h
  refine x_frk 17 [(4, .call [] [] (.agg [i64 v0.1, i64 v0.2.1, i64 v0.2.2]) []), (1, .call [] [] (.agg [i64 v1.1, i64 v1.2.1, i64 v1.2.2]) []), (0, .call [] [] (.agg [i64 v2.1, i64 v2.2.1, i64 v2.2.2]) [])] (ocons (Timpl_normal (Y := Y) a0 _ hv0) (ocons (Timpl_normal (Y := Y) a1 _ hv1) (ocons (Timpl_crossOf (Y := Y) v0 v1 _ hv2) onil))) h (by kernel_rfl) (fun h => ?_) (fun h => ?_)
  · replace h := Option.some.inj h; subst h
    exact x_end 4 [] [] onil onil (by kernel_rfl)
  · obtain ⟨v3, hv3, h⟩ := bind_some h
    obtain ⟨v4, hv4, h⟩ := bind_some h
    obtain ⟨v5, hv5, h⟩ := bind_some h
    obtain ⟨v6, hv6, h⟩ := bind_some h
    replace h := Option.some.inj h; subst h
    exact x_end 11 [(1, .call [] [] (.agg [i64 v3.1, i64 v3.2.1, i64 v3.2.2]) []), (1, .call [] [] (.agg [i64 v4.1, i64 v4.2.1, i64 v4.2.2]) []), (0, .call [] [] (i64 v5) []), (0, .call [] [] (i64 v6) [])] [] (ocons (Timpl_normal (Y := Y) a0 _ hv3) (ocons (Timpl_normal (Y := Y) a1 _ hv4) (ocons (Timpl_dot (Y := Y) v3 v4 _ hv5) (ocons (Timpl_sign (Y := Y) v5 _ hv6) onil)))) onil (by kernel_rfl)
/-! impl.clash2 -/
def Dimpl_clash2 (_n : Nat) (a0 : Pl) (a1 : Pl) : Option Bool :=
  (Dimpl_parallel a0 a1).bind fun v0 => frk (decide (v0 ≥ 0)) (some false) ((Dimpl_normal a0).bind fun v1 => (Dimpl_normal a1).bind fun v2 => frk (v1.1 != 0) (some (decide ((w64 ((w64 (a0.D * (maxN v2.1 [w64 (0 - v2.1)]))) + (w64 (a1.D * (maxN v1.1 [w64 (0 - v1.1)]))))) ≤ 0))) (frk (v1.2.1 != 0) (some (decide ((w64 ((w64 (a0.D * (maxN v2.2.1 [w64 (0 - v2.2.1)]))) + (w64 (a1.D * (maxN v1.2.1 [w64 (0 - v1.2.1)]))))) ≤ 0))) (frk (v1.2.2 != 0) (some (decide ((w64 ((w64 (a0.D * (maxN v2.2.2 [w64 (0 - v2.2.2)]))) + (w64 (a1.D * (maxN v1.2.2 [w64 (0 - v1.2.2)]))))) ≤ 0))) (some false))))
theorem Timpl_clash2 {Y} (n : Nat) (a0 : Pl) (a1 : Pl) (r : Bool) (h : Dimpl_clash2 n a0 a1 = some r) : Big Try.prog H Y (.call 203 [.agg [i64 a0.A, i64 a0.B, i64 a0.C, i64 a0.D], .agg [i64 a1.A, i64 a1.B, i64 a1.C, i64 a1.D]] (lk []) (bl r) (lk [])) := by
  unfold Dimpl_clash2 at h
  refine x_call (fn := Try.f203) (c := bodyOf Try.f203) (bs0 := []) Try.func203 (by kernel_rfl) (by kernel_rfl) ?_
  obtain ⟨v0, hv0, h⟩ := bind_some h
  refine x_frk 14 [(5, .call [] [] (i64 v0) [])] (ocons (Timpl_parallel (Y := Y) a0 a1 _ hv0) onil) h (by kernel_rfl) (fun h => ?_) (fun h => ?_)
  · replace h := Option.some.inj h; subst h
    exact x_end 4 [] [] onil onil (by kernel_rfl)
  · obtain ⟨v1, hv1, h⟩ := bind_some h
    obtain ⟨v2, hv2, h⟩ := bind_some h
    refine x_frk 40 [(1, .call [] [] (.agg [i64 v1.1, i64 v1.2.1, i64 v1.2.2]) []), (1, .call [] [] (.agg [i64 v2.1, i64 v2.2.1, i64 v2.2.2]) [])] (ocons (Timpl_normal (Y := Y) a0 _ hv1) (ocons (Timpl_normal (Y := Y) a1 _ hv2) onil)) h (by kernel_rfl) (fun h => ?_) (fun h => ?_)
    · replace h := Option.some.inj h; subst h
      exact x_end 28 [(9, .val (.lit (.int .i64 (maxN v2.1 [w64 (0 - v2.1)])))), (10, .val (.lit (.int .i64 (maxN v1.1 [w64 (0 - v1.1)]))))] [] (ocons (maxNok .i64 [w64 (0 - v2.1)] v2.1) (ocons (maxNok .i64 [w64 (0 - v1.1)] v1.1) onil)) onil (by kernel_rfl)
    · refine x_frk 29 [] onil h (by kernel_rfl) (fun h => ?_) (fun h => ?_)
      · replace h := Option.some.inj h; subst h
        exact x_end 28 [(9, .val (.lit (.int .i64 (maxN v2.2.1 [w64 (0 - v2.2.1)])))), (10, .val (.lit (.int .i64 (maxN v1.2.1 [w64 (0 - v1.2.1)]))))] [] (ocons (maxNok .i64 [w64 (0 - v2.2.1)] v2.2.1) (ocons (maxNok .i64 [w64 (0 - v1.2.1)] v1.2.1) onil)) onil (by kernel_rfl)
      · refine x_frk 29 [] onil h (by kernel_rfl) (fun h => ?_) (fun h => ?_)
        · replace h := Option.some.inj h; subst h
          exact x_end 28 [(9, .val (.lit (.int .i64 (maxN v2.2.2 [w64 (0 - v2.2.2)])))), (10, .val (.lit (.int .i64 (maxN v1.2.2 [w64 (0 - v1.2.2)]))))] [] (ocons (maxNok .i64 [w64 (0 - v2.2.2)] v2.2.2) (ocons (maxNok .i64 [w64 (0 - v1.2.2)] v1.2.2) onil)) onil (by kernel_rfl)
        · replace h := Option.some.inj h; subst h
          exact x_end 19 [] [] onil onil (by kernel_rfl)
/-! impl.det -/
def Dimpl_det (a0 : (Int × Int × Int)) (a1 : (Int × Int × Int)) (a2 : (Int × Int × Int)) : Option Int :=
  (Dimpl_crossOf a1 a2).bind fun v0 => (Dimpl_dot a0 v0).bind fun v1 => some v1
theorem Timpl_det {Y} (a0 : (Int × Int × Int)) (a1 : (Int × Int × Int)) (a2 : (Int × Int × Int)) (r : Int) (h : Dimpl_det a0 a1 a2 = some r) : Big Try.prog H Y (.call 224 [.agg [i64 a0.1, i64 a0.2.1, i64 a0.2.2], .agg [i64 a1.1, i64 a1.2.1, i64 a1.2.2], .agg [i64 a2.1, i64 a2.2.1, i64 a2.2.2]] (lk []) (i64 r) (lk [])) := by
  unfold Dimpl_det at h
  refine x_call (fn := Try.f224) (c := bodyOf Try.f224) (bs0 := []) Try.func224 (by kernel_rfl) (by kernel_rfl) ?_
  obtain ⟨v0, hv0, h⟩ := bind_some h
  obtain ⟨v1, hv1, h⟩ := bind_some h
  replace h := Option.some.inj h; subst h
  exact x_end 16 [(7, .call [] [] (.agg [i64 v0.1, i64 v0.2.1, i64 v0.2.2]) []), (0, .call [] [] (i64 v1) [])] [] (ocons (Timpl_crossOf (Y := Y) a1 a2 _ hv0) (ocons (Timpl_dot (Y := Y) a0 v0 _ hv1) onil)) onil (by kernel_rfl)
/-! impl.weighs -/
def Dimpl_weighs_0 (_n : Nat) (rec0 : (Int × Int) → Option Bool) (t1 : List Int) (_t5 : Int) (_t13 : List Int) (_t14 : Int) (t6 : Int) (t7 : Int) (t8 : Int) (t15 : Int) (t27 : Bool) : Option Bool :=
  frk t27 (some false) ((lget t1 t7).bind fun v4 => rec0 (w64 (t6 + (w64 (t8 * v4))), w64 (t15 + 1)))
theorem Timpl_weighs_0 {Y} (n : Nat) (rec0 : (Int × Int) → Option Bool) (t1 : List Int) (t5 : Int) (t13 : List Int) (t14 : Int) (hrec0 : ∀ (a : (Int × Int)) (r : Bool), rec0 a = some r → Wk Try.prog H Y 226 [.code (cp [1, 1, 1, 0, 1, 0] (bodyOf Try.f226)), .blk 0, .code (cp [1, 1, 1, 1] (bodyOf Try.f226))] (FinX Try.prog Try.f226 [] (bl r) []) ⟨[(1, .sl false 1 t1.length ((eInt).f t1)), (5, i64 t5), (6, i64 a.1), (13, .sl false 1 t13.length ((eInt).f t13)), (14, i64 t14), (15, i64 a.2)], []⟩) (t6 : Int) (t7 : Int) (t8 : Int) (t15 : Int) (t27 : Bool) (r : Bool) (h : Dimpl_weighs_0 n rec0 t1 t5 t13 t14 t6 t7 t8 t15 t27 = some r) : Wk Try.prog H Y 226 [.code (cp [1, 1, 1, 0, 1, 0, 0, 1, 1, 0, 0, 1, 0, 1] (bodyOf Try.f226)), .code (cp [1, 1, 1, 0, 1, 0, 0, 1, 1, 0, 0, 1, 1] (bodyOf Try.f226)), .blk 1, .code (cp [1, 1, 1, 0, 1, 0, 0, 1, 1, 1] (bodyOf Try.f226)), .lp (cp [1, 1, 1, 0, 1, 0] (bodyOf Try.f226)), .blk 0, .code (cp [1, 1, 1, 1] (bodyOf Try.f226))] (FinX Try.prog Try.f226 [] (bl r) []) ⟨[(1, .sl false 1 t1.length ((eInt).f t1)), (5, i64 t5), (6, i64 t6), (7, i64 t7), (8, i64 t8), (13, .sl false 1 t13.length ((eInt).f t13)), (14, i64 t14), (15, i64 t15), (27, bl t27)], []⟩ := by
  unfold Dimpl_weighs_0 at h
  refine x_frk 0 [] onil h (by kernel_rfl) (fun h => ?_) (fun h => ?_)
  · replace h := Option.some.inj h; subst h
    exact x_end 4 [] [] onil onil (by kernel_rfl)
  · obtain ⟨v4, hv4, h⟩ := bind_some h
    exact x_to 18 [(4, .val (.cptr (eInt.c v4 ++ (eInt).f ((t1).drop (Int.toNat t7 + 1)))))] (ocons (ix eInt hv4) onil) (hrec0 (w64 (t6 + (w64 (t8 * v4))), w64 (t15 + 1)) r h) (by kernel_rfl)
def Dimpl_weighs_1 (n : Nat) (t1 : List Int) (t5 : Int) (t13 : List Int) (t14 : Int) (rec0 : (Int × Int) → Option Bool) (a : (Int × Int)) : Option Bool :=
  match a with
  | (t6, t15) => frk (decide (t15 < t14)) ((lget t13 t15).bind fun v2 => frk (t5 == 0) (some false) ((Dimpl_sign v2).bind fun v3 => Dimpl_weighs_0 n rec0 t1 t5 t13 t14 t6 t15 v2 t15 (v3 != t5))) (some (decide ((w64 (t6 * t5)) ≤ 0)))
theorem Timpl_weighs_1 {Y} (n : Nat) (t1 : List Int) (t5 : Int) (t13 : List Int) (t14 : Int) : ∀ (m : Nat) (a : (Int × Int)) (r : Bool), loopN (Dimpl_weighs_1 n t1 t5 t13 t14) m a = some r → Wk Try.prog H Y 226 [.code (cp [1, 1, 1, 0, 1, 0] (bodyOf Try.f226)), .blk 0, .code (cp [1, 1, 1, 1] (bodyOf Try.f226))] (FinX Try.prog Try.f226 [] (bl r) []) ⟨[(1, .sl false 1 t1.length ((eInt).f t1)), (5, i64 t5), (6, i64 a.1), (13, .sl false 1 t13.length ((eInt).f t13)), (14, i64 t14), (15, i64 a.2)], []⟩ := by
  refine loopN_ind (fun rec0 hrec0 a r h => ?_)
  obtain ⟨t6, t15⟩ := a
  unfold Dimpl_weighs_1 at h
  refine x_frk 6 [] onil h (by kernel_rfl) (fun h => ?_) (fun h => ?_)
  · obtain ⟨v2, hv2, h⟩ := bind_some h
    refine x_frk 17 [(1, .val (.cptr (eInt.c v2 ++ (eInt).f ((t13).drop (Int.toNat t15 + 1)))))] (ocons (ix eInt hv2) onil) h (by kernel_rfl) (fun h => ?_) (fun h => ?_)
    · replace h := Option.some.inj h; subst h
      exact x_end 11 [] [] onil onil (by kernel_rfl)
    · obtain ⟨v3, hv3, h⟩ := bind_some h
      exact x_to 6 [(1, .call [] [] (i64 v3) [])] (ocons (Timpl_sign (Y := Y) v2 _ hv3) onil) (Timpl_weighs_0 n rec0 t1 t5 t13 t14 hrec0 t6 t15 v2 t15 (v3 != t5) r h) (by kernel_rfl)
  · replace h := Option.some.inj h; subst h
    exact x_end 9 [] [] onil onil (by kernel_rfl)
def Dimpl_weighs (n : Nat) (a0 : (List Int)) (a1 : (List Int)) : Option Bool :=
  (lget a0 0).bind fun v0 => (Dimpl_sign v0).bind fun v1 => loopN (Dimpl_weighs_1 n a1 v1 a0 (a0.length : Int)) n (0, 0)
theorem Timpl_weighs {Y} (n : Nat) (a0 : (List Int)) (a1 : (List Int)) (r : Bool) (h : Dimpl_weighs n a0 a1 = some r) : Big Try.prog H Y (.call 226 [.sl false 1 a0.length ((eInt).f a0), .sl false 1 a1.length ((eInt).f a1)] (lk []) (bl r) (lk [])) := by
  unfold Dimpl_weighs at h
  refine x_call (fn := Try.f226) (c := bodyOf Try.f226) (bs0 := []) Try.func226 (by kernel_rfl) (by kernel_rfl) ?_
  obtain ⟨v0, hv0, h⟩ := bind_some h
  obtain ⟨v1, hv1, h⟩ := bind_some h
  exact x_to 24 [(2, .val (.cptr (eInt.c v0 ++ (eInt).f ((a0).drop (Int.toNat 0 + 1))))), (1, .call [] [] (i64 v1) [])] (ocons (ix eInt hv0) (ocons (Timpl_sign (Y := Y) v0 _ hv1) onil)) (Timpl_weighs_1 n a1 v1 a0 (a0.length : Int) n (0, 0) r h) (by kernel_rfl)
/-! impl.clash3 -/
def Dimpl_clash3 (n : Nat) (a0 : Pl) (a1 : Pl) (a2 : Pl) : Option Bool :=
  (Dimpl_normal a0).bind fun v0 => (Dimpl_normal a1).bind fun v1 => (Dimpl_normal a2).bind fun v2 => (Dimpl_det v0 v1 v2).bind fun v3 => frk (v3 != 0) (some false) ((Dimpl_crossOf v0 v1).bind fun v4 => (Dimpl_crossOf v1 v2).bind fun v5 => (Dimpl_dot v5 v4).bind fun v6 => (Dimpl_crossOf v2 v0).bind fun v7 => (Dimpl_dot v7 v4).bind fun v8 => (Dimpl_dot v4 v4).bind fun v9 => (Dimpl_weighs n [v6, v8, v9] [a0.D, a1.D, a2.D]).bind fun v10 => some v10)
theorem Timpl_clash3 {Y} (n : Nat) (a0 : Pl) (a1 : Pl) (a2 : Pl) (r : Bool) (h : Dimpl_clash3 n a0 a1 a2 = some r) : Big Try.prog H Y (.call 204 [.agg [i64 a0.A, i64 a0.B, i64 a0.C, i64 a0.D], .agg [i64 a1.A, i64 a1.B, i64 a1.C, i64 a1.D], .agg [i64 a2.A, i64 a2.B, i64 a2.C, i64 a2.D]] (lk []) (bl r) (lk [])) := by
  unfold Dimpl_clash3 at h
  refine x_call (fn := Try.f204) (c := bodyOf Try.f204) (bs0 := []) Try.func204 (by kernel_rfl) (by kernel_rfl) ?_
  obtain ⟨v0, hv0, h⟩ := bind_some h
  obtain ⟨v1, hv1, h⟩ := bind_some h
  obtain ⟨v2, hv2, h⟩ := bind_some h
  obtain ⟨v3, hv3, h⟩ := bind_some h
  refine x_frk 31 [(5, .call [] [] (.agg [i64 v0.1, i64 v0.2.1, i64 v0.2.2]) []), (1, .call [] [] (.agg [i64 v1.1, i64 v1.2.1, i64 v1.2.2]) []), (1, .call [] [] (.agg [i64 v2.1, i64 v2.2.1, i64 v2.2.2]) []), (9, .call [] [] (i64 v3) [])] (ocons (Timpl_normal (Y := Y) a0 _ hv0) (ocons (Timpl_normal (Y := Y) a1 _ hv1) (ocons (Timpl_normal (Y := Y) a2 _ hv2) (ocons (Timpl_det (Y := Y) v0 v1 v2 _ hv3) onil)))) h (by kernel_rfl) (fun h => ?_) (fun h => ?_)
  · replace h := Option.some.inj h; subst h
    exact x_end 4 [] [] onil onil (by kernel_rfl)
  · obtain ⟨v4, hv4, h⟩ := bind_some h
    obtain ⟨v5, hv5, h⟩ := bind_some h
    obtain ⟨v6, hv6, h⟩ := bind_some h
    obtain ⟨v7, hv7, h⟩ := bind_some h
    obtain ⟨v8, hv8, h⟩ := bind_some h
    obtain ⟨v9, hv9, h⟩ := bind_some h
    obtain ⟨v10, hv10, h⟩ := bind_some h
    replace h := Option.some.inj h; subst h
    exact x_end 35 [(2, .call [] [] (.agg [i64 v4.1, i64 v4.2.1, i64 v4.2.2]) []), (4, .call [] [] (.agg [i64 v5.1, i64 v5.2.1, i64 v5.2.2]) []), (1, .call [] [] (i64 v6) []), (2, .call [] [] (.agg [i64 v7.1, i64 v7.2.1, i64 v7.2.2]) []), (1, .call [] [] (i64 v8) []), (2, .call [] [] (i64 v9) []), (8, .call [] [(eInt).f [a0.D, a1.D, a2.D], (eInt).f [v6, v8, v9]] (bl v10) [])] [] (ocons (Timpl_crossOf (Y := Y) v0 v1 _ hv4) (ocons (Timpl_crossOf (Y := Y) v1 v2 _ hv5) (ocons (Timpl_dot (Y := Y) v5 v4 _ hv6) (ocons (Timpl_crossOf (Y := Y) v2 v0 _ hv7) (ocons (Timpl_dot (Y := Y) v7 v4 _ hv8) (ocons (Timpl_dot (Y := Y) v4 v4 _ hv9) (ocons (Timpl_weighs (Y := Y) n [v6, v8, v9] [a0.D, a1.D, a2.D] _ hv10) (ocons (len_row (L := [v6, v8, v9]) eInt) (ocons (Enc.share eInt eInt sInt [v6, v8, v9]) (ocons (len_row (L := [a0.D, a1.D, a2.D]) eInt) (ocons (Enc.share eInt eInt sInt [a0.D, a1.D, a2.D]) onil))))))))))) onil (by kernel_rfl)
/-! impl.det3 -/
def Dimpl_det3 (a0 : Pl) (a1 : Pl) (a2 : Pl) : Option Int :=
  (Dimpl_normal a0).bind fun v0 => (Dimpl_normal a1).bind fun v1 => (Dimpl_normal a2).bind fun v2 => (Dimpl_det v0 v1 v2).bind fun v3 => some v3
theorem Timpl_det3 {Y} (a0 : Pl) (a1 : Pl) (a2 : Pl) (r : Int) (h : Dimpl_det3 a0 a1 a2 = some r) : Big Try.prog H Y (.call 228 [.agg [i64 a0.A, i64 a0.B, i64 a0.C, i64 a0.D], .agg [i64 a1.A, i64 a1.B, i64 a1.C, i64 a1.D], .agg [i64 a2.A, i64 a2.B, i64 a2.C, i64 a2.D]] (lk []) (i64 r) (lk [])) := by
  unfold Dimpl_det3 at h
  refine x_call (fn := Try.f228) (c := bodyOf Try.f228) (bs0 := []) Try.func228 (by kernel_rfl) (by kernel_rfl) ?_
  obtain ⟨v0, hv0, h⟩ := bind_some h
  obtain ⟨v1, hv1, h⟩ := bind_some h
  obtain ⟨v2, hv2, h⟩ := bind_some h
  obtain ⟨v3, hv3, h⟩ := bind_some h
  replace h := Option.some.inj h; subst h
  exact x_end 18 [(5, .call [] [] (.agg [i64 v0.1, i64 v0.2.1, i64 v0.2.2]) []), (1, .call [] [] (.agg [i64 v1.1, i64 v1.2.1, i64 v1.2.2]) []), (1, .call [] [] (.agg [i64 v2.1, i64 v2.2.1, i64 v2.2.2]) []), (0, .call [] [] (i64 v3) [])] [] (ocons (Timpl_normal (Y := Y) a0 _ hv0) (ocons (Timpl_normal (Y := Y) a1 _ hv1) (ocons (Timpl_normal (Y := Y) a2 _ hv2) (ocons (Timpl_det (Y := Y) v0 v1 v2 _ hv3) onil)))) onil (by kernel_rfl)
/-! impl.clash4 -/
def Dimpl_clash4 (n : Nat) (a0 : Pl) (a1 : Pl) (a2 : Pl) (a3 : Pl) : Option Bool :=
  (Dimpl_det3 a1 a2 a3).bind fun v0 => (Dimpl_det3 a0 a2 a3).bind fun v1 => (Dimpl_det3 a0 a1 a3).bind fun v2 => (Dimpl_det3 a0 a1 a2).bind fun v3 => (Dimpl_weighs n [v0, w64 (0 - v1), v2, w64 (0 - v3)] [a0.D, a1.D, a2.D, a3.D]).bind fun v4 => some v4
theorem Timpl_clash4 {Y} (n : Nat) (a0 : Pl) (a1 : Pl) (a2 : Pl) (a3 : Pl) (r : Bool) (h : Dimpl_clash4 n a0 a1 a2 a3 = some r) : Big Try.prog H Y (.call 205 [.agg [i64 a0.A, i64 a0.B, i64 a0.C, i64 a0.D], .agg [i64 a1.A, i64 a1.B, i64 a1.C, i64 a1.D], .agg [i64 a2.A, i64 a2.B, i64 a2.C, i64 a2.D], .agg [i64 a3.A, i64 a3.B, i64 a3.C, i64 a3.D]] (lk []) (bl r) (lk [])) := by
  unfold Dimpl_clash4 at h
  refine x_call (fn := Try.f205) (c := bodyOf Try.f205) (bs0 := []) Try.func205 (by kernel_rfl) (by kernel_rfl) ?_
  obtain ⟨v0, hv0, h⟩ := bind_some h
  obtain ⟨v1, hv1, h⟩ := bind_some h
  obtain ⟨v2, hv2, h⟩ := bind_some h
  obtain ⟨v3, hv3, h⟩ := bind_some h
  obtain ⟨v4, hv4, h⟩ := bind_some h
  replace h := Option.some.inj h; subst h
  exact x_end 46 [(8, .call [] [] (i64 v0) []), (3, .call [] [] (i64 v1) []), (4, .call [] [] (i64 v2) []), (3, .call [] [] (i64 v3) []), (13, .call [] [(eInt).f [a0.D, a1.D, a2.D, a3.D], (eInt).f [v0, w64 (0 - v1), v2, w64 (0 - v3)]] (bl v4) [])] [] (ocons (Timpl_det3 (Y := Y) a1 a2 a3 _ hv0) (ocons (Timpl_det3 (Y := Y) a0 a2 a3 _ hv1) (ocons (Timpl_det3 (Y := Y) a0 a1 a3 _ hv2) (ocons (Timpl_det3 (Y := Y) a0 a1 a2 _ hv3) (ocons (Timpl_weighs (Y := Y) n [v0, w64 (0 - v1), v2, w64 (0 - v3)] [a0.D, a1.D, a2.D, a3.D] _ hv4) (ocons (len_row (L := [v0, w64 (0 - v1), v2, w64 (0 - v3)]) eInt) (ocons (Enc.share eInt eInt sInt [v0, w64 (0 - v1), v2, w64 (0 - v3)]) (ocons (len_row (L := [a0.D, a1.D, a2.D, a3.D]) eInt) (ocons (Enc.share eInt eInt sInt [a0.D, a1.D, a2.D, a3.D]) onil))))))))) onil (by kernel_rfl)
/-! impl.room -/
def Dimpl_room_0 (n : Nat) (rec1 : Int → Option Bool) (_rec0 : Int → Option Bool) (_t13 : Int) (_t23 : List Pl) (_t24 : Int) (b6_0 : Int) (b6_1 : Int) (b6_2 : Int) (b6_3 : Int) (_t0 : List Pl) (_t11 : List Pl) (_t12 : Int) (b3_0 : Int) (b3_1 : Int) (b3_2 : Int) (b3_3 : Int) (t25 : Int) (t36 : List Pl) (t37 : Int) (b8_0 : Int) (b8_1 : Int) (b8_2 : Int) (b8_3 : Int) (rec2 : Int → Option Bool) (a : Int) : Option Bool :=
  match a with
  | t38 => frk (decide (t38 < t37)) ((lget t36 t38).bind fun v6 => (Dimpl_clash4 n v6 (Pl.mk b8_0 b8_1 b8_2 b8_3) (Pl.mk b6_0 b6_1 b6_2 b6_3) (Pl.mk b3_0 b3_1 b3_2 b3_3)).bind fun v7 => frk v7 (some false) (rec2 (w64 (t38 + 1)))) (rec1 (w64 (t25 + 1)))
theorem Timpl_room_0 {Y} (n : Nat) (rec1 : Int → Option Bool) (rec0 : Int → Option Bool) (t13 : Int) (t23 : List Pl) (t24 : Int) (b6_0 : Int) (b6_1 : Int) (b6_2 : Int) (b6_3 : Int) (t0 : List Pl) (t11 : List Pl) (t12 : Int) (b3_0 : Int) (b3_1 : Int) (b3_2 : Int) (b3_3 : Int) (hrec1 : ∀ (a : Int) (r : Bool), rec1 a = some r → Wk Try.prog H Y 180 [.code (cp [1, 0, 1, 0, 0, 1, 1, 0, 0, 1, 1, 1, 0] (bodyOf Try.f180)), .blk 2, .blk 1, .code (cp [1, 0, 1, 0, 0, 1, 1, 1] (bodyOf Try.f180)), .lp (cp [1, 0, 1, 0] (bodyOf Try.f180)), .blk 0, .code (cp [1, 1] (bodyOf Try.f180))] (FinX Try.prog Try.f180 [] (bl r) []) ⟨[(0, .sl false 4 t0.length ((ePl).f t0)), (3, .ptr 3 0), (6, .ptr 6 0), (11, .sl false 4 t11.length ((ePl).f t11)), (12, i64 t12), (13, i64 t13), (23, .sl false 4 t23.length ((ePl).f t23)), (24, i64 t24), (25, i64 a)], [(3, ⟨true, 0, [i64 b3_0, i64 b3_1, i64 b3_2, i64 b3_3]⟩), (6, ⟨true, 0, [i64 b6_0, i64 b6_1, i64 b6_2, i64 b6_3]⟩)]⟩) (_hrec0 : ∀ (a : Int) (r : Bool), rec0 a = some r → Wk Try.prog H Y 180 [.code (cp [1, 0, 1, 0] (bodyOf Try.f180)), .blk 0, .code (cp [1, 1] (bodyOf Try.f180))] (FinX Try.prog Try.f180 [] (bl r) []) ⟨[(0, .sl false 4 t0.length ((ePl).f t0)), (3, .ptr 3 0), (11, .sl false 4 t11.length ((ePl).f t11)), (12, i64 t12), (13, i64 a)], [(3, ⟨true, 0, [i64 b3_0, i64 b3_1, i64 b3_2, i64 b3_3]⟩)]⟩) (t25 : Int) (t36 : List Pl) (t37 : Int) (b8_0 : Int) (b8_1 : Int) (b8_2 : Int) (b8_3 : Int) : ∀ (m : Nat) (a : Int) (r : Bool), loopN (Dimpl_room_0 n rec1 rec0 t13 t23 t24 b6_0 b6_1 b6_2 b6_3 t0 t11 t12 b3_0 b3_1 b3_2 b3_3 t25 t36 t37 b8_0 b8_1 b8_2 b8_3) m a = some r → Wk Try.prog H Y 180 [.code (cp [1, 0, 1, 0, 0, 1, 1, 0, 0, 1, 1, 1, 0, 0, 1, 1, 0, 0, 1, 1, 1, 0] (bodyOf Try.f180)), .blk 4, .blk 3, .code (cp [1, 0, 1, 0, 0, 1, 1, 0, 0, 1, 1, 1, 0, 0, 1, 1, 1] (bodyOf Try.f180)), .lp (cp [1, 0, 1, 0, 0, 1, 1, 0, 0, 1, 1, 1, 0] (bodyOf Try.f180)), .blk 2, .blk 1, .code (cp [1, 0, 1, 0, 0, 1, 1, 1] (bodyOf Try.f180)), .lp (cp [1, 0, 1, 0] (bodyOf Try.f180)), .blk 0, .code (cp [1, 1] (bodyOf Try.f180))] (FinX Try.prog Try.f180 [] (bl r) []) ⟨[(0, .sl false 4 t0.length ((ePl).f t0)), (3, .ptr 3 0), (6, .ptr 6 0), (8, .ptr 8 0), (11, .sl false 4 t11.length ((ePl).f t11)), (12, i64 t12), (13, i64 t13), (23, .sl false 4 t23.length ((ePl).f t23)), (24, i64 t24), (25, i64 t25), (36, .sl false 4 t36.length ((ePl).f t36)), (37, i64 t37), (38, i64 a)], [(3, ⟨true, 0, [i64 b3_0, i64 b3_1, i64 b3_2, i64 b3_3]⟩), (6, ⟨true, 0, [i64 b6_0, i64 b6_1, i64 b6_2, i64 b6_3]⟩), (8, ⟨true, 0, [i64 b8_0, i64 b8_1, i64 b8_2, i64 b8_3]⟩)]⟩ := by
  refine loopN_ind (fun _rec2 hrec2 a r h => ?_)
  obtain ⟨t38, rfl⟩ : ∃ x, x = a := ⟨a, rfl⟩
  unfold Dimpl_room_0 at h
  refine x_frk 6 [] onil h (by kernel_rfl) (fun h => ?_) (fun h => ?_)
  · obtain ⟨v6, hv6, h⟩ := bind_some h
    obtain ⟨v7, hv7, h⟩ := bind_some h
    refine x_frk 18 [(0, .val (.cptr (ePl.c v6 ++ (ePl).f ((t36).drop (Int.toNat t38 + 1))))), (7, .call [] [] (bl v7) [])] (ocons (ix ePl hv6) (ocons (Timpl_clash4 (Y := Y) n v6 (Pl.mk b8_0 b8_1 b8_2 b8_3) (Pl.mk b6_0 b6_1 b6_2 b6_3) (Pl.mk b3_0 b3_1 b3_2 b3_3) _ hv7) onil)) h (by kernel_rfl) (fun h => ?_) (fun h => ?_)
    · replace h := Option.some.inj h; subst h
      exact x_end 4 [] [] onil onil (by kernel_rfl)
    · exact x_to 7 [] onil (hrec2 (w64 (t38 + 1)) r h) (by kernel_rfl)
  · exact x_to 7 [] onil (hrec1 (w64 (t25 + 1)) r h) (by kernel_rfl)
def Dimpl_room_1 (n : Nat) (rec0 : Int → Option Bool) (t0 : List Pl) (t11 : List Pl) (t12 : Int) (b3_0 : Int) (b3_1 : Int) (b3_2 : Int) (b3_3 : Int) (t13 : Int) (t23 : List Pl) (t24 : Int) (b6_0 : Int) (b6_1 : Int) (b6_2 : Int) (b6_3 : Int) (rec1 : Int → Option Bool) (a : Int) : Option Bool :=
  match a with
  | t25 => frk (decide (t25 < t24)) ((lget t23 t25).bind fun v3 => (Dimpl_clash3 n v3 (Pl.mk b6_0 b6_1 b6_2 b6_3) (Pl.mk b3_0 b3_1 b3_2 b3_3)).bind fun v4 => frk v4 (some false) ((lsl t0 0 t25).bind fun v5 => loopN (Dimpl_room_0 n rec1 rec0 t13 t23 t24 b6_0 b6_1 b6_2 b6_3 t0 t11 t12 b3_0 b3_1 b3_2 b3_3 t25 v5 (v5.length : Int) v3.A v3.B v3.C v3.D) n 0)) (rec0 (w64 (t13 + 1)))
theorem Timpl_room_1 {Y} (n : Nat) (rec0 : Int → Option Bool) (t0 : List Pl) (t11 : List Pl) (t12 : Int) (b3_0 : Int) (b3_1 : Int) (b3_2 : Int) (b3_3 : Int) (hrec0 : ∀ (a : Int) (r : Bool), rec0 a = some r → Wk Try.prog H Y 180 [.code (cp [1, 0, 1, 0] (bodyOf Try.f180)), .blk 0, .code (cp [1, 1] (bodyOf Try.f180))] (FinX Try.prog Try.f180 [] (bl r) []) ⟨[(0, .sl false 4 t0.length ((ePl).f t0)), (3, .ptr 3 0), (11, .sl false 4 t11.length ((ePl).f t11)), (12, i64 t12), (13, i64 a)], [(3, ⟨true, 0, [i64 b3_0, i64 b3_1, i64 b3_2, i64 b3_3]⟩)]⟩) (t13 : Int) (t23 : List Pl) (t24 : Int) (b6_0 : Int) (b6_1 : Int) (b6_2 : Int) (b6_3 : Int) : ∀ (m : Nat) (a : Int) (r : Bool), loopN (Dimpl_room_1 n rec0 t0 t11 t12 b3_0 b3_1 b3_2 b3_3 t13 t23 t24 b6_0 b6_1 b6_2 b6_3) m a = some r → Wk Try.prog H Y 180 [.code (cp [1, 0, 1, 0, 0, 1, 1, 0, 0, 1, 1, 1, 0] (bodyOf Try.f180)), .blk 2, .blk 1, .code (cp [1, 0, 1, 0, 0, 1, 1, 1] (bodyOf Try.f180)), .lp (cp [1, 0, 1, 0] (bodyOf Try.f180)), .blk 0, .code (cp [1, 1] (bodyOf Try.f180))] (FinX Try.prog Try.f180 [] (bl r) []) ⟨[(0, .sl false 4 t0.length ((ePl).f t0)), (3, .ptr 3 0), (6, .ptr 6 0), (11, .sl false 4 t11.length ((ePl).f t11)), (12, i64 t12), (13, i64 t13), (23, .sl false 4 t23.length ((ePl).f t23)), (24, i64 t24), (25, i64 a)], [(3, ⟨true, 0, [i64 b3_0, i64 b3_1, i64 b3_2, i64 b3_3]⟩), (6, ⟨true, 0, [i64 b6_0, i64 b6_1, i64 b6_2, i64 b6_3]⟩)]⟩ := by
  refine loopN_ind (fun rec1 hrec1 a r h => ?_)
  obtain ⟨t25, rfl⟩ : ∃ x, x = a := ⟨a, rfl⟩
  unfold Dimpl_room_1 at h
  refine x_frk 6 [] onil h (by kernel_rfl) (fun h => ?_) (fun h => ?_)
  · obtain ⟨v3, hv3, h⟩ := bind_some h
    obtain ⟨v4, hv4, h⟩ := bind_some h
    refine x_frk 20 [(1, .val (.cptr (ePl.c v3 ++ (ePl).f ((t23).drop (Int.toNat t25 + 1))))), (7, .call [] [] (bl v4) [])] (ocons (ix ePl hv3) (ocons (Timpl_clash3 (Y := Y) n v3 (Pl.mk b6_0 b6_1 b6_2 b6_3) (Pl.mk b3_0 b3_1 b3_2 b3_3) _ hv4) onil)) h (by kernel_rfl) (fun h => ?_) (fun h => ?_)
    · replace h := Option.some.inj h; subst h
      exact x_end 4 [] [] onil onil (by kernel_rfl)
    · obtain ⟨v5, hv5, h⟩ := bind_some h
      exact x_to 10 [(2, .val (.sl false 4 v5.length ((ePl).f v5)))] (ocons (slF ePl hv5) onil) (Timpl_room_0 n rec1 rec0 t13 t23 t24 b6_0 b6_1 b6_2 b6_3 t0 t11 t12 b3_0 b3_1 b3_2 b3_3 hrec1 hrec0 t25 v5 (v5.length : Int) v3.A v3.B v3.C v3.D n 0 r h) (by kernel_rfl)
  · exact x_to 7 [] onil (hrec0 (w64 (t13 + 1)) r h) (by kernel_rfl)
def Dimpl_room_2 (n : Nat) (t0 : List Pl) (t11 : List Pl) (t12 : Int) (b3_0 : Int) (b3_1 : Int) (b3_2 : Int) (b3_3 : Int) (rec0 : Int → Option Bool) (a : Int) : Option Bool :=
  match a with
  | t13 => frk (decide (t13 < t12)) ((lget t11 t13).bind fun v0 => (Dimpl_clash2 n v0 (Pl.mk b3_0 b3_1 b3_2 b3_3)).bind fun v1 => frk v1 (some false) ((lsl t0 0 t13).bind fun v2 => loopN (Dimpl_room_1 n rec0 t0 t11 t12 b3_0 b3_1 b3_2 b3_3 t13 v2 (v2.length : Int) v0.A v0.B v0.C v0.D) n 0)) (some true)
theorem Timpl_room_2 {Y} (n : Nat) (t0 : List Pl) (t11 : List Pl) (t12 : Int) (b3_0 : Int) (b3_1 : Int) (b3_2 : Int) (b3_3 : Int) : ∀ (m : Nat) (a : Int) (r : Bool), loopN (Dimpl_room_2 n t0 t11 t12 b3_0 b3_1 b3_2 b3_3) m a = some r → Wk Try.prog H Y 180 [.code (cp [1, 0, 1, 0] (bodyOf Try.f180)), .blk 0, .code (cp [1, 1] (bodyOf Try.f180))] (FinX Try.prog Try.f180 [] (bl r) []) ⟨[(0, .sl false 4 t0.length ((ePl).f t0)), (3, .ptr 3 0), (11, .sl false 4 t11.length ((ePl).f t11)), (12, i64 t12), (13, i64 a)], [(3, ⟨true, 0, [i64 b3_0, i64 b3_1, i64 b3_2, i64 b3_3]⟩)]⟩ := by
  refine loopN_ind (fun rec0 hrec0 a r h => ?_)
  obtain ⟨t13, rfl⟩ : ∃ x, x = a := ⟨a, rfl⟩
  unfold Dimpl_room_2 at h
  refine x_frk 6 [] onil h (by kernel_rfl) (fun h => ?_) (fun h => ?_)
  · obtain ⟨v0, hv0, h⟩ := bind_some h
    obtain ⟨v1, hv1, h⟩ := bind_some h
    refine x_frk 19 [(1, .val (.cptr (ePl.c v0 ++ (ePl).f ((t11).drop (Int.toNat t13 + 1))))), (6, .call [] [] (bl v1) [])] (ocons (ix ePl hv0) (ocons (Timpl_clash2 (Y := Y) n v0 (Pl.mk b3_0 b3_1 b3_2 b3_3) _ hv1) onil)) h (by kernel_rfl) (fun h => ?_) (fun h => ?_)
    · replace h := Option.some.inj h; subst h
      exact x_end 4 [] [] onil onil (by kernel_rfl)
    · obtain ⟨v2, hv2, h⟩ := bind_some h
      exact x_to 10 [(2, .val (.sl false 4 v2.length ((ePl).f v2)))] (ocons (slF ePl hv2) onil) (Timpl_room_1 n rec0 t0 t11 t12 b3_0 b3_1 b3_2 b3_3 hrec0 t13 v2 (v2.length : Int) v0.A v0.B v0.C v0.D n 0 r h) (by kernel_rfl)
  · replace h := Option.some.inj h; subst h
    exact x_end 5 [] [] onil onil (by kernel_rfl)
def Dimpl_room (n : Nat) (a0 : (List Pl)) (a1 : Pl) : Option Bool :=
  loopN (Dimpl_room_2 n a0 a0 (a0.length : Int) a1.A a1.B a1.C a1.D) n 0
theorem Timpl_room {Y} (n : Nat) (a0 : (List Pl)) (a1 : Pl) (r : Bool) (h : Dimpl_room n a0 a1 = some r) : Big Try.prog H Y (.call 180 [.sl false 4 a0.length ((ePl).f a0), .agg [i64 a1.A, i64 a1.B, i64 a1.C, i64 a1.D]] (lk []) (bl r) (lk [])) := by
  unfold Dimpl_room at h
  refine x_call (fn := Try.f180) (c := bodyOf Try.f180) (bs0 := []) Try.func180 (by kernel_rfl) (by kernel_rfl) ?_
  exact x_to 13 [] onil (Timpl_room_2 n a0 a0 (a0.length : Int) a1.A a1.B a1.C a1.D n 0 r h) (by kernel_rfl)
/-! impl.with -/
def Dimpl_with (a0 : (List Pl)) (a1 : Pl) : Option (List Pl) :=
  chk (apB 32 (0 + a0.length)) (chk (apB 32 (([] ++ a0).length + 1)) (some (([] ++ a0) ++ [a1])))
theorem Timpl_with {Y} (a0 : (List Pl)) (a1 : Pl) (r : (List Pl)) (h : Dimpl_with a0 a1 = some r) : Big Try.prog H Y (.call 162 [.sl false 4 a0.length ((ePl).f a0), .agg [i64 a1.A, i64 a1.B, i64 a1.C, i64 a1.D]] (lk []) (.sl true 4 r.length ((ePl).f r)) (lk [])) := by
  unfold Dimpl_with at h
  refine x_call (fn := Try.f162) (c := bodyOf Try.f162) (bs0 := []) Try.func162 (by kernel_rfl) (by kernel_rfl) ?_
  obtain ⟨c0, h⟩ := chk_some h
  obtain ⟨c1, h⟩ := chk_some h
  replace h := Option.some.inj h; subst h
  exact x_end 15 [(4, .app false (List.length ([] ++ a0)) ((ePl).f ([] ++ a0))), (2, .app false (List.length (([] ++ a0) ++ [a1])) ((ePl).f (([] ++ a0) ++ [a1])))] [] (ocons (len_row' (L := []) ePl) (ocons (app_one (L := []) (M := a0) ePl c0) (ocons (app_new (L := []) (M := a0) ePl) (ocons (app_m (L := []) (M := a0) ePl rfl) (ocons (len_row' (L := a0) ePl) (ocons (len_row' (L := ([] ++ a0)) ePl) (ocons (app_one (L := ([] ++ a0)) (M := [a1]) ePl c1) (ocons (app_new (L := ([] ++ a0)) (M := [a1]) ePl) (ocons (app_m (L := ([] ++ a0)) (M := [a1]) ePl rfl) (ocons (len_row' (L := [a1]) ePl) (ocons (Enc.noOwn ePl (fun _ => rfl) [a1]) onil))))))))))) (ocons (len_row (L := (([] ++ a0) ++ [a1])) ePl) onil) (by kernel_rfl)
/-! impl.checker).right -/
def Dimpl_checker_right_1 (_n : Nat) (self : (Int × Sol × (List Pl)) → Option (Bool × Int)) (t2 : List Pl) (t59 : Bool) (_b4_0 : Bool) (b4_1 : Int) (b4_2 : Int) (b4_3 : Int) (b4_4 : Int) (b4_5 : List Sol) (b7_0 : Int) (b7_1 : Int) (b7_2 : Int) (b7_3 : Int) (b1000_0 : Int) : Option (Bool × Int) :=
  frk t59 (some (false, b1000_0)) ((lget b4_5 0).bind fun v5 => (Dimpl_with t2 (Pl.mk b4_1 b4_2 b4_3 b4_4)).bind fun v6 => (self (b1000_0, v5, v6)).bind fun v7 => frk v7.1 ((lget b4_5 1).bind fun v8 => (Dimpl_with t2 (Pl.mk b7_0 b7_1 b7_2 b7_3)).bind fun v9 => (self (v7.2, v8, v9)).bind fun v10 => some v10) (some (false, v7.2)))
theorem Timpl_checker_right_1 {Y} (n : Nat) (self : (Int × Sol × (List Pl)) → Option (Bool × Int)) (hself : ∀ (a : (Int × Sol × (List Pl))) (r : (Bool × Int)), self a = some r → Big Try.prog H Y (.call 132 [.ptr 1000 0, .agg [bl a.2.1.inn, i64 a.2.1.pl.A, i64 a.2.1.pl.B, i64 a.2.1.pl.C, i64 a.2.1.pl.D, .sl false 6 a.2.1.kids.length ((eSol false).f a.2.1.kids)], .sl false 4 a.2.2.length ((ePl).f a.2.2)] (lk [(1000, ⟨true, 0, [i64 a.1]⟩)]) (bl r.1) (lk [(1000, ⟨true, 0, [i64 r.2]⟩)]))) (t2 : List Pl) (t59 : Bool) (b4_0 : Bool) (b4_1 : Int) (b4_2 : Int) (b4_3 : Int) (b4_4 : Int) (b4_5 : List Sol) (b7_0 : Int) (b7_1 : Int) (b7_2 : Int) (b7_3 : Int) (b1000_0 : Int) (r : (Bool × Int)) (h : Dimpl_checker_right_1 n self t2 t59 b4_0 b4_1 b4_2 b4_3 b4_4 b4_5 b7_0 b7_1 b7_2 b7_3 b1000_0 = some r) : Wk Try.prog H Y 132 [.code (cp [1, 1, 1, 1, 1, 0, 1] (bodyOf Try.f132)), .code (cp [1, 1, 1, 1, 1, 1] (bodyOf Try.f132))] (FinX Try.prog Try.f132 [(1000, ⟨true, 0, [.bad]⟩)] (bl r.1) [(1000, ⟨true, 0, [i64 r.2]⟩)]) ⟨[(0, .ptr 1000 0), (2, .sl false 4 t2.length ((ePl).f t2)), (4, .ptr 4 0), (7, .ptr 7 0), (59, bl t59)], [(4, ⟨true, 0, [bl b4_0, i64 b4_1, i64 b4_2, i64 b4_3, i64 b4_4, .sl false 6 b4_5.length ((eSol false).f b4_5)]⟩), (7, ⟨true, 0, [i64 b7_0, i64 b7_1, i64 b7_2, i64 b7_3]⟩), (1000, ⟨true, 0, [i64 b1000_0]⟩)]⟩ := by
  unfold Dimpl_checker_right_1 at h
  refine x_frk 0 [] onil h (by kernel_rfl) (fun h => ?_) (fun h => ?_)
  · replace h := Option.some.inj h; subst h
    exact x_end 4 [] [] onil onil (by kernel_rfl)
  · obtain ⟨v5, hv5, h⟩ := bind_some h
    obtain ⟨v6, hv6, h⟩ := bind_some h
    obtain ⟨v7, hv7, h⟩ := bind_some h
    refine x_frk 14 [(3, .val (.cptr ((eSol false).c v5 ++ (eSol false).f ((b4_5).drop (Int.toNat 0 + 1))))), (4, .call [] [] (.sl false 4 v6.length ((ePl).f v6)) []), (0, .call [] [] (bl v7.1) [(1000, ⟨true, 0, [i64 v7.2]⟩)])] (ocons (ix (eSol false) hv5) (ocons (shSl (L := v6) ePl ePl sPl (Timpl_with (Y := Y) t2 (Pl.mk b4_1 b4_2 b4_3 b4_4) _ hv6)) (ocons (hself (b1000_0, v5, v6) _ hv7) onil))) h (by kernel_rfl) (fun h => ?_) (fun h => ?_)
    · obtain ⟨v8, hv8, h⟩ := bind_some h
      obtain ⟨v9, hv9, h⟩ := bind_some h
      obtain ⟨v10, hv10, h⟩ := bind_some h
      replace h := Option.some.inj h; subst h
      exact x_end 12 [(3, .val (.cptr ((eSol false).c v8 ++ (eSol false).f ((b4_5).drop (Int.toNat 1 + 1))))), (3, .call [] [] (.sl false 4 v9.length ((ePl).f v9)) []), (0, .call [] [] (bl v10.1) [(1000, ⟨true, 0, [i64 v10.2]⟩)])] [] (ocons (ix (eSol false) hv8) (ocons (shSl (L := v9) ePl ePl sPl (Timpl_with (Y := Y) t2 (Pl.mk b7_0 b7_1 b7_2 b7_3) _ hv9)) (ocons (hself (v7.2, v8, v9) _ hv10) onil))) onil (by kernel_rfl)
    · replace h := Option.some.inj h; subst h
      exact x_end 12 [] [] onil onil (by kernel_rfl)
def Dimpl_checker_right_0 (n : Nat) (self : (Int × Sol × (List Pl)) → Option (Bool × Int)) (t2 : List Pl) (t45 : Bool) (b4_0 : Bool) (b4_1 : Int) (b4_2 : Int) (b4_3 : Int) (b4_4 : Int) (b4_5 : List Sol) (b1000_0 : Int) : Option (Bool × Int) :=
  frk t45 (some (false, b1000_0)) ((Dimpl_flip (Pl.mk b4_1 b4_2 b4_3 b4_4)).bind fun v2 => (Dimpl_room n t2 (Pl.mk b4_1 b4_2 b4_3 b4_4)).bind fun v3 => frk (!v3) (some (false, b1000_0)) ((Dimpl_room n t2 v2).bind fun v4 => Dimpl_checker_right_1 n self t2 (!v4) b4_0 b4_1 b4_2 b4_3 b4_4 b4_5 v2.A v2.B v2.C v2.D b1000_0))
theorem Timpl_checker_right_0 {Y} (n : Nat) (self : (Int × Sol × (List Pl)) → Option (Bool × Int)) (hself : ∀ (a : (Int × Sol × (List Pl))) (r : (Bool × Int)), self a = some r → Big Try.prog H Y (.call 132 [.ptr 1000 0, .agg [bl a.2.1.inn, i64 a.2.1.pl.A, i64 a.2.1.pl.B, i64 a.2.1.pl.C, i64 a.2.1.pl.D, .sl false 6 a.2.1.kids.length ((eSol false).f a.2.1.kids)], .sl false 4 a.2.2.length ((ePl).f a.2.2)] (lk [(1000, ⟨true, 0, [i64 a.1]⟩)]) (bl r.1) (lk [(1000, ⟨true, 0, [i64 r.2]⟩)]))) (t2 : List Pl) (t45 : Bool) (b4_0 : Bool) (b4_1 : Int) (b4_2 : Int) (b4_3 : Int) (b4_4 : Int) (b4_5 : List Sol) (b1000_0 : Int) (r : (Bool × Int)) (h : Dimpl_checker_right_0 n self t2 t45 b4_0 b4_1 b4_2 b4_3 b4_4 b4_5 b1000_0 = some r) : Wk Try.prog H Y 132 [.code (cp [1, 1, 1, 0, 1] (bodyOf Try.f132)), .code (cp [1, 1, 1, 1] (bodyOf Try.f132))] (FinX Try.prog Try.f132 [(1000, ⟨true, 0, [.bad]⟩)] (bl r.1) [(1000, ⟨true, 0, [i64 r.2]⟩)]) ⟨[(0, .ptr 1000 0), (2, .sl false 4 t2.length ((ePl).f t2)), (4, .ptr 4 0), (45, bl t45)], [(4, ⟨true, 0, [bl b4_0, i64 b4_1, i64 b4_2, i64 b4_3, i64 b4_4, .sl false 6 b4_5.length ((eSol false).f b4_5)]⟩), (1000, ⟨true, 0, [i64 b1000_0]⟩)]⟩ := by
  unfold Dimpl_checker_right_0 at h
  refine x_frk 0 [] onil h (by kernel_rfl) (fun h => ?_) (fun h => ?_)
  · replace h := Option.some.inj h; subst h
    exact x_end 4 [] [] onil onil (by kernel_rfl)
  · obtain ⟨v2, hv2, h⟩ := bind_some h
    obtain ⟨v3, hv3, h⟩ := bind_some h
    refine x_frk 18 [(2, .call [] [] (.agg [i64 v2.A, i64 v2.B, i64 v2.C, i64 v2.D]) []), (5, .call [] [] (bl v3) [])] (ocons (Timpl_flip (Y := Y) (Pl.mk b4_1 b4_2 b4_3 b4_4) _ hv2) (ocons (Timpl_room (Y := Y) n t2 (Pl.mk b4_1 b4_2 b4_3 b4_4) _ hv3) onil)) h (by kernel_rfl) (fun h => ?_) (fun h => ?_)
    · replace h := Option.some.inj h; subst h
      exact x_end 11 [] [] onil onil (by kernel_rfl)
    · obtain ⟨v4, hv4, h⟩ := bind_some h
      exact x_to 6 [(2, .call [] [] (bl v4) [])] (ocons (Timpl_room (Y := Y) n t2 v2 _ hv4) onil) (Timpl_checker_right_1 n self hself t2 (!v4) b4_0 b4_1 b4_2 b4_3 b4_4 b4_5 v2.A v2.B v2.C v2.D b1000_0 r h) (by kernel_rfl)
def Dimpl_checker_right_b (n : Nat) (self : (Int × Sol × (List Pl)) → Option (Bool × Int)) (a : (Int × Sol × (List Pl))) : Option (Bool × Int) :=
  match a with
  | (a0, a1, a2) => (Dimpl_Solid_isLeaf a1).bind fun v0 => frk v0 (some ((a1.pl.A == 0 && (a1.pl.B == 0 && (a1.pl.C == 0 && (a1.pl.D == 0 && true)))), a0)) (frk a1.inn (some (false, w64 (a0 + 1))) (frk ((a1.kids.length : Int) != 2) (some (false, w64 (a0 + 1))) (frk (decide ((w64 (a0 + 1)) > 300)) (some (false, w64 (a0 + 1))) (frk (decide ((a2.length : Int) ≥ 24)) (some (false, w64 (a0 + 1))) ((Dimpl_PlaneOk n a1.pl).bind fun v1 => Dimpl_checker_right_0 n self a2 (!v1) a1.inn a1.pl.A a1.pl.B a1.pl.C a1.pl.D a1.kids (w64 (a0 + 1)))))))
def Dimpl_checker_right (n : Nat) (a0 : Int) (a1 : Sol) (a2 : (List Pl)) : Option (Bool × Int) := loopN (Dimpl_checker_right_b n) n (a0, a1, a2)
theorem Timpl_checker_right_b {Y} (n : Nat) : ∀ (m : Nat) (a : (Int × Sol × (List Pl))) (r : (Bool × Int)), loopN (Dimpl_checker_right_b n) m a = some r → ∀ (_ : Unit), Big Try.prog H Y (.call 132 [.ptr 1000 0, .agg [bl a.2.1.inn, i64 a.2.1.pl.A, i64 a.2.1.pl.B, i64 a.2.1.pl.C, i64 a.2.1.pl.D, .sl false 6 a.2.1.kids.length ((eSol false).f a.2.1.kids)], .sl false 4 a.2.2.length ((ePl).f a.2.2)] (lk [(1000, ⟨true, 0, [i64 a.1]⟩)]) (bl r.1) (lk [(1000, ⟨true, 0, [i64 r.2]⟩)])) := by
  refine loopN_ind (fun self hs a r h => ?_)
  have hself : ∀ (a : (Int × Sol × (List Pl))) (r : (Bool × Int)), self a = some r → Big Try.prog H Y (.call 132 [.ptr 1000 0, .agg [bl a.2.1.inn, i64 a.2.1.pl.A, i64 a.2.1.pl.B, i64 a.2.1.pl.C, i64 a.2.1.pl.D, .sl false 6 a.2.1.kids.length ((eSol false).f a.2.1.kids)], .sl false 4 a.2.2.length ((ePl).f a.2.2)] (lk [(1000, ⟨true, 0, [i64 a.1]⟩)]) (bl r.1) (lk [(1000, ⟨true, 0, [i64 r.2]⟩)])) := fun a r h => hs a r h ()
  intro _
  obtain ⟨a0, a1, a2⟩ := a
  unfold Dimpl_checker_right_b at h
  refine x_call (fn := Try.f132) (c := bodyOf Try.f132) (bs0 := [(1000, ⟨true, 0, [.bad]⟩)]) Try.func132 (by kernel_rfl) (by kernel_rfl) ?_
  obtain ⟨v0, hv0, h⟩ := bind_some h
  refine x_frk 10 [(2, .call [] [] (bl v0) [])] (ocons (Timpl_Solid_isLeaf (Y := Y) a1 [] _ hv0) onil) h (by kernel_rfl) (fun h => ?_) (fun h => ?_)
  · replace h := Option.some.inj h; subst h
    exact x_end 8 [] [] onil onil (by kernel_rfl)
  · refine x_frk 18 [] onil h (by kernel_rfl) (fun h => ?_) (fun h => ?_)
    · replace h := Option.some.inj h; subst h
      exact x_end 29 [] [] onil onil (by kernel_rfl)
    · refine x_frk 6 [] onil h (by kernel_rfl) (fun h => ?_) (fun h => ?_)
      · replace h := Option.some.inj h; subst h
        exact x_end 23 [] [] onil onil (by kernel_rfl)
      · refine x_frk 7 [] onil h (by kernel_rfl) (fun h => ?_) (fun h => ?_)
        · replace h := Option.some.inj h; subst h
          exact x_end 16 [] [] onil onil (by kernel_rfl)
        · refine x_frk 5 [] onil h (by kernel_rfl) (fun h => ?_) (fun h => ?_)
          · replace h := Option.some.inj h; subst h
            exact x_end 11 [] [] onil onil (by kernel_rfl)
          · obtain ⟨v1, hv1, h⟩ := bind_some h
            exact x_to 6 [(2, .call [] [] (bl v1) [])] (ocons (Timpl_PlaneOk (Y := Y) n a1.pl _ hv1) onil) (Timpl_checker_right_0 n self hself a2 (!v1) a1.inn a1.pl.A a1.pl.B a1.pl.C a1.pl.D a1.kids (w64 (a0 + 1)) r h) (by kernel_rfl)
theorem Timpl_checker_right {Y} (n : Nat) (a0 : Int) (a1 : Sol) (a2 : (List Pl)) (r : (Bool × Int)) (h : Dimpl_checker_right n a0 a1 a2 = some r) : Big Try.prog H Y (.call 132 [.ptr 1000 0, .agg [bl a1.inn, i64 a1.pl.A, i64 a1.pl.B, i64 a1.pl.C, i64 a1.pl.D, .sl false 6 a1.kids.length ((eSol false).f a1.kids)], .sl false 4 a2.length ((ePl).f a2)] (lk [(1000, ⟨true, 0, [i64 a0]⟩)]) (bl r.1) (lk [(1000, ⟨true, 0, [i64 r.2]⟩)])) := Timpl_checker_right_b n n (a0, a1, a2) r h ()
/-! impl.SolidOk -/
def Dimpl_SolidOk (n : Nat) (a0 : Sol) : Option Bool :=
  (Dimpl_checker_right n 0 a0 []).bind fun v0 => some v0.1
theorem Timpl_SolidOk {Y} (n : Nat) (a0 : Sol) (r : Bool) (h : Dimpl_SolidOk n a0 = some r) : Big Try.prog H Y (.call 64 [.agg [bl a0.inn, i64 a0.pl.A, i64 a0.pl.B, i64 a0.pl.C, i64 a0.pl.D, .sl false 6 a0.kids.length ((eSol false).f a0.kids)]] (lk []) (bl r) (lk [])) := by
  unfold Dimpl_SolidOk at h
  refine x_call (fn := Try.f64) (c := bodyOf Try.f64) (bs0 := []) Try.func64 (by kernel_rfl) (by kernel_rfl) ?_
  obtain ⟨v0, hv0, h⟩ := bind_some h
  replace h := Option.some.inj h; subst h
  exact x_end 15 [(4, .call [(false, 4)] [] (bl v0.1) [(1000, ⟨true, 0, [i64 v0.2]⟩)])] [] (ocons (Timpl_checker_right (Y := Y) n 0 a0 [] _ hv0) onil) onil (by kernel_rfl)
/-! spec.l19Peek -/
def Dspec_l19Peek (a0 : (ByteArray × Int × Bool)) : Option (Int × (ByteArray × Int × Bool)) :=
  frk (decide (a0.2.1 ≥ (a0.1.size : Int))) (some (0, a0)) ((sget a0.1 a0.2.1).bind fun v0 => some (v0, a0))
theorem Tspec_l19Peek {Y} (a0 : (ByteArray × Int × Bool)) (r : (Int × (ByteArray × Int × Bool))) (h : Dspec_l19Peek a0 = some r) : Big Try.prog H Y (.call 145 [.ptr 1000 0] (lk [(1000, ⟨true, 0, [.lit (.string a0.1), i64 a0.2.1, bl a0.2.2]⟩)]) (.lit (.int .u8 r.1)) (lk [(1000, ⟨true, 0, [.lit (.string r.2.1), i64 r.2.2.1, bl r.2.2.2]⟩)])) := by
  unfold Dspec_l19Peek at h
  refine x_call (fn := Try.f145) (c := bodyOf Try.f145) (bs0 := [(1000, ⟨true, 0, [.bad, .bad, .bad]⟩)]) Try.func145 (by kernel_rfl) (by kernel_rfl) ?_
  refine x_frk 18 [] onil h (by kernel_rfl) (fun h => ?_) (fun h => ?_)
  · replace h := Option.some.inj h; subst h
    exact x_end 4 [] [] onil onil (by kernel_rfl)
  · obtain ⟨v0, hv0, h⟩ := bind_some h
    replace h := Option.some.inj h; subst h
    exact x_end 14 [(8, .val (.lit (.int .u8 v0)))] [] (ocons (strIx hv0) onil) onil (by kernel_rfl)
/-! spec.Leaf -/
def Dspec_Leaf (a0 : Bool) : Option Sol :=
  some (Sol.mk a0 (Pl.mk 0 0 0 0) [])
theorem Tspec_Leaf {Y} (a0 : Bool) (r : Sol) (h : Dspec_Leaf a0 = some r) : Big Try.prog H Y (.call 94 [bl a0] (lk []) (.agg [bl r.inn, i64 r.pl.A, i64 r.pl.B, i64 r.pl.C, i64 r.pl.D, .sl true 6 r.kids.length ((eSol true).f r.kids)]) (lk [])) := by
  unfold Dspec_Leaf at h
  refine x_call (fn := Try.f94) (c := bodyOf Try.f94) (bs0 := []) Try.func94 (by kernel_rfl) (by kernel_rfl) ?_
  replace h := Option.some.inj h; subst h
  exact x_end 10 [] [(true, 6)] onil onil (by kernel_rfl)
/-! spec.l19Want -/
def Dspec_l19Want_0 (t13 : Bool) (b1000_0 : ByteArray) (b1000_1 : Int) (b1000_2 : Bool) : Option (ByteArray × Int × Bool) :=
  frk t13 (some (b1000_0, b1000_1, true)) (some (b1000_0, w64 (b1000_1 + 1), b1000_2))
theorem Tspec_l19Want_0 {Y} (t13 : Bool) (b1000_0 : ByteArray) (b1000_1 : Int) (b1000_2 : Bool) (r : (ByteArray × Int × Bool)) (h : Dspec_l19Want_0 t13 b1000_0 b1000_1 b1000_2 = some r) : Wk Try.prog H Y 185 [.code (cp [0, 1] (bodyOf Try.f185)), .code (cp [1] (bodyOf Try.f185))] (FinX Try.prog Try.f185 [(1000, ⟨true, 0, [.bad, .bad, .bad]⟩)] (.tup []) [(1000, ⟨true, 0, [.lit (.string r.1), i64 r.2.1, bl r.2.2]⟩)]) ⟨[(0, .ptr 1000 0), (13, bl t13)], [(1000, ⟨true, 0, [.lit (.string b1000_0), i64 b1000_1, bl b1000_2]⟩)]⟩ := by
  unfold Dspec_l19Want_0 at h
  refine x_frk 0 [] onil h (by kernel_rfl) (fun h => ?_) (fun h => ?_)
  · replace h := Option.some.inj h; subst h
    exact x_end 7 [] [] onil onil (by kernel_rfl)
  · replace h := Option.some.inj h; subst h
    exact x_end 12 [] [] onil onil (by kernel_rfl)
def Dspec_l19Want (a0 : (ByteArray × Int × Bool)) (a1 : Int) : Option (ByteArray × Int × Bool) :=
  frk a0.2.2 (some (a0.1, a0.2.1, true)) ((Dspec_l19Peek a0).bind fun v0 => Dspec_l19Want_0 (v0.1 != a1) v0.2.1 v0.2.2.1 v0.2.2.2)
theorem Tspec_l19Want {Y} (a0 : (ByteArray × Int × Bool)) (a1 : Int) (r : (ByteArray × Int × Bool)) (h : Dspec_l19Want a0 a1 = some r) : Big Try.prog H Y (.call 185 [.ptr 1000 0, .lit (.int .u8 a1)] (lk [(1000, ⟨true, 0, [.lit (.string a0.1), i64 a0.2.1, bl a0.2.2]⟩)]) (.tup []) (lk [(1000, ⟨true, 0, [.lit (.string r.1), i64 r.2.1, bl r.2.2]⟩)])) := by
  unfold Dspec_l19Want at h
  refine x_call (fn := Try.f185) (c := bodyOf Try.f185) (bs0 := [(1000, ⟨true, 0, [.bad, .bad, .bad]⟩)]) Try.func185 (by kernel_rfl) (by kernel_rfl) ?_
  refine x_frk 8 [] onil h (by kernel_rfl) (fun h => ?_) (fun h => ?_)
  · replace h := Option.some.inj h; subst h
    exact x_end 14 [] [] onil onil (by kernel_rfl)
  · obtain ⟨v0, hv0, h⟩ := bind_some h
    exact x_to 6 [(1, .call [] [] (.lit (.int .u8 v0.1)) [(1000, ⟨true, 0, [.lit (.string v0.2.1), i64 v0.2.2.1, bl v0.2.2.2]⟩)])] (ocons (Tspec_l19Peek (Y := Y) a0 _ hv0) onil) (Tspec_l19Want_0 (v0.1 != a1) v0.2.1 v0.2.2.1 v0.2.2.2 r h) (by kernel_rfl)
/-! spec.l19Int -/
def Dspec_l19Int_5 (_n : Nat) (t4 : Int) (t87 : Bool) (b1000_0 : ByteArray) (b1000_1 : Int) (b1000_2 : Bool) : Option (Int × (ByteArray × Int × Bool)) :=
  frk t87 (some (w64 (0 - t4), (b1000_0, b1000_1, b1000_2))) (some (t4, (b1000_0, b1000_1, b1000_2)))
theorem Tspec_l19Int_5 {Y} (n : Nat) (t4 : Int) (t87 : Bool) (b1000_0 : ByteArray) (b1000_1 : Int) (b1000_2 : Bool) (r : (Int × (ByteArray × Int × Bool))) (h : Dspec_l19Int_5 n t4 t87 b1000_0 b1000_1 b1000_2 = some r) : Wk Try.prog H Y 186 [.code (cp [1, 1, 1, 1, 1, 1, 1, 0, 1] (bodyOf Try.f186)), .code (cp [1, 1, 1, 1, 1, 1, 1, 1] (bodyOf Try.f186))] (FinX Try.prog Try.f186 [(1000, ⟨true, 0, [.bad, .bad, .bad]⟩)] (i64 r.1) [(1000, ⟨true, 0, [.lit (.string r.2.1), i64 r.2.2.1, bl r.2.2.2]⟩)]) ⟨[(4, i64 t4), (87, bl t87)], [(1000, ⟨true, 0, [.lit (.string b1000_0), i64 b1000_1, bl b1000_2]⟩)]⟩ := by
  unfold Dspec_l19Int_5 at h
  refine x_frk 0 [] onil h (by kernel_rfl) (fun h => ?_) (fun h => ?_)
  · replace h := Option.some.inj h; subst h
    exact x_end 6 [] [] onil onil (by kernel_rfl)
  · replace h := Option.some.inj h; subst h
    exact x_end 6 [] [] onil onil (by kernel_rfl)
def Dspec_l19Int_4 (n : Nat) (t3 : Bool) (t4 : Int) (t5 : Int) (b1000_0 : ByteArray) (b1000_1 : Int) (b1000_2 : Bool) : Option (Int × (ByteArray × Int × Bool)) :=
  frk b1000_2 (Dspec_l19Int_5 n t4 t3 b1000_0 b1000_1 true) (Dspec_l19Int_5 n t4 t3 b1000_0 b1000_1 (t5 == 0))
theorem Tspec_l19Int_4 {Y} (n : Nat) (t3 : Bool) (t4 : Int) (t5 : Int) (b1000_0 : ByteArray) (b1000_1 : Int) (b1000_2 : Bool) (r : (Int × (ByteArray × Int × Bool))) (h : Dspec_l19Int_4 n t3 t4 t5 b1000_0 b1000_1 b1000_2 = some r) : Wk Try.prog H Y 186 [.code (cp [1, 1, 1, 1, 1, 1, 0] (bodyOf Try.f186)), .code (cp [1, 1, 1, 1, 1, 1, 1] (bodyOf Try.f186))] (FinX Try.prog Try.f186 [(1000, ⟨true, 0, [.bad, .bad, .bad]⟩)] (i64 r.1) [(1000, ⟨true, 0, [.lit (.string r.2.1), i64 r.2.2.1, bl r.2.2.2]⟩)]) ⟨[(0, .ptr 1000 0), (3, bl t3), (4, i64 t4), (5, i64 t5)], [(1000, ⟨true, 0, [.lit (.string b1000_0), i64 b1000_1, bl b1000_2]⟩)]⟩ := by
  unfold Dspec_l19Int_4 at h
  refine x_frk 7 [] onil h (by kernel_rfl) (fun h => ?_) (fun h => ?_)
  · exact x_to 12 [] onil (Tspec_l19Int_5 n t4 t3 b1000_0 b1000_1 true r h) (by kernel_rfl)
  · exact x_to 12 [] onil (Tspec_l19Int_5 n t4 t3 b1000_0 b1000_1 (t5 == 0) r h) (by kernel_rfl)
def Dspec_l19Int_3 (n : Nat) (rec0 : (Int × Int × ByteArray × Int × Bool) → Option (Int × (ByteArray × Int × Bool))) (t3 : Bool) (t4 : Int) (t5 : Int) (t58 : Bool) (b1000_0 : ByteArray) (b1000_1 : Int) (b1000_2 : Bool) : Option (Int × (ByteArray × Int × Bool)) :=
  frk t58 (Dspec_l19Int_4 n t3 t4 t5 b1000_0 b1000_1 b1000_2) ((Dspec_l19Peek (b1000_0, b1000_1, b1000_2)).bind fun v4 => rec0 (w64 ((w64 (t4 * 10)) + (w64 (IntKind.u8.wrap (v4.1 - 48)))), w64 (t5 + 1), v4.2.1, w64 (v4.2.2.1 + 1), v4.2.2.2))
theorem Tspec_l19Int_3 {Y} (n : Nat) (rec0 : (Int × Int × ByteArray × Int × Bool) → Option (Int × (ByteArray × Int × Bool))) (t3 : Bool) (hrec0 : ∀ (a : (Int × Int × ByteArray × Int × Bool)) (r : (Int × (ByteArray × Int × Bool))), rec0 a = some r → Wk Try.prog H Y 186 [.code (cp [1, 1, 1, 1, 1, 0, 0] (bodyOf Try.f186)), .blk 0, .code (cp [1, 1, 1, 1, 1, 1] (bodyOf Try.f186))] (FinX Try.prog Try.f186 [(1000, ⟨true, 0, [.bad, .bad, .bad]⟩)] (i64 r.1) [(1000, ⟨true, 0, [.lit (.string r.2.1), i64 r.2.2.1, bl r.2.2.2]⟩)]) ⟨[(0, .ptr 1000 0), (3, bl t3), (4, i64 a.1), (5, i64 a.2.1)], [(1000, ⟨true, 0, [.lit (.string a.2.2.1), i64 a.2.2.2.1, bl a.2.2.2.2]⟩)]⟩) (t4 : Int) (t5 : Int) (t58 : Bool) (b1000_0 : ByteArray) (b1000_1 : Int) (b1000_2 : Bool) (r : (Int × (ByteArray × Int × Bool))) (h : Dspec_l19Int_3 n rec0 t3 t4 t5 t58 b1000_0 b1000_1 b1000_2 = some r) : Wk Try.prog H Y 186 [.code (cp [1, 1, 1, 1, 1, 0, 0, 0, 1, 0, 0, 1] (bodyOf Try.f186)), .code (cp [1, 1, 1, 1, 1, 0, 0, 0, 1, 0, 1] (bodyOf Try.f186)), .blk 1, .lp (cp [1, 1, 1, 1, 1, 0, 0] (bodyOf Try.f186)), .blk 0, .code (cp [1, 1, 1, 1, 1, 1] (bodyOf Try.f186))] (FinX Try.prog Try.f186 [(1000, ⟨true, 0, [.bad, .bad, .bad]⟩)] (i64 r.1) [(1000, ⟨true, 0, [.lit (.string r.2.1), i64 r.2.2.1, bl r.2.2.2]⟩)]) ⟨[(0, .ptr 1000 0), (3, bl t3), (4, i64 t4), (5, i64 t5), (58, bl t58)], [(1000, ⟨true, 0, [.lit (.string b1000_0), i64 b1000_1, bl b1000_2]⟩)]⟩ := by
  unfold Dspec_l19Int_3 at h
  refine x_frk 0 [] onil h (by kernel_rfl) (fun h => ?_) (fun h => ?_)
  · exact x_to 2 [] onil (Tspec_l19Int_4 n t3 t4 t5 b1000_0 b1000_1 b1000_2 r h) (by kernel_rfl)
  · obtain ⟨v4, hv4, h⟩ := bind_some h
    exact x_to 31 [(3, .call [] [] (.lit (.int .u8 v4.1)) [(1000, ⟨true, 0, [.lit (.string v4.2.1), i64 v4.2.2.1, bl v4.2.2.2]⟩)])] (ocons (Tspec_l19Peek (Y := Y) (b1000_0, b1000_1, b1000_2) _ hv4) onil) (hrec0 (w64 ((w64 (t4 * 10)) + (w64 (IntKind.u8.wrap (v4.1 - 48)))), w64 (t5 + 1), v4.2.1, w64 (v4.2.2.1 + 1), v4.2.2.2) r h) (by kernel_rfl)
def Dspec_l19Int_6 (_n : Nat) (rec0 : (Int × Int × ByteArray × Int × Bool) → Option (Int × (ByteArray × Int × Bool))) (_t3 : Bool) (t4 : Int) (t5 : Int) (b1000_0 : ByteArray) (b1000_1 : Int) (b1000_2 : Bool) : Option (Int × (ByteArray × Int × Bool)) :=
  (Dspec_l19Peek (b1000_0, b1000_1, b1000_2)).bind fun v5 => rec0 (w64 ((w64 (t4 * 10)) + (w64 (IntKind.u8.wrap (v5.1 - 48)))), w64 (t5 + 1), v5.2.1, w64 (v5.2.2.1 + 1), v5.2.2.2)
theorem Tspec_l19Int_6 {Y} (n : Nat) (rec0 : (Int × Int × ByteArray × Int × Bool) → Option (Int × (ByteArray × Int × Bool))) (t3 : Bool) (hrec0 : ∀ (a : (Int × Int × ByteArray × Int × Bool)) (r : (Int × (ByteArray × Int × Bool))), rec0 a = some r → Wk Try.prog H Y 186 [.code (cp [1, 1, 1, 1, 1, 0, 0] (bodyOf Try.f186)), .blk 0, .code (cp [1, 1, 1, 1, 1, 1] (bodyOf Try.f186))] (FinX Try.prog Try.f186 [(1000, ⟨true, 0, [.bad, .bad, .bad]⟩)] (i64 r.1) [(1000, ⟨true, 0, [.lit (.string r.2.1), i64 r.2.2.1, bl r.2.2.2]⟩)]) ⟨[(0, .ptr 1000 0), (3, bl t3), (4, i64 a.1), (5, i64 a.2.1)], [(1000, ⟨true, 0, [.lit (.string a.2.2.1), i64 a.2.2.2.1, bl a.2.2.2.2]⟩)]⟩) (t4 : Int) (t5 : Int) (b1000_0 : ByteArray) (b1000_1 : Int) (b1000_2 : Bool) (r : (Int × (ByteArray × Int × Bool))) (h : Dspec_l19Int_6 n rec0 t3 t4 t5 b1000_0 b1000_1 b1000_2 = some r) : Wk Try.prog H Y 186 [.code (cp [1, 1, 1, 1, 1, 0, 0, 0, 1, 0, 1, 0] (bodyOf Try.f186)), .code (cp [1, 1, 1, 1, 1, 0, 0, 0, 1, 0, 1, 1] (bodyOf Try.f186)), .blk 1, .lp (cp [1, 1, 1, 1, 1, 0, 0] (bodyOf Try.f186)), .blk 0, .code (cp [1, 1, 1, 1, 1, 1] (bodyOf Try.f186))] (FinX Try.prog Try.f186 [(1000, ⟨true, 0, [.bad, .bad, .bad]⟩)] (i64 r.1) [(1000, ⟨true, 0, [.lit (.string r.2.1), i64 r.2.2.1, bl r.2.2.2]⟩)]) ⟨[(0, .ptr 1000 0), (3, bl t3), (4, i64 t4), (5, i64 t5)], [(1000, ⟨true, 0, [.lit (.string b1000_0), i64 b1000_1, bl b1000_2]⟩)]⟩ := by
  unfold Dspec_l19Int_6 at h
  obtain ⟨v5, hv5, h⟩ := bind_some h
  exact x_to 29 [(3, .call [] [] (.lit (.int .u8 v5.1)) [(1000, ⟨true, 0, [.lit (.string v5.2.1), i64 v5.2.2.1, bl v5.2.2.2]⟩)])] (ocons (Tspec_l19Peek (Y := Y) (b1000_0, b1000_1, b1000_2) _ hv5) onil) (hrec0 (w64 ((w64 (t4 * 10)) + (w64 (IntKind.u8.wrap (v5.1 - 48)))), w64 (t5 + 1), v5.2.1, w64 (v5.2.2.1 + 1), v5.2.2.2) r h) (by kernel_rfl)
def Dspec_l19Int_2 (n : Nat) (rec0 : (Int × Int × ByteArray × Int × Bool) → Option (Int × (ByteArray × Int × Bool))) (t3 : Bool) (t4 : Int) (t5 : Int) (t48 : Bool) (b1000_0 : ByteArray) (b1000_1 : Int) (b1000_2 : Bool) : Option (Int × (ByteArray × Int × Bool)) :=
  frk t48 (frk t3 (frk (t5 == 0) ((Dspec_l19Peek (b1000_0, b1000_1, b1000_2)).bind fun v3 => Dspec_l19Int_3 n rec0 t3 t4 t5 (v3.1 == 48) v3.2.1 v3.2.2.1 v3.2.2.2) (Dspec_l19Int_6 n rec0 t3 t4 t5 b1000_0 b1000_1 b1000_2)) (Dspec_l19Int_6 n rec0 t3 t4 t5 b1000_0 b1000_1 b1000_2)) (Dspec_l19Int_4 n t3 t4 t5 b1000_0 b1000_1 b1000_2)
theorem Tspec_l19Int_2 {Y} (n : Nat) (rec0 : (Int × Int × ByteArray × Int × Bool) → Option (Int × (ByteArray × Int × Bool))) (t3 : Bool) (hrec0 : ∀ (a : (Int × Int × ByteArray × Int × Bool)) (r : (Int × (ByteArray × Int × Bool))), rec0 a = some r → Wk Try.prog H Y 186 [.code (cp [1, 1, 1, 1, 1, 0, 0] (bodyOf Try.f186)), .blk 0, .code (cp [1, 1, 1, 1, 1, 1] (bodyOf Try.f186))] (FinX Try.prog Try.f186 [(1000, ⟨true, 0, [.bad, .bad, .bad]⟩)] (i64 r.1) [(1000, ⟨true, 0, [.lit (.string r.2.1), i64 r.2.2.1, bl r.2.2.2]⟩)]) ⟨[(0, .ptr 1000 0), (3, bl t3), (4, i64 a.1), (5, i64 a.2.1)], [(1000, ⟨true, 0, [.lit (.string a.2.2.1), i64 a.2.2.2.1, bl a.2.2.2.2]⟩)]⟩) (t4 : Int) (t5 : Int) (t48 : Bool) (b1000_0 : ByteArray) (b1000_1 : Int) (b1000_2 : Bool) (r : (Int × (ByteArray × Int × Bool))) (h : Dspec_l19Int_2 n rec0 t3 t4 t5 t48 b1000_0 b1000_1 b1000_2 = some r) : Wk Try.prog H Y 186 [.code (cp [1, 1, 1, 1, 1, 0, 0, 0, 0, 1] (bodyOf Try.f186)), .code (cp [1, 1, 1, 1, 1, 0, 0, 0, 1] (bodyOf Try.f186)), .lp (cp [1, 1, 1, 1, 1, 0, 0] (bodyOf Try.f186)), .blk 0, .code (cp [1, 1, 1, 1, 1, 1] (bodyOf Try.f186))] (FinX Try.prog Try.f186 [(1000, ⟨true, 0, [.bad, .bad, .bad]⟩)] (i64 r.1) [(1000, ⟨true, 0, [.lit (.string r.2.1), i64 r.2.2.1, bl r.2.2.2]⟩)]) ⟨[(0, .ptr 1000 0), (3, bl t3), (4, i64 t4), (5, i64 t5), (48, bl t48)], [(1000, ⟨true, 0, [.lit (.string b1000_0), i64 b1000_1, bl b1000_2]⟩)]⟩ := by
  unfold Dspec_l19Int_2 at h
  refine x_frk 0 [] onil h (by kernel_rfl) (fun h => ?_) (fun h => ?_)
  · refine x_frk 7 [] onil h (by kernel_rfl) (fun h => ?_) (fun h => ?_)
    · refine x_frk 4 [] onil h (by kernel_rfl) (fun h => ?_) (fun h => ?_)
      · obtain ⟨v3, hv3, h⟩ := bind_some h
        exact x_to 5 [(1, .call [] [] (.lit (.int .u8 v3.1)) [(1000, ⟨true, 0, [.lit (.string v3.2.1), i64 v3.2.2.1, bl v3.2.2.2]⟩)])] (ocons (Tspec_l19Peek (Y := Y) (b1000_0, b1000_1, b1000_2) _ hv3) onil) (Tspec_l19Int_3 n rec0 t3 hrec0 t4 t5 (v3.1 == 48) v3.2.1 v3.2.2.1 v3.2.2.2 r h) (by kernel_rfl)
      · exact x_to 8 [] onil (Tspec_l19Int_6 n rec0 t3 hrec0 t4 t5 b1000_0 b1000_1 b1000_2 r h) (by kernel_rfl)
    · exact x_to 12 [] onil (Tspec_l19Int_6 n rec0 t3 hrec0 t4 t5 b1000_0 b1000_1 b1000_2 r h) (by kernel_rfl)
  · exact x_to 2 [] onil (Tspec_l19Int_4 n t3 t4 t5 b1000_0 b1000_1 b1000_2 r h) (by kernel_rfl)
def Dspec_l19Int_7 (n : Nat) (rec0 : (Int × Int × ByteArray × Int × Bool) → Option (Int × (ByteArray × Int × Bool))) (t3 : Bool) (t4 : Int) (t5 : Int) (b1000_0 : ByteArray) (b1000_1 : Int) (b1000_2 : Bool) : Option (Int × (ByteArray × Int × Bool)) :=
  frk t3 (frk (t5 == 0) ((Dspec_l19Peek (b1000_0, b1000_1, b1000_2)).bind fun v6 => Dspec_l19Int_3 n rec0 t3 t4 t5 (v6.1 == 48) v6.2.1 v6.2.2.1 v6.2.2.2) (Dspec_l19Int_6 n rec0 t3 t4 t5 b1000_0 b1000_1 b1000_2)) (Dspec_l19Int_6 n rec0 t3 t4 t5 b1000_0 b1000_1 b1000_2)
theorem Tspec_l19Int_7 {Y} (n : Nat) (rec0 : (Int × Int × ByteArray × Int × Bool) → Option (Int × (ByteArray × Int × Bool))) (t3 : Bool) (hrec0 : ∀ (a : (Int × Int × ByteArray × Int × Bool)) (r : (Int × (ByteArray × Int × Bool))), rec0 a = some r → Wk Try.prog H Y 186 [.code (cp [1, 1, 1, 1, 1, 0, 0] (bodyOf Try.f186)), .blk 0, .code (cp [1, 1, 1, 1, 1, 1] (bodyOf Try.f186))] (FinX Try.prog Try.f186 [(1000, ⟨true, 0, [.bad, .bad, .bad]⟩)] (i64 r.1) [(1000, ⟨true, 0, [.lit (.string r.2.1), i64 r.2.2.1, bl r.2.2.2]⟩)]) ⟨[(0, .ptr 1000 0), (3, bl t3), (4, i64 a.1), (5, i64 a.2.1)], [(1000, ⟨true, 0, [.lit (.string a.2.2.1), i64 a.2.2.2.1, bl a.2.2.2.2]⟩)]⟩) (t4 : Int) (t5 : Int) (b1000_0 : ByteArray) (b1000_1 : Int) (b1000_2 : Bool) (r : (Int × (ByteArray × Int × Bool))) (h : Dspec_l19Int_7 n rec0 t3 t4 t5 b1000_0 b1000_1 b1000_2 = some r) : Wk Try.prog H Y 186 [.code (cp [1, 1, 1, 1, 1, 0, 0, 0, 1, 0, 0, 0] (bodyOf Try.f186)), .code (cp [1, 1, 1, 1, 1, 0, 0, 0, 1, 0, 0, 1] (bodyOf Try.f186)), .code (cp [1, 1, 1, 1, 1, 0, 0, 0, 1, 0, 1] (bodyOf Try.f186)), .blk 1, .lp (cp [1, 1, 1, 1, 1, 0, 0] (bodyOf Try.f186)), .blk 0, .code (cp [1, 1, 1, 1, 1, 1] (bodyOf Try.f186))] (FinX Try.prog Try.f186 [(1000, ⟨true, 0, [.bad, .bad, .bad]⟩)] (i64 r.1) [(1000, ⟨true, 0, [.lit (.string r.2.1), i64 r.2.2.1, bl r.2.2.2]⟩)]) ⟨[(0, .ptr 1000 0), (3, bl t3), (4, i64 t4), (5, i64 t5)], [(1000, ⟨true, 0, [.lit (.string b1000_0), i64 b1000_1, bl b1000_2]⟩)]⟩ := by
  unfold Dspec_l19Int_7 at h
  refine x_frk 3 [] onil h (by kernel_rfl) (fun h => ?_) (fun h => ?_)
  · refine x_frk 4 [] onil h (by kernel_rfl) (fun h => ?_) (fun h => ?_)
    · obtain ⟨v6, hv6, h⟩ := bind_some h
      exact x_to 5 [(1, .call [] [] (.lit (.int .u8 v6.1)) [(1000, ⟨true, 0, [.lit (.string v6.2.1), i64 v6.2.2.1, bl v6.2.2.2]⟩)])] (ocons (Tspec_l19Peek (Y := Y) (b1000_0, b1000_1, b1000_2) _ hv6) onil) (Tspec_l19Int_3 n rec0 t3 hrec0 t4 t5 (v6.1 == 48) v6.2.1 v6.2.2.1 v6.2.2.2 r h) (by kernel_rfl)
    · exact x_to 8 [] onil (Tspec_l19Int_6 n rec0 t3 hrec0 t4 t5 b1000_0 b1000_1 b1000_2 r h) (by kernel_rfl)
  · exact x_to 12 [] onil (Tspec_l19Int_6 n rec0 t3 hrec0 t4 t5 b1000_0 b1000_1 b1000_2 r h) (by kernel_rfl)
def Dspec_l19Int_8 (n : Nat) (t3 : Bool) (rec0 : (Int × Int × ByteArray × Int × Bool) → Option (Int × (ByteArray × Int × Bool))) (a : (Int × Int × ByteArray × Int × Bool)) : Option (Int × (ByteArray × Int × Bool)) :=
  match a with
  | (t4, t5, b1000_0, b1000_1, b1000_2) => frk (!b1000_2) (frk (decide (t5 < 3)) ((Dspec_l19Peek (b1000_0, b1000_1, b1000_2)).bind fun v1 => (Dspec_l1In (w64 v1.1) 48 57).bind fun v2 => frk v2 (frk (t5 == 1) (Dspec_l19Int_2 n rec0 t3 t4 t5 (!(t4 == 0)) v1.2.1 v1.2.2.1 v1.2.2.2) (Dspec_l19Int_7 n rec0 t3 t4 t5 v1.2.1 v1.2.2.1 v1.2.2.2)) (Dspec_l19Int_4 n t3 t4 t5 v1.2.1 v1.2.2.1 v1.2.2.2)) (Dspec_l19Int_4 n t3 t4 t5 b1000_0 b1000_1 b1000_2)) (Dspec_l19Int_4 n t3 t4 t5 b1000_0 b1000_1 b1000_2)
theorem Tspec_l19Int_8 {Y} (n : Nat) (t3 : Bool) : ∀ (m : Nat) (a : (Int × Int × ByteArray × Int × Bool)) (r : (Int × (ByteArray × Int × Bool))), loopN (Dspec_l19Int_8 n t3) m a = some r → Wk Try.prog H Y 186 [.code (cp [1, 1, 1, 1, 1, 0, 0] (bodyOf Try.f186)), .blk 0, .code (cp [1, 1, 1, 1, 1, 1] (bodyOf Try.f186))] (FinX Try.prog Try.f186 [(1000, ⟨true, 0, [.bad, .bad, .bad]⟩)] (i64 r.1) [(1000, ⟨true, 0, [.lit (.string r.2.1), i64 r.2.2.1, bl r.2.2.2]⟩)]) ⟨[(0, .ptr 1000 0), (3, bl t3), (4, i64 a.1), (5, i64 a.2.1)], [(1000, ⟨true, 0, [.lit (.string a.2.2.1), i64 a.2.2.2.1, bl a.2.2.2.2]⟩)]⟩ := by
  refine loopN_ind (fun rec0 hrec0 a r h => ?_)
  obtain ⟨t4, t5, b1000_0, b1000_1, b1000_2⟩ := a
  unfold Dspec_l19Int_8 at h
  refine x_frk 10 [] onil h (by kernel_rfl) (fun h => ?_) (fun h => ?_)
  · refine x_frk 4 [] onil h (by kernel_rfl) (fun h => ?_) (fun h => ?_)
    · obtain ⟨v1, hv1, h⟩ := bind_some h
      obtain ⟨v2, hv2, h⟩ := bind_some h
      refine x_frk 6 [(1, .call [] [] (.lit (.int .u8 v1.1)) [(1000, ⟨true, 0, [.lit (.string v1.2.1), i64 v1.2.2.1, bl v1.2.2.2]⟩)]), (1, .call [] [] (bl v2) [])] (ocons (Tspec_l19Peek (Y := Y) (b1000_0, b1000_1, b1000_2) _ hv1) (ocons (Tspec_l1In (Y := Y) (w64 v1.1) 48 57 _ hv2) onil)) h (by kernel_rfl) (fun h => ?_) (fun h => ?_)
      · refine x_frk 3 [] onil h (by kernel_rfl) (fun h => ?_) (fun h => ?_)
        · exact x_to 6 [] onil (Tspec_l19Int_2 n rec0 t3 hrec0 t4 t5 (!(t4 == 0)) v1.2.1 v1.2.2.1 v1.2.2.2 r h) (by kernel_rfl)
        · exact x_to 11 [] onil (Tspec_l19Int_7 n rec0 t3 hrec0 t4 t5 v1.2.1 v1.2.2.1 v1.2.2.2 r h) (by kernel_rfl)
      · exact x_to 12 [] onil (Tspec_l19Int_4 n t3 t4 t5 v1.2.1 v1.2.2.1 v1.2.2.2 r h) (by kernel_rfl)
    · exact x_to 18 [] onil (Tspec_l19Int_4 n t3 t4 t5 b1000_0 b1000_1 b1000_2 r h) (by kernel_rfl)
  · exact x_to 22 [] onil (Tspec_l19Int_4 n t3 t4 t5 b1000_0 b1000_1 b1000_2 r h) (by kernel_rfl)
def Dspec_l19Int_1 (n : Nat) (t3 : Bool) (t4 : Int) (t5 : Int) (b1000_0 : ByteArray) (b1000_1 : Int) (b1000_2 : Bool) : Option (Int × (ByteArray × Int × Bool)) :=
  loopN (Dspec_l19Int_8 n t3) n (t4, t5, b1000_0, b1000_1, b1000_2)
theorem Tspec_l19Int_1 {Y} (n : Nat) (t3 : Bool) (t4 : Int) (t5 : Int) (b1000_0 : ByteArray) (b1000_1 : Int) (b1000_2 : Bool) (r : (Int × (ByteArray × Int × Bool))) (h : Dspec_l19Int_1 n t3 t4 t5 b1000_0 b1000_1 b1000_2 = some r) : Wk Try.prog H Y 186 [.code (cp [1, 1, 1, 1, 1, 0, 0] (bodyOf Try.f186)), .blk 0, .code (cp [1, 1, 1, 1, 1, 1] (bodyOf Try.f186))] (FinX Try.prog Try.f186 [(1000, ⟨true, 0, [.bad, .bad, .bad]⟩)] (i64 r.1) [(1000, ⟨true, 0, [.lit (.string r.2.1), i64 r.2.2.1, bl r.2.2.2]⟩)]) ⟨[(0, .ptr 1000 0), (3, bl t3), (4, i64 t4), (5, i64 t5)], [(1000, ⟨true, 0, [.lit (.string b1000_0), i64 b1000_1, bl b1000_2]⟩)]⟩ := by
  unfold Dspec_l19Int_1 at h
  exact x_to 0 [] onil (Tspec_l19Int_8 n t3 n (t4, t5, b1000_0, b1000_1, b1000_2) r h) (by kernel_rfl)
def Dspec_l19Int_0 (n : Nat) (t3 : Bool) (t16 : Bool) (b1000_0 : ByteArray) (b1000_1 : Int) (b1000_2 : Bool) : Option (Int × (ByteArray × Int × Bool)) :=
  frk t16 (Dspec_l19Int_1 n t3 0 0 b1000_0 (w64 (b1000_1 + 1)) b1000_2) (Dspec_l19Int_1 n t3 0 0 b1000_0 b1000_1 b1000_2)
theorem Tspec_l19Int_0 {Y} (n : Nat) (t3 : Bool) (t16 : Bool) (b1000_0 : ByteArray) (b1000_1 : Int) (b1000_2 : Bool) (r : (Int × (ByteArray × Int × Bool))) (h : Dspec_l19Int_0 n t3 t16 b1000_0 b1000_1 b1000_2 = some r) : Wk Try.prog H Y 186 [.code (cp [1, 1, 0, 1] (bodyOf Try.f186)), .code (cp [1, 1, 1] (bodyOf Try.f186))] (FinX Try.prog Try.f186 [(1000, ⟨true, 0, [.bad, .bad, .bad]⟩)] (i64 r.1) [(1000, ⟨true, 0, [.lit (.string r.2.1), i64 r.2.2.1, bl r.2.2.2]⟩)]) ⟨[(0, .ptr 1000 0), (3, bl t3), (16, bl t16)], [(1000, ⟨true, 0, [.lit (.string b1000_0), i64 b1000_1, bl b1000_2]⟩)]⟩ := by
  unfold Dspec_l19Int_0 at h
  refine x_frk 0 [] onil h (by kernel_rfl) (fun h => ?_) (fun h => ?_)
  · exact x_to 21 [] onil (Tspec_l19Int_1 n t3 0 0 b1000_0 (w64 (b1000_1 + 1)) b1000_2 r h) (by kernel_rfl)
  · exact x_to 11 [] onil (Tspec_l19Int_1 n t3 0 0 b1000_0 b1000_1 b1000_2 r h) (by kernel_rfl)
def Dspec_l19Int (n : Nat) (a0 : (ByteArray × Int × Bool)) : Option (Int × (ByteArray × Int × Bool)) :=
  frk (!a0.2.2) ((Dspec_l19Peek a0).bind fun v0 => Dspec_l19Int_0 n (v0.1 == 45) (v0.1 == 45) v0.2.1 v0.2.2.1 v0.2.2.2) (Dspec_l19Int_1 n false 0 0 a0.1 a0.2.1 a0.2.2)
theorem Tspec_l19Int {Y} (n : Nat) (a0 : (ByteArray × Int × Bool)) (r : (Int × (ByteArray × Int × Bool))) (h : Dspec_l19Int n a0 = some r) : Big Try.prog H Y (.call 186 [.ptr 1000 0] (lk [(1000, ⟨true, 0, [.lit (.string a0.1), i64 a0.2.1, bl a0.2.2]⟩)]) (i64 r.1) (lk [(1000, ⟨true, 0, [.lit (.string r.2.1), i64 r.2.2.1, bl r.2.2.2]⟩)])) := by
  unfold Dspec_l19Int at h
  refine x_call (fn := Try.f186) (c := bodyOf Try.f186) (bs0 := [(1000, ⟨true, 0, [.bad, .bad, .bad]⟩)]) Try.func186 (by kernel_rfl) (by kernel_rfl) ?_
  refine x_frk 12 [] onil h (by kernel_rfl) (fun h => ?_) (fun h => ?_)
  · obtain ⟨v0, hv0, h⟩ := bind_some h
    exact x_to 11 [(1, .call [] [] (.lit (.int .u8 v0.1)) [(1000, ⟨true, 0, [.lit (.string v0.2.1), i64 v0.2.2.1, bl v0.2.2.2]⟩)])] (ocons (Tspec_l19Peek (Y := Y) a0 _ hv0) onil) (Tspec_l19Int_0 n (v0.1 == 45) (v0.1 == 45) v0.2.1 v0.2.2.1 v0.2.2.2 r h) (by kernel_rfl)
  · exact x_to 23 [] onil (Tspec_l19Int_1 n false 0 0 a0.1 a0.2.1 a0.2.2 r h) (by kernel_rfl)
/-! spec.l8Node -/
def Dspec_l8Nodeo1o2 (a0 : Pl) (a1 : Sol) (a2 : Sol) : Option Sol :=
  some (Sol.mk false a0 [a1, a2])
theorem Tspec_l8Nodeo1o2 {Y} (a0 : Pl) (a1 : Sol) (a2 : Sol) (r : Sol) (h : Dspec_l8Nodeo1o2 a0 a1 a2 = some r) : Big Try.prog H Y (.call 134 [.agg [i64 a0.A, i64 a0.B, i64 a0.C, i64 a0.D], .agg [bl a1.inn, i64 a1.pl.A, i64 a1.pl.B, i64 a1.pl.C, i64 a1.pl.D, .sl true 6 a1.kids.length ((eSol true).f a1.kids)], .agg [bl a2.inn, i64 a2.pl.A, i64 a2.pl.B, i64 a2.pl.C, i64 a2.pl.D, .sl true 6 a2.kids.length ((eSol true).f a2.kids)]] (lk []) (.agg [bl r.inn, i64 r.pl.A, i64 r.pl.B, i64 r.pl.C, i64 r.pl.D, .sl true 6 r.kids.length ((eSol true).f r.kids)]) (lk [])) := by
  unfold Dspec_l8Nodeo1o2 at h
  refine x_call (fn := Try.f134) (c := bodyOf Try.f134) (bs0 := []) Try.func134 (by kernel_rfl) (by kernel_rfl) ?_
  replace h := Option.some.inj h; subst h
  exact x_end 17 [(8, .fixb 10 ⟨true, 6, (eSol true).f [a1, a2]⟩)] [] (ocons (boxSol true true [a1, a2]) onil) (ocons (len_row (L := [a1, a2]) (eSol true)) onil) (by kernel_rfl)
/-! spec.l19Node -/
def Dspec_l19Node_in (n : Nat) (self : ((ByteArray × Int × Bool) × Int) → Option (Sol × (ByteArray × Int × Bool))) (a0 : (ByteArray × Int × Bool)) (a1 : Int) : Option (Sol × (ByteArray × Int × Bool)) :=
  (Dspec_l19Want a0 40).bind fun v0 => (Dspec_l19Int n v0).bind fun v1 => chk (apB 8 (0 + 1)) ((Dspec_l19Want v1.2 32).bind fun v3 => (Dspec_l19Int n v3).bind fun v4 => chk (apB 8 (1 + 1)) ((Dspec_l19Want v4.2 32).bind fun v6 => (Dspec_l19Int n v6).bind fun v7 => chk (apB 8 (2 + 1)) ((Dspec_l19Want v7.2 32).bind fun v9 => (Dspec_l19Int n v9).bind fun v10 => chk (apB 8 (3 + 1)) ((Dspec_l19Want v10.2 32).bind fun v12 => (self (v12, w64 (a1 + 1))).bind fun v13 => (Dspec_l19Want v13.2 32).bind fun v14 => (self (v14, w64 (a1 + 1))).bind fun v15 => (Dspec_l19Want v15.2 41).bind fun v16 => (Dspec_l8Nodeo1o2 (Pl.mk v1.1 v4.1 v7.1 v10.1) v13.1 v15.1).bind fun v17 => some (v17, v16)))))
theorem Tspec_l19Node_in {Y} (n : Nat) (self : ((ByteArray × Int × Bool) × Int) → Option (Sol × (ByteArray × Int × Bool))) (hself : ∀ (a : ((ByteArray × Int × Bool) × Int)) (r : (Sol × (ByteArray × Int × Bool))), self a = some r → Big Try.prog H Y (.call 87 [.ptr 1000 0, i64 a.2] (lk [(1000, ⟨true, 0, [.lit (.string a.1.1), i64 a.1.2.1, bl a.1.2.2]⟩)]) (.agg [bl r.1.inn, i64 r.1.pl.A, i64 r.1.pl.B, i64 r.1.pl.C, i64 r.1.pl.D, .sl true 6 r.1.kids.length ((eSol true).f r.1.kids)]) (lk [(1000, ⟨true, 0, [.lit (.string r.2.1), i64 r.2.2.1, bl r.2.2.2]⟩)]))) (a0 : (ByteArray × Int × Bool)) (a1 : Int) (r : (Sol × (ByteArray × Int × Bool))) (h : Dspec_l19Node_in n self a0 a1 = some r) : Big Try.prog H Y (.call 146 [.ptr 1000 0, i64 a1] (lk [(1000, ⟨true, 0, [.lit (.string a0.1), i64 a0.2.1, bl a0.2.2]⟩)]) (.agg [bl r.1.inn, i64 r.1.pl.A, i64 r.1.pl.B, i64 r.1.pl.C, i64 r.1.pl.D, .sl true 6 r.1.kids.length ((eSol true).f r.1.kids)]) (lk [(1000, ⟨true, 0, [.lit (.string r.2.1), i64 r.2.2.1, bl r.2.2.2]⟩)])) := by
  unfold Dspec_l19Node_in at h
  refine x_call (fn := Try.f146) (c := bodyOf Try.f146) (bs0 := [(1000, ⟨true, 0, [.bad, .bad, .bad]⟩)]) Try.func146 (by kernel_rfl) (by kernel_rfl) ?_
  obtain ⟨v0, hv0, h⟩ := bind_some h
  obtain ⟨v1, hv1, h⟩ := bind_some h
  obtain ⟨c2, h⟩ := chk_some h
  obtain ⟨v3, hv3, h⟩ := bind_some h
  obtain ⟨v4, hv4, h⟩ := bind_some h
  obtain ⟨c5, h⟩ := chk_some h
  obtain ⟨v6, hv6, h⟩ := bind_some h
  obtain ⟨v7, hv7, h⟩ := bind_some h
  obtain ⟨c8, h⟩ := chk_some h
  obtain ⟨v9, hv9, h⟩ := bind_some h
  obtain ⟨v10, hv10, h⟩ := bind_some h
  obtain ⟨c11, h⟩ := chk_some h
  obtain ⟨v12, hv12, h⟩ := bind_some h
  obtain ⟨v13, hv13, h⟩ := bind_some h
  obtain ⟨v14, hv14, h⟩ := bind_some h
  obtain ⟨v15, hv15, h⟩ := bind_some h
  obtain ⟨v16, hv16, h⟩ := bind_some h
  obtain ⟨v17, hv17, h⟩ := bind_some h
  replace h := Option.some.inj h; subst h
  exact x_end 201 [(2, .call [] [] (.tup []) [(1000, ⟨true, 0, [.lit (.string v0.1), i64 v0.2.1, bl v0.2.2]⟩)]), (7, .call [] [] (i64 v1.1) [(1000, ⟨true, 0, [.lit (.string v1.2.1), i64 v1.2.2.1, bl v1.2.2.2]⟩)]), (1, .app false (List.length ([] ++ [v1.1])) ((eInt).f ([] ++ [v1.1]))), (2, .call [] [] (.tup []) [(1000, ⟨true, 0, [.lit (.string v3.1), i64 v3.2.1, bl v3.2.2]⟩)]), (7, .call [] [] (i64 v4.1) [(1000, ⟨true, 0, [.lit (.string v4.2.1), i64 v4.2.2.1, bl v4.2.2.2]⟩)]), (1, .app false (List.length ([v1.1] ++ [v4.1])) ((eInt).f ([v1.1] ++ [v4.1]))), (2, .call [] [] (.tup []) [(1000, ⟨true, 0, [.lit (.string v6.1), i64 v6.2.1, bl v6.2.2]⟩)]), (7, .call [] [] (i64 v7.1) [(1000, ⟨true, 0, [.lit (.string v7.2.1), i64 v7.2.2.1, bl v7.2.2.2]⟩)]), (1, .app false (List.length ([v1.1, v4.1] ++ [v7.1])) ((eInt).f ([v1.1, v4.1] ++ [v7.1]))), (2, .call [] [] (.tup []) [(1000, ⟨true, 0, [.lit (.string v9.1), i64 v9.2.1, bl v9.2.2]⟩)]), (7, .call [] [] (i64 v10.1) [(1000, ⟨true, 0, [.lit (.string v10.2.1), i64 v10.2.2.1, bl v10.2.2.2]⟩)]), (1, .app false (List.length ([v1.1, v4.1, v7.1] ++ [v10.1])) ((eInt).f ([v1.1, v4.1, v7.1] ++ [v10.1]))), (2, .call [] [] (.tup []) [(1000, ⟨true, 0, [.lit (.string v12.1), i64 v12.2.1, bl v12.2.2]⟩)]), (8, .call [] [] (.agg [bl v13.1.inn, i64 v13.1.pl.A, i64 v13.1.pl.B, i64 v13.1.pl.C, i64 v13.1.pl.D, .sl true 6 v13.1.kids.length ((eSol true).f v13.1.kids)]) [(1000, ⟨true, 0, [.lit (.string v13.2.1), i64 v13.2.2.1, bl v13.2.2.2]⟩)]), (3, .call [] [] (.tup []) [(1000, ⟨true, 0, [.lit (.string v14.1), i64 v14.2.1, bl v14.2.2]⟩)]), (3, .call [] [] (.agg [bl v15.1.inn, i64 v15.1.pl.A, i64 v15.1.pl.B, i64 v15.1.pl.C, i64 v15.1.pl.D, .sl true 6 v15.1.kids.length ((eSol true).f v15.1.kids)]) [(1000, ⟨true, 0, [.lit (.string v15.2.1), i64 v15.2.2.1, bl v15.2.2.2]⟩)]), (3, .call [] [] (.tup []) [(1000, ⟨true, 0, [.lit (.string v16.1), i64 v16.2.1, bl v16.2.2]⟩)]), (15, .call [] [] (.agg [bl v17.inn, i64 v17.pl.A, i64 v17.pl.B, i64 v17.pl.C, i64 v17.pl.D, .sl true 6 v17.kids.length ((eSol true).f v17.kids)]) [])] [] (ocons (Tspec_l19Want (Y := Y) a0 40 _ hv0) (ocons (Tspec_l19Int (Y := Y) n v0 _ hv1) (ocons (len_row' (L := []) eInt) (ocons (app_one (L := []) (M := [v1.1]) eInt c2) (ocons (app_new (L := []) (M := [v1.1]) eInt) (ocons (app_m (L := []) (M := [v1.1]) eInt rfl) (ocons (len_row' (L := [v1.1]) eInt) (ocons (Enc.noOwn eInt (fun _ => rfl) [v1.1]) (ocons (Tspec_l19Want (Y := Y) v1.2 32 _ hv3) (ocons (Tspec_l19Int (Y := Y) n v3 _ hv4) (ocons (len_row' (L := [v1.1]) eInt) (ocons (app_one (L := [v1.1]) (M := [v4.1]) eInt c5) (ocons (app_new (L := [v1.1]) (M := [v4.1]) eInt) (ocons (app_m (L := [v1.1]) (M := [v4.1]) eInt rfl) (ocons (len_row' (L := [v4.1]) eInt) (ocons (Enc.noOwn eInt (fun _ => rfl) [v4.1]) (ocons (Tspec_l19Want (Y := Y) v4.2 32 _ hv6) (ocons (Tspec_l19Int (Y := Y) n v6 _ hv7) (ocons (len_row' (L := [v1.1, v4.1]) eInt) (ocons (app_one (L := [v1.1, v4.1]) (M := [v7.1]) eInt c8) (ocons (app_new (L := [v1.1, v4.1]) (M := [v7.1]) eInt) (ocons (app_m (L := [v1.1, v4.1]) (M := [v7.1]) eInt rfl) (ocons (len_row' (L := [v7.1]) eInt) (ocons (Enc.noOwn eInt (fun _ => rfl) [v7.1]) (ocons (Tspec_l19Want (Y := Y) v7.2 32 _ hv9) (ocons (Tspec_l19Int (Y := Y) n v9 _ hv10) (ocons (len_row' (L := [v1.1, v4.1, v7.1]) eInt) (ocons (app_one (L := [v1.1, v4.1, v7.1]) (M := [v10.1]) eInt c11) (ocons (app_new (L := [v1.1, v4.1, v7.1]) (M := [v10.1]) eInt) (ocons (app_m (L := [v1.1, v4.1, v7.1]) (M := [v10.1]) eInt rfl) (ocons (len_row' (L := [v10.1]) eInt) (ocons (Enc.noOwn eInt (fun _ => rfl) [v10.1]) (ocons (Tspec_l19Want (Y := Y) v10.2 32 _ hv12) (ocons (hself (v12, w64 (a1 + 1)) _ hv13) (ocons (Tspec_l19Want (Y := Y) v13.2 32 _ hv14) (ocons (hself (v14, w64 (a1 + 1)) _ hv15) (ocons (Tspec_l19Want (Y := Y) v15.2 41 _ hv16) (ocons (Tspec_l8Nodeo1o2 (Y := Y) (Pl.mk v1.1 v4.1 v7.1 v10.1) v13.1 v15.1 _ hv17) onil)))))))))))))))))))))))))))))))))))))) onil (by kernel_rfl)
/-! spec.l19Read -/
def Dspec_l19Read_0 (_n : Nat) (_self : ((ByteArray × Int × Bool) × Int) → Option (Sol × (ByteArray × Int × Bool))) (_b4_0 : Bool) (_b4_1 : Int) (_b4_2 : Int) (_b4_3 : Int) (_b4_4 : Int) (b1000_0 : ByteArray) (b1000_1 : Int) (b1000_2 : Bool) : Option (Sol × (ByteArray × Int × Bool)) :=
  (sget b1000_0 (w64 (b1000_1 - 1))).bind fun v1 => (Dspec_Leaf (v1 == 35)).bind fun v2 => some (v2, (b1000_0, b1000_1, b1000_2))
theorem Tspec_l19Read_0 {Y} (n : Nat) (self : ((ByteArray × Int × Bool) × Int) → Option (Sol × (ByteArray × Int × Bool))) (_hself : ∀ (a : ((ByteArray × Int × Bool) × Int)) (r : (Sol × (ByteArray × Int × Bool))), self a = some r → Big Try.prog H Y (.call 87 [.ptr 1000 0, i64 a.2] (lk [(1000, ⟨true, 0, [.lit (.string a.1.1), i64 a.1.2.1, bl a.1.2.2]⟩)]) (.agg [bl r.1.inn, i64 r.1.pl.A, i64 r.1.pl.B, i64 r.1.pl.C, i64 r.1.pl.D, .sl true 6 r.1.kids.length ((eSol true).f r.1.kids)]) (lk [(1000, ⟨true, 0, [.lit (.string r.2.1), i64 r.2.2.1, bl r.2.2.2]⟩)]))) (b4_0 : Bool) (b4_1 : Int) (b4_2 : Int) (b4_3 : Int) (b4_4 : Int) (b1000_0 : ByteArray) (b1000_1 : Int) (b1000_2 : Bool) (r : (Sol × (ByteArray × Int × Bool))) (h : Dspec_l19Read_0 n self b4_0 b4_1 b4_2 b4_3 b4_4 b1000_0 b1000_1 b1000_2 = some r) : Wk Try.prog H Y 87 [.code (cp [1, 1, 0, 1, 0, 1, 0, 1, 0] (bodyOf Try.f87)), .code (cp [1, 1, 0, 1, 0, 1, 0, 1, 1] (bodyOf Try.f87)), .blk 0, .code (cp [1, 1, 1] (bodyOf Try.f87))] (FinX Try.prog Try.f87 [(1000, ⟨true, 0, [.bad, .bad, .bad]⟩)] (.agg [bl r.1.inn, i64 r.1.pl.A, i64 r.1.pl.B, i64 r.1.pl.C, i64 r.1.pl.D, .sl true 6 r.1.kids.length ((eSol true).f r.1.kids)]) [(1000, ⟨true, 0, [.lit (.string r.2.1), i64 r.2.2.1, bl r.2.2.2]⟩)]) ⟨[(0, .ptr 1000 0), (4, .ptr 4 0)], [(4, ⟨true, 0, [bl b4_0, i64 b4_1, i64 b4_2, i64 b4_3, i64 b4_4, .nil]⟩), (1000, ⟨true, 0, [.lit (.string b1000_0), i64 b1000_1, bl b1000_2]⟩)]⟩ := by
  unfold Dspec_l19Read_0 at h
  obtain ⟨v1, hv1, h⟩ := bind_some h
  obtain ⟨v2, hv2, h⟩ := bind_some h
  replace h := Option.some.inj h; subst h
  exact x_end 15 [(9, .val (.lit (.int .u8 v1))), (1, .call [] [] (.agg [bl v2.inn, i64 v2.pl.A, i64 v2.pl.B, i64 v2.pl.C, i64 v2.pl.D, .sl true 6 v2.kids.length ((eSol true).f v2.kids)]) [])] [] (ocons (strIx hv1) (ocons (Tspec_Leaf (Y := Y) (v1 == 35) _ hv2) onil)) onil (by kernel_rfl)
def Dspec_l19Read_1 (n : Nat) (self : ((ByteArray × Int × Bool) × Int) → Option (Sol × (ByteArray × Int × Bool))) (t1 : Int) (t11 : Int) (t12 : Bool) (_b4_0 : Bool) (_b4_1 : Int) (_b4_2 : Int) (_b4_3 : Int) (_b4_4 : Int) (b1000_0 : ByteArray) (b1000_1 : Int) (b1000_2 : Bool) : Option (Sol × (ByteArray × Int × Bool)) :=
  frk t12 ((sget b1000_0 (w64 ((w64 (b1000_1 + 1)) - 1))).bind fun v3 => (Dspec_Leaf (v3 == 35)).bind fun v4 => some (v4, (b1000_0, w64 (b1000_1 + 1), b1000_2))) (frk (t11 == 40) (frk (decide (t1 < 24)) ((Dspec_l19Node_in n self (b1000_0, b1000_1, b1000_2) t1).bind fun v5 => some v5) (some ((Sol.mk false (Pl.mk 0 0 0 0) []), (b1000_0, b1000_1, true)))) (some ((Sol.mk false (Pl.mk 0 0 0 0) []), (b1000_0, b1000_1, true))))
theorem Tspec_l19Read_1 {Y} (n : Nat) (self : ((ByteArray × Int × Bool) × Int) → Option (Sol × (ByteArray × Int × Bool))) (hself : ∀ (a : ((ByteArray × Int × Bool) × Int)) (r : (Sol × (ByteArray × Int × Bool))), self a = some r → Big Try.prog H Y (.call 87 [.ptr 1000 0, i64 a.2] (lk [(1000, ⟨true, 0, [.lit (.string a.1.1), i64 a.1.2.1, bl a.1.2.2]⟩)]) (.agg [bl r.1.inn, i64 r.1.pl.A, i64 r.1.pl.B, i64 r.1.pl.C, i64 r.1.pl.D, .sl true 6 r.1.kids.length ((eSol true).f r.1.kids)]) (lk [(1000, ⟨true, 0, [.lit (.string r.2.1), i64 r.2.2.1, bl r.2.2.2]⟩)]))) (t1 : Int) (t11 : Int) (t12 : Bool) (b4_0 : Bool) (b4_1 : Int) (b4_2 : Int) (b4_3 : Int) (b4_4 : Int) (b1000_0 : ByteArray) (b1000_1 : Int) (b1000_2 : Bool) (r : (Sol × (ByteArray × Int × Bool))) (h : Dspec_l19Read_1 n self t1 t11 t12 b4_0 b4_1 b4_2 b4_3 b4_4 b1000_0 b1000_1 b1000_2 = some r) : Wk Try.prog H Y 87 [.code (cp [1, 1, 0, 1, 0, 1] (bodyOf Try.f87)), .blk 0, .code (cp [1, 1, 1] (bodyOf Try.f87))] (FinX Try.prog Try.f87 [(1000, ⟨true, 0, [.bad, .bad, .bad]⟩)] (.agg [bl r.1.inn, i64 r.1.pl.A, i64 r.1.pl.B, i64 r.1.pl.C, i64 r.1.pl.D, .sl true 6 r.1.kids.length ((eSol true).f r.1.kids)]) [(1000, ⟨true, 0, [.lit (.string r.2.1), i64 r.2.2.1, bl r.2.2.2]⟩)]) ⟨[(0, .ptr 1000 0), (1, i64 t1), (4, .ptr 4 0), (11, .lit (.int .u8 t11)), (12, bl t12)], [(4, ⟨true, 0, [bl b4_0, i64 b4_1, i64 b4_2, i64 b4_3, i64 b4_4, .nil]⟩), (1000, ⟨true, 0, [.lit (.string b1000_0), i64 b1000_1, bl b1000_2]⟩)]⟩ := by
  unfold Dspec_l19Read_1 at h
  refine x_frk 0 [] onil h (by kernel_rfl) (fun h => ?_) (fun h => ?_)
  · obtain ⟨v3, hv3, h⟩ := bind_some h
    obtain ⟨v4, hv4, h⟩ := bind_some h
    replace h := Option.some.inj h; subst h
    exact x_end 28 [(18, .val (.lit (.int .u8 v3))), (1, .call [] [] (.agg [bl v4.inn, i64 v4.pl.A, i64 v4.pl.B, i64 v4.pl.C, i64 v4.pl.D, .sl true 6 v4.kids.length ((eSol true).f v4.kids)]) [])] [] (ocons (strIx hv3) (ocons (Tspec_Leaf (Y := Y) (v3 == 35) _ hv4) onil)) onil (by kernel_rfl)
  · refine x_frk 5 [] onil h (by kernel_rfl) (fun h => ?_) (fun h => ?_)
    · refine x_frk 5 [] onil h (by kernel_rfl) (fun h => ?_) (fun h => ?_)
      · obtain ⟨v5, hv5, h⟩ := bind_some h
        replace h := Option.some.inj h; subst h
        exact x_end 7 [(2, .call [] [] (.agg [bl v5.1.inn, i64 v5.1.pl.A, i64 v5.1.pl.B, i64 v5.1.pl.C, i64 v5.1.pl.D, .sl true 6 v5.1.kids.length ((eSol true).f v5.1.kids)]) [(1000, ⟨true, 0, [.lit (.string v5.2.1), i64 v5.2.2.1, bl v5.2.2.2]⟩)])] [] (ocons (Tspec_l19Node_in (Y := Y) n self hself (b1000_0, b1000_1, b1000_2) t1 _ hv5) onil) onil (by kernel_rfl)
      · replace h := Option.some.inj h; subst h
        exact x_end 14 [] [(true, 6)] onil onil (by kernel_rfl)
    · replace h := Option.some.inj h; subst h
      exact x_end 14 [] [(true, 6)] onil onil (by kernel_rfl)
def Dspec_l19Read_b (n : Nat) (self : ((ByteArray × Int × Bool) × Int) → Option (Sol × (ByteArray × Int × Bool))) (a : ((ByteArray × Int × Bool) × Int)) : Option (Sol × (ByteArray × Int × Bool)) :=
  match a with
  | (a0, a1) => frk a0.2.2 (some ((Sol.mk false (Pl.mk 0 0 0 0) []), a0)) ((Dspec_l19Peek a0).bind fun v0 => frk (v0.1 == 35) (Dspec_l19Read_0 n self false 0 0 0 0 v0.2.1 (w64 (v0.2.2.1 + 1)) v0.2.2.2) (Dspec_l19Read_1 n self a1 v0.1 (v0.1 == 46) false 0 0 0 0 v0.2.1 v0.2.2.1 v0.2.2.2))
def Dspec_l19Read (n : Nat) (a0 : (ByteArray × Int × Bool)) (a1 : Int) : Option (Sol × (ByteArray × Int × Bool)) := loopN (Dspec_l19Read_b n) n (a0, a1)
theorem Tspec_l19Read_b {Y} (n : Nat) : ∀ (m : Nat) (a : ((ByteArray × Int × Bool) × Int)) (r : (Sol × (ByteArray × Int × Bool))), loopN (Dspec_l19Read_b n) m a = some r → ∀ (_ : Unit), Big Try.prog H Y (.call 87 [.ptr 1000 0, i64 a.2] (lk [(1000, ⟨true, 0, [.lit (.string a.1.1), i64 a.1.2.1, bl a.1.2.2]⟩)]) (.agg [bl r.1.inn, i64 r.1.pl.A, i64 r.1.pl.B, i64 r.1.pl.C, i64 r.1.pl.D, .sl true 6 r.1.kids.length ((eSol true).f r.1.kids)]) (lk [(1000, ⟨true, 0, [.lit (.string r.2.1), i64 r.2.2.1, bl r.2.2.2]⟩)])) := by
  refine loopN_ind (fun self hs a r h => ?_)
  have hself : ∀ (a : ((ByteArray × Int × Bool) × Int)) (r : (Sol × (ByteArray × Int × Bool))), self a = some r → Big Try.prog H Y (.call 87 [.ptr 1000 0, i64 a.2] (lk [(1000, ⟨true, 0, [.lit (.string a.1.1), i64 a.1.2.1, bl a.1.2.2]⟩)]) (.agg [bl r.1.inn, i64 r.1.pl.A, i64 r.1.pl.B, i64 r.1.pl.C, i64 r.1.pl.D, .sl true 6 r.1.kids.length ((eSol true).f r.1.kids)]) (lk [(1000, ⟨true, 0, [.lit (.string r.2.1), i64 r.2.2.1, bl r.2.2.2]⟩)])) := fun a r h => hs a r h ()
  intro _
  obtain ⟨a0, a1⟩ := a
  unfold Dspec_l19Read_b at h
  refine x_call (fn := Try.f87) (c := bodyOf Try.f87) (bs0 := [(1000, ⟨true, 0, [.bad, .bad, .bad]⟩)]) Try.func87 (by kernel_rfl) (by kernel_rfl) ?_
  refine x_frk 12 [] onil h (by kernel_rfl) (fun h => ?_) (fun h => ?_)
  · replace h := Option.some.inj h; subst h
    exact x_end 5 [] [(true, 6)] onil onil (by kernel_rfl)
  · obtain ⟨v0, hv0, h⟩ := bind_some h
    refine x_frk 14 [(1, .call [] [] (.lit (.int .u8 v0.1)) [(1000, ⟨true, 0, [.lit (.string v0.2.1), i64 v0.2.2.1, bl v0.2.2.2]⟩)])] (ocons (Tspec_l19Peek (Y := Y) a0 _ hv0) onil) h (by kernel_rfl) (fun h => ?_) (fun h => ?_)
    · exact x_to 15 [] onil (Tspec_l19Read_0 n self hself false 0 0 0 0 v0.2.1 (w64 (v0.2.2.1 + 1)) v0.2.2.2 r h) (by kernel_rfl)
    · exact x_to 4 [] onil (Tspec_l19Read_1 n self hself a1 v0.1 (v0.1 == 46) false 0 0 0 0 v0.2.1 v0.2.2.1 v0.2.2.2 r h) (by kernel_rfl)
theorem Tspec_l19Read {Y} (n : Nat) (a0 : (ByteArray × Int × Bool)) (a1 : Int) (r : (Sol × (ByteArray × Int × Bool))) (h : Dspec_l19Read n a0 a1 = some r) : Big Try.prog H Y (.call 87 [.ptr 1000 0, i64 a1] (lk [(1000, ⟨true, 0, [.lit (.string a0.1), i64 a0.2.1, bl a0.2.2]⟩)]) (.agg [bl r.1.inn, i64 r.1.pl.A, i64 r.1.pl.B, i64 r.1.pl.C, i64 r.1.pl.D, .sl true 6 r.1.kids.length ((eSol true).f r.1.kids)]) (lk [(1000, ⟨true, 0, [.lit (.string r.2.1), i64 r.2.2.1, bl r.2.2.2]⟩)])) := Tspec_l19Read_b n n (a0, a1) r h ()
/-! spec.ParseSolid -/
def Dspec_ParseSolid_0 (n : Nat) (t23 : Bool) (_b2_0 : Bool) (_b2_1 : Int) (_b2_2 : Int) (_b2_3 : Int) (_b2_4 : Int) (b5_0 : Bool) (b5_1 : Int) (b5_2 : Int) (b5_3 : Int) (b5_4 : Int) (b5_5 : List Sol) (_b8_0 : ByteArray) (b8_1 : Int) (_b8_2 : Bool) : Option (Sol × Int) :=
  frk t23 (some ((Sol.mk false (Pl.mk 0 0 0 0) []), b8_1)) ((Dspec_SolidOk n (Sol.mk b5_0 (Pl.mk b5_1 b5_2 b5_3 b5_4) b5_5)).bind fun v1 => frk (!v1) (some ((Sol.mk false (Pl.mk 0 0 0 0) []), 0)) (some ((Sol.mk b5_0 (Pl.mk b5_1 b5_2 b5_3 b5_4) b5_5), (-1))))
theorem Tspec_ParseSolid_0 {Y} (n : Nat) (t23 : Bool) (b2_0 : Bool) (b2_1 : Int) (b2_2 : Int) (b2_3 : Int) (b2_4 : Int) (b5_0 : Bool) (b5_1 : Int) (b5_2 : Int) (b5_3 : Int) (b5_4 : Int) (b5_5 : List Sol) (b8_0 : ByteArray) (b8_1 : Int) (b8_2 : Bool) (r : (Sol × Int)) (h : Dspec_ParseSolid_0 n t23 b2_0 b2_1 b2_2 b2_3 b2_4 b5_0 b5_1 b5_2 b5_3 b5_4 b5_5 b8_0 b8_1 b8_2 = some r) : Wk Try.prog H Y 29 [.code (cp [1, 1, 1, 0, 1] (bodyOf Try.f29)), .code (cp [1, 1, 1, 1] (bodyOf Try.f29))] (FinX Try.prog Try.f29 [] (.tup [.agg [bl r.1.inn, i64 r.1.pl.A, i64 r.1.pl.B, i64 r.1.pl.C, i64 r.1.pl.D, .sl true 6 r.1.kids.length ((eSol true).f r.1.kids)], i64 r.2]) []) ⟨[(2, .ptr 2 0), (4, .ptr 8 0), (5, .ptr 5 0), (23, bl t23)], [(2, ⟨true, 0, [bl b2_0, i64 b2_1, i64 b2_2, i64 b2_3, i64 b2_4, .nil]⟩), (5, ⟨true, 0, [bl b5_0, i64 b5_1, i64 b5_2, i64 b5_3, i64 b5_4, .sl true 6 b5_5.length ((eSol true).f b5_5)]⟩), (8, ⟨true, 0, [.lit (.string b8_0), i64 b8_1, bl b8_2]⟩)]⟩ := by
  unfold Dspec_ParseSolid_0 at h
  refine x_frk 0 [] onil h (by kernel_rfl) (fun h => ?_) (fun h => ?_)
  · replace h := Option.some.inj h; subst h
    exact x_end 10 [] [(true, 6)] onil onil (by kernel_rfl)
  · obtain ⟨v1, hv1, h⟩ := bind_some h
    refine x_frk 8 [(0, .rows [(eSol false).f b5_5]), (0, .call [] [] (bl v1) [])] (ocons (Enc.share (eSol true) (eSol false) (sSol true) b5_5) (ocons (Tspec_SolidOk (Y := Y) n (Sol.mk b5_0 (Pl.mk b5_1 b5_2 b5_3 b5_4) b5_5) _ hv1) onil)) h (by kernel_rfl) (fun h => ?_) (fun h => ?_)
    · replace h := Option.some.inj h; subst h
      exact x_end 6 [] [(true, 6)] onil onil (by kernel_rfl)
    · replace h := Option.some.inj h; subst h
      exact x_end 7 [] [] onil onil (by kernel_rfl)
def Dspec_ParseSolid (n : Nat) (a0 : ByteArray) : Option (Sol × Int) :=
  (Dspec_l19Read n (a0, 0, false) 0).bind fun v0 => frk v0.2.2.2 (some ((Sol.mk false (Pl.mk 0 0 0 0) []), v0.2.2.1)) (Dspec_ParseSolid_0 n (decide (v0.2.2.1 < (a0.size : Int))) false 0 0 0 0 v0.1.inn v0.1.pl.A v0.1.pl.B v0.1.pl.C v0.1.pl.D v0.1.kids v0.2.1 v0.2.2.1 v0.2.2.2)
theorem Tspec_ParseSolid {Y} (n : Nat) (a0 : ByteArray) (r : (Sol × Int)) (h : Dspec_ParseSolid n a0 = some r) : Big Try.prog H Y (.call 29 [.lit (.string a0)] (lk []) (.tup [.agg [bl r.1.inn, i64 r.1.pl.A, i64 r.1.pl.B, i64 r.1.pl.C, i64 r.1.pl.D, .sl true 6 r.1.kids.length ((eSol true).f r.1.kids)], i64 r.2]) (lk [])) := by
  unfold Dspec_ParseSolid at h
  refine x_call (fn := Try.f29) (c := bodyOf Try.f29) (bs0 := []) Try.func29 (by kernel_rfl) (by kernel_rfl) ?_
  obtain ⟨v0, hv0, h⟩ := bind_some h
  refine x_frk 27 [(7, .call [] [] (.agg [bl v0.1.inn, i64 v0.1.pl.A, i64 v0.1.pl.B, i64 v0.1.pl.C, i64 v0.1.pl.D, .sl true 6 v0.1.kids.length ((eSol true).f v0.1.kids)]) [(1000, ⟨true, 0, [.lit (.string v0.2.1), i64 v0.2.2.1, bl v0.2.2.2]⟩)])] (ocons (Tspec_l19Read (Y := Y) n (a0, 0, false) 0 _ hv0) onil) h (by kernel_rfl) (fun h => ?_) (fun h => ?_)
  · replace h := Option.some.inj h; subst h
    exact x_end 20 [] [(true, 6)] onil onil (by kernel_rfl)
  · exact x_to 9 [] onil (Tspec_ParseSolid_0 n (decide (v0.2.2.1 < (a0.size : Int))) false 0 0 0 0 v0.1.inn v0.1.pl.A v0.1.pl.B v0.1.pl.C v0.1.pl.D v0.1.kids v0.2.1 v0.2.2.1 v0.2.2.2 r h) (by kernel_rfl)
/-! impl.reader).peek -/
def Dimpl_reader_peek_0 (t18 : Bool) (b1000_0 : ByteArray) (b1000_1 : Int) (b1000_2 : Bool) : Option (Int × (ByteArray × Int × Bool)) :=
  frk t18 (some (0, (b1000_0, b1000_1, b1000_2))) ((sget b1000_0 b1000_1).bind fun v0 => some (v0, (b1000_0, b1000_1, b1000_2)))
theorem Timpl_reader_peek_0 {Y} (t18 : Bool) (b1000_0 : ByteArray) (b1000_1 : Int) (b1000_2 : Bool) (r : (Int × (ByteArray × Int × Bool))) (h : Dimpl_reader_peek_0 t18 b1000_0 b1000_1 b1000_2 = some r) : Wk Try.prog H Y 147 [.code (cp [1, 0, 1] (bodyOf Try.f147)), .code (cp [1, 1] (bodyOf Try.f147))] (FinX Try.prog Try.f147 [(1000, ⟨true, 0, [.bad, .bad, .bad]⟩)] (.lit (.int .u8 r.1)) [(1000, ⟨true, 0, [.lit (.string r.2.1), i64 r.2.2.1, bl r.2.2.2]⟩)]) ⟨[(0, .ptr 1000 0), (18, bl t18)], [(1000, ⟨true, 0, [.lit (.string b1000_0), i64 b1000_1, bl b1000_2]⟩)]⟩ := by
  unfold Dimpl_reader_peek_0 at h
  refine x_frk 0 [] onil h (by kernel_rfl) (fun h => ?_) (fun h => ?_)
  · replace h := Option.some.inj h; subst h
    exact x_end 4 [] [] onil onil (by kernel_rfl)
  · obtain ⟨v0, hv0, h⟩ := bind_some h
    replace h := Option.some.inj h; subst h
    exact x_end 14 [(8, .val (.lit (.int .u8 v0)))] [] (ocons (strIx hv0) onil) onil (by kernel_rfl)
def Dimpl_reader_peek (a0 : (ByteArray × Int × Bool)) : Option (Int × (ByteArray × Int × Bool)) :=
  frk a0.2.2 (some (0, a0)) (Dimpl_reader_peek_0 (decide (a0.2.1 ≥ (a0.1.size : Int))) a0.1 a0.2.1 a0.2.2)
theorem Timpl_reader_peek {Y} (a0 : (ByteArray × Int × Bool)) (r : (Int × (ByteArray × Int × Bool))) (h : Dimpl_reader_peek a0 = some r) : Big Try.prog H Y (.call 147 [.ptr 1000 0] (lk [(1000, ⟨true, 0, [.lit (.string a0.1), i64 a0.2.1, bl a0.2.2]⟩)]) (.lit (.int .u8 r.1)) (lk [(1000, ⟨true, 0, [.lit (.string r.2.1), i64 r.2.2.1, bl r.2.2.2]⟩)])) := by
  unfold Dimpl_reader_peek at h
  refine x_call (fn := Try.f147) (c := bodyOf Try.f147) (bs0 := [(1000, ⟨true, 0, [.bad, .bad, .bad]⟩)]) Try.func147 (by kernel_rfl) (by kernel_rfl) ?_
  refine x_frk 12 [] onil h (by kernel_rfl) (fun h => ?_) (fun h => ?_)
  · replace h := Option.some.inj h; subst h
    exact x_end 17 [] [] onil onil (by kernel_rfl)
  · exact x_to 12 [] onil (Timpl_reader_peek_0 (decide (a0.2.1 ≥ (a0.1.size : Int))) a0.1 a0.2.1 a0.2.2 r h) (by kernel_rfl)
/-! impl.Leaf -/
def Dimpl_Leaf (a0 : Bool) : Option Sol :=
  some (Sol.mk a0 (Pl.mk 0 0 0 0) [])
theorem Timpl_Leaf {Y} (a0 : Bool) (r : Sol) (h : Dimpl_Leaf a0 = some r) : Big Try.prog H Y (.call 98 [bl a0] (lk []) (.agg [bl r.inn, i64 r.pl.A, i64 r.pl.B, i64 r.pl.C, i64 r.pl.D, .sl true 6 r.kids.length ((eSol true).f r.kids)]) (lk [])) := by
  unfold Dimpl_Leaf at h
  refine x_call (fn := Try.f98) (c := bodyOf Try.f98) (bs0 := []) Try.func98 (by kernel_rfl) (by kernel_rfl) ?_
  replace h := Option.some.inj h; subst h
  exact x_end 10 [] [(true, 6)] onil onil (by kernel_rfl)
/-! impl.isFigure -/
def Dimpl_isFigure (a0 : Int) : Option Bool :=
  frk (decide (a0 ≥ 48)) (some (decide (a0 ≤ 57))) (some false)
theorem Timpl_isFigure {Y} (a0 : Int) (r : Bool) (h : Dimpl_isFigure a0 = some r) : Big Try.prog H Y (.call 187 [.lit (.int .u8 a0)] (lk []) (bl r) (lk [])) := by
  unfold Dimpl_isFigure at h
  refine x_call (fn := Try.f187) (c := bodyOf Try.f187) (bs0 := []) Try.func187 (by kernel_rfl) (by kernel_rfl) ?_
  refine x_frk 9 [] onil h (by kernel_rfl) (fun h => ?_) (fun h => ?_)
  · replace h := Option.some.inj h; subst h
    exact x_end 5 [] [] onil onil (by kernel_rfl)
  · replace h := Option.some.inj h; subst h
    exact x_end 5 [] [] onil onil (by kernel_rfl)
/-! impl.reader).number -/
def Dimpl_reader_number_3 (_n : Nat) (t4 : Int) (t63 : Bool) (b1000_0 : ByteArray) (b1000_1 : Int) (b1000_2 : Bool) : Option (Int × (ByteArray × Int × Bool)) :=
  frk t63 (some (w64 (0 - t4), (b1000_0, b1000_1, b1000_2))) (some (t4, (b1000_0, b1000_1, b1000_2)))
theorem Timpl_reader_number_3 {Y} (n : Nat) (t4 : Int) (t63 : Bool) (b1000_0 : ByteArray) (b1000_1 : Int) (b1000_2 : Bool) (r : (Int × (ByteArray × Int × Bool))) (h : Dimpl_reader_number_3 n t4 t63 b1000_0 b1000_1 b1000_2 = some r) : Wk Try.prog H Y 148 [.code (cp [1, 1, 1, 1, 1, 1, 0, 1] (bodyOf Try.f148)), .code (cp [1, 1, 1, 1, 1, 1, 1] (bodyOf Try.f148))] (FinX Try.prog Try.f148 [(1000, ⟨true, 0, [.bad, .bad, .bad]⟩)] (i64 r.1) [(1000, ⟨true, 0, [.lit (.string r.2.1), i64 r.2.2.1, bl r.2.2.2]⟩)]) ⟨[(4, i64 t4), (63, bl t63)], [(1000, ⟨true, 0, [.lit (.string b1000_0), i64 b1000_1, bl b1000_2]⟩)]⟩ := by
  unfold Dimpl_reader_number_3 at h
  refine x_frk 0 [] onil h (by kernel_rfl) (fun h => ?_) (fun h => ?_)
  · replace h := Option.some.inj h; subst h
    exact x_end 6 [] [] onil onil (by kernel_rfl)
  · replace h := Option.some.inj h; subst h
    exact x_end 6 [] [] onil onil (by kernel_rfl)
def Dimpl_reader_number_2 (n : Nat) (t3 : Bool) (t4 : Int) (t59 : Bool) (b1000_0 : ByteArray) (b1000_1 : Int) (b1000_2 : Bool) : Option (Int × (ByteArray × Int × Bool)) :=
  frk t59 (Dimpl_reader_number_3 n t4 t3 b1000_0 b1000_1 true) (Dimpl_reader_number_3 n t4 t3 b1000_0 b1000_1 b1000_2)
theorem Timpl_reader_number_2 {Y} (n : Nat) (t3 : Bool) (t4 : Int) (t59 : Bool) (b1000_0 : ByteArray) (b1000_1 : Int) (b1000_2 : Bool) (r : (Int × (ByteArray × Int × Bool))) (h : Dimpl_reader_number_2 n t3 t4 t59 b1000_0 b1000_1 b1000_2 = some r) : Wk Try.prog H Y 148 [.code (cp [1, 1, 1, 1, 1, 0, 1] (bodyOf Try.f148)), .code (cp [1, 1, 1, 1, 1, 1] (bodyOf Try.f148))] (FinX Try.prog Try.f148 [(1000, ⟨true, 0, [.bad, .bad, .bad]⟩)] (i64 r.1) [(1000, ⟨true, 0, [.lit (.string r.2.1), i64 r.2.2.1, bl r.2.2.2]⟩)]) ⟨[(0, .ptr 1000 0), (3, bl t3), (4, i64 t4), (59, bl t59)], [(1000, ⟨true, 0, [.lit (.string b1000_0), i64 b1000_1, bl b1000_2]⟩)]⟩ := by
  unfold Dimpl_reader_number_2 at h
  refine x_frk 0 [] onil h (by kernel_rfl) (fun h => ?_) (fun h => ?_)
  · exact x_to 11 [] onil (Timpl_reader_number_3 n t4 t3 b1000_0 b1000_1 true r h) (by kernel_rfl)
  · exact x_to 6 [] onil (Timpl_reader_number_3 n t4 t3 b1000_0 b1000_1 b1000_2 r h) (by kernel_rfl)
def Dimpl_reader_number_4 (n : Nat) (rec0 : (Int × Int × ByteArray × Int × Bool) → Option (Int × (ByteArray × Int × Bool))) (t3 : Bool) (t4 : Int) (t5 : Int) (t41 : Bool) (b1000_0 : ByteArray) (b1000_1 : Int) (b1000_2 : Bool) : Option (Int × (ByteArray × Int × Bool)) :=
  frk t41 (Dimpl_reader_number_2 n t3 t4 (t5 == 0) b1000_0 b1000_1 b1000_2) ((Dimpl_reader_peek (b1000_0, b1000_1, b1000_2)).bind fun v4 => rec0 (w64 ((w64 (t4 * 10)) + (w64 (IntKind.u8.wrap (v4.1 - 48)))), w64 (t5 + 1), v4.2.1, w64 (v4.2.2.1 + 1), v4.2.2.2))
theorem Timpl_reader_number_4 {Y} (n : Nat) (rec0 : (Int × Int × ByteArray × Int × Bool) → Option (Int × (ByteArray × Int × Bool))) (t3 : Bool) (hrec0 : ∀ (a : (Int × Int × ByteArray × Int × Bool)) (r : (Int × (ByteArray × Int × Bool))), rec0 a = some r → Wk Try.prog H Y 148 [.code (cp [1, 1, 1, 1, 0, 0] (bodyOf Try.f148)), .blk 0, .code (cp [1, 1, 1, 1, 1] (bodyOf Try.f148))] (FinX Try.prog Try.f148 [(1000, ⟨true, 0, [.bad, .bad, .bad]⟩)] (i64 r.1) [(1000, ⟨true, 0, [.lit (.string r.2.1), i64 r.2.2.1, bl r.2.2.2]⟩)]) ⟨[(0, .ptr 1000 0), (3, bl t3), (4, i64 a.1), (5, i64 a.2.1)], [(1000, ⟨true, 0, [.lit (.string a.2.2.1), i64 a.2.2.2.1, bl a.2.2.2.2]⟩)]⟩) (t4 : Int) (t5 : Int) (t41 : Bool) (b1000_0 : ByteArray) (b1000_1 : Int) (b1000_2 : Bool) (r : (Int × (ByteArray × Int × Bool))) (h : Dimpl_reader_number_4 n rec0 t3 t4 t5 t41 b1000_0 b1000_1 b1000_2 = some r) : Wk Try.prog H Y 148 [.code (cp [1, 1, 1, 1, 0, 0, 0, 1, 0, 0, 1] (bodyOf Try.f148)), .code (cp [1, 1, 1, 1, 0, 0, 0, 1, 0, 1] (bodyOf Try.f148)), .blk 1, .lp (cp [1, 1, 1, 1, 0, 0] (bodyOf Try.f148)), .blk 0, .code (cp [1, 1, 1, 1, 1] (bodyOf Try.f148))] (FinX Try.prog Try.f148 [(1000, ⟨true, 0, [.bad, .bad, .bad]⟩)] (i64 r.1) [(1000, ⟨true, 0, [.lit (.string r.2.1), i64 r.2.2.1, bl r.2.2.2]⟩)]) ⟨[(0, .ptr 1000 0), (3, bl t3), (4, i64 t4), (5, i64 t5), (41, bl t41)], [(1000, ⟨true, 0, [.lit (.string b1000_0), i64 b1000_1, bl b1000_2]⟩)]⟩ := by
  unfold Dimpl_reader_number_4 at h
  refine x_frk 0 [] onil h (by kernel_rfl) (fun h => ?_) (fun h => ?_)
  · exact x_to 7 [] onil (Timpl_reader_number_2 n t3 t4 (t5 == 0) b1000_0 b1000_1 b1000_2 r h) (by kernel_rfl)
  · obtain ⟨v4, hv4, h⟩ := bind_some h
    exact x_to 30 [(3, .call [] [] (.lit (.int .u8 v4.1)) [(1000, ⟨true, 0, [.lit (.string v4.2.1), i64 v4.2.2.1, bl v4.2.2.2]⟩)])] (ocons (Timpl_reader_peek (Y := Y) (b1000_0, b1000_1, b1000_2) _ hv4) onil) (hrec0 (w64 ((w64 (t4 * 10)) + (w64 (IntKind.u8.wrap (v4.1 - 48)))), w64 (t5 + 1), v4.2.1, w64 (v4.2.2.1 + 1), v4.2.2.2) r h) (by kernel_rfl)
def Dimpl_reader_number_5 (_n : Nat) (rec0 : (Int × Int × ByteArray × Int × Bool) → Option (Int × (ByteArray × Int × Bool))) (_t3 : Bool) (t4 : Int) (t5 : Int) (b1000_0 : ByteArray) (b1000_1 : Int) (b1000_2 : Bool) : Option (Int × (ByteArray × Int × Bool)) :=
  (Dimpl_reader_peek (b1000_0, b1000_1, b1000_2)).bind fun v5 => rec0 (w64 ((w64 (t4 * 10)) + (w64 (IntKind.u8.wrap (v5.1 - 48)))), w64 (t5 + 1), v5.2.1, w64 (v5.2.2.1 + 1), v5.2.2.2)
theorem Timpl_reader_number_5 {Y} (n : Nat) (rec0 : (Int × Int × ByteArray × Int × Bool) → Option (Int × (ByteArray × Int × Bool))) (t3 : Bool) (hrec0 : ∀ (a : (Int × Int × ByteArray × Int × Bool)) (r : (Int × (ByteArray × Int × Bool))), rec0 a = some r → Wk Try.prog H Y 148 [.code (cp [1, 1, 1, 1, 0, 0] (bodyOf Try.f148)), .blk 0, .code (cp [1, 1, 1, 1, 1] (bodyOf Try.f148))] (FinX Try.prog Try.f148 [(1000, ⟨true, 0, [.bad, .bad, .bad]⟩)] (i64 r.1) [(1000, ⟨true, 0, [.lit (.string r.2.1), i64 r.2.2.1, bl r.2.2.2]⟩)]) ⟨[(0, .ptr 1000 0), (3, bl t3), (4, i64 a.1), (5, i64 a.2.1)], [(1000, ⟨true, 0, [.lit (.string a.2.2.1), i64 a.2.2.2.1, bl a.2.2.2.2]⟩)]⟩) (t4 : Int) (t5 : Int) (b1000_0 : ByteArray) (b1000_1 : Int) (b1000_2 : Bool) (r : (Int × (ByteArray × Int × Bool))) (h : Dimpl_reader_number_5 n rec0 t3 t4 t5 b1000_0 b1000_1 b1000_2 = some r) : Wk Try.prog H Y 148 [.code (cp [1, 1, 1, 1, 0, 0, 0, 1, 0, 1, 0] (bodyOf Try.f148)), .code (cp [1, 1, 1, 1, 0, 0, 0, 1, 0, 1, 1] (bodyOf Try.f148)), .blk 1, .lp (cp [1, 1, 1, 1, 0, 0] (bodyOf Try.f148)), .blk 0, .code (cp [1, 1, 1, 1, 1] (bodyOf Try.f148))] (FinX Try.prog Try.f148 [(1000, ⟨true, 0, [.bad, .bad, .bad]⟩)] (i64 r.1) [(1000, ⟨true, 0, [.lit (.string r.2.1), i64 r.2.2.1, bl r.2.2.2]⟩)]) ⟨[(0, .ptr 1000 0), (3, bl t3), (4, i64 t4), (5, i64 t5)], [(1000, ⟨true, 0, [.lit (.string b1000_0), i64 b1000_1, bl b1000_2]⟩)]⟩ := by
  unfold Dimpl_reader_number_5 at h
  obtain ⟨v5, hv5, h⟩ := bind_some h
  exact x_to 28 [(3, .call [] [] (.lit (.int .u8 v5.1)) [(1000, ⟨true, 0, [.lit (.string v5.2.1), i64 v5.2.2.1, bl v5.2.2.2]⟩)])] (ocons (Timpl_reader_peek (Y := Y) (b1000_0, b1000_1, b1000_2) _ hv5) onil) (hrec0 (w64 ((w64 (t4 * 10)) + (w64 (IntKind.u8.wrap (v5.1 - 48)))), w64 (t5 + 1), v5.2.1, w64 (v5.2.2.1 + 1), v5.2.2.2) r h) (by kernel_rfl)
def Dimpl_reader_number_1 (n : Nat) (rec0 : (Int × Int × ByteArray × Int × Bool) → Option (Int × (ByteArray × Int × Bool))) (t3 : Bool) (t4 : Int) (t5 : Int) (t23 : Bool) (b1000_0 : ByteArray) (b1000_1 : Int) (b1000_2 : Bool) : Option (Int × (ByteArray × Int × Bool)) :=
  frk t23 (frk (t5 == 1) (frk (t4 == 0) (Dimpl_reader_number_2 n t3 t4 (t5 == 0) b1000_0 b1000_1 b1000_2) (frk t3 (frk (t5 == 0) ((Dimpl_reader_peek (b1000_0, b1000_1, b1000_2)).bind fun v3 => Dimpl_reader_number_4 n rec0 t3 t4 t5 (v3.1 == 48) v3.2.1 v3.2.2.1 v3.2.2.2) (Dimpl_reader_number_5 n rec0 t3 t4 t5 b1000_0 b1000_1 b1000_2)) (Dimpl_reader_number_5 n rec0 t3 t4 t5 b1000_0 b1000_1 b1000_2))) (frk t3 (frk (t5 == 0) ((Dimpl_reader_peek (b1000_0, b1000_1, b1000_2)).bind fun v6 => Dimpl_reader_number_4 n rec0 t3 t4 t5 (v6.1 == 48) v6.2.1 v6.2.2.1 v6.2.2.2) (Dimpl_reader_number_5 n rec0 t3 t4 t5 b1000_0 b1000_1 b1000_2)) (Dimpl_reader_number_5 n rec0 t3 t4 t5 b1000_0 b1000_1 b1000_2))) (Dimpl_reader_number_2 n t3 t4 (t5 == 0) b1000_0 b1000_1 b1000_2)
theorem Timpl_reader_number_1 {Y} (n : Nat) (rec0 : (Int × Int × ByteArray × Int × Bool) → Option (Int × (ByteArray × Int × Bool))) (t3 : Bool) (hrec0 : ∀ (a : (Int × Int × ByteArray × Int × Bool)) (r : (Int × (ByteArray × Int × Bool))), rec0 a = some r → Wk Try.prog H Y 148 [.code (cp [1, 1, 1, 1, 0, 0] (bodyOf Try.f148)), .blk 0, .code (cp [1, 1, 1, 1, 1] (bodyOf Try.f148))] (FinX Try.prog Try.f148 [(1000, ⟨true, 0, [.bad, .bad, .bad]⟩)] (i64 r.1) [(1000, ⟨true, 0, [.lit (.string r.2.1), i64 r.2.2.1, bl r.2.2.2]⟩)]) ⟨[(0, .ptr 1000 0), (3, bl t3), (4, i64 a.1), (5, i64 a.2.1)], [(1000, ⟨true, 0, [.lit (.string a.2.2.1), i64 a.2.2.2.1, bl a.2.2.2.2]⟩)]⟩) (t4 : Int) (t5 : Int) (t23 : Bool) (b1000_0 : ByteArray) (b1000_1 : Int) (b1000_2 : Bool) (r : (Int × (ByteArray × Int × Bool))) (h : Dimpl_reader_number_1 n rec0 t3 t4 t5 t23 b1000_0 b1000_1 b1000_2 = some r) : Wk Try.prog H Y 148 [.code (cp [1, 1, 1, 1, 0, 0, 0, 0, 1] (bodyOf Try.f148)), .code (cp [1, 1, 1, 1, 0, 0, 0, 1] (bodyOf Try.f148)), .lp (cp [1, 1, 1, 1, 0, 0] (bodyOf Try.f148)), .blk 0, .code (cp [1, 1, 1, 1, 1] (bodyOf Try.f148))] (FinX Try.prog Try.f148 [(1000, ⟨true, 0, [.bad, .bad, .bad]⟩)] (i64 r.1) [(1000, ⟨true, 0, [.lit (.string r.2.1), i64 r.2.2.1, bl r.2.2.2]⟩)]) ⟨[(0, .ptr 1000 0), (3, bl t3), (4, i64 t4), (5, i64 t5), (23, bl t23)], [(1000, ⟨true, 0, [.lit (.string b1000_0), i64 b1000_1, bl b1000_2]⟩)]⟩ := by
  unfold Dimpl_reader_number_1 at h
  refine x_frk 0 [] onil h (by kernel_rfl) (fun h => ?_) (fun h => ?_)
  · refine x_frk 8 [] onil h (by kernel_rfl) (fun h => ?_) (fun h => ?_)
    · refine x_frk 4 [] onil h (by kernel_rfl) (fun h => ?_) (fun h => ?_)
      · exact x_to 20 [] onil (Timpl_reader_number_2 n t3 t4 (t5 == 0) b1000_0 b1000_1 b1000_2 r h) (by kernel_rfl)
      · refine x_frk 2 [] onil h (by kernel_rfl) (fun h => ?_) (fun h => ?_)
        · refine x_frk 4 [] onil h (by kernel_rfl) (fun h => ?_) (fun h => ?_)
          · obtain ⟨v3, hv3, h⟩ := bind_some h
            exact x_to 6 [(1, .call [] [] (.lit (.int .u8 v3.1)) [(1000, ⟨true, 0, [.lit (.string v3.2.1), i64 v3.2.2.1, bl v3.2.2.2]⟩)])] (ocons (Timpl_reader_peek (Y := Y) (b1000_0, b1000_1, b1000_2) _ hv3) onil) (Timpl_reader_number_4 n rec0 t3 hrec0 t4 t5 (v3.1 == 48) v3.2.1 v3.2.2.1 v3.2.2.2 r h) (by kernel_rfl)
          · exact x_to 9 [] onil (Timpl_reader_number_5 n rec0 t3 hrec0 t4 t5 b1000_0 b1000_1 b1000_2 r h) (by kernel_rfl)
        · exact x_to 13 [] onil (Timpl_reader_number_5 n rec0 t3 hrec0 t4 t5 b1000_0 b1000_1 b1000_2 r h) (by kernel_rfl)
    · refine x_frk 6 [] onil h (by kernel_rfl) (fun h => ?_) (fun h => ?_)
      · refine x_frk 4 [] onil h (by kernel_rfl) (fun h => ?_) (fun h => ?_)
        · obtain ⟨v6, hv6, h⟩ := bind_some h
          exact x_to 6 [(1, .call [] [] (.lit (.int .u8 v6.1)) [(1000, ⟨true, 0, [.lit (.string v6.2.1), i64 v6.2.2.1, bl v6.2.2.2]⟩)])] (ocons (Timpl_reader_peek (Y := Y) (b1000_0, b1000_1, b1000_2) _ hv6) onil) (Timpl_reader_number_4 n rec0 t3 hrec0 t4 t5 (v6.1 == 48) v6.2.1 v6.2.2.1 v6.2.2.2 r h) (by kernel_rfl)
        · exact x_to 9 [] onil (Timpl_reader_number_5 n rec0 t3 hrec0 t4 t5 b1000_0 b1000_1 b1000_2 r h) (by kernel_rfl)
      · exact x_to 13 [] onil (Timpl_reader_number_5 n rec0 t3 hrec0 t4 t5 b1000_0 b1000_1 b1000_2 r h) (by kernel_rfl)
  · exact x_to 7 [] onil (Timpl_reader_number_2 n t3 t4 (t5 == 0) b1000_0 b1000_1 b1000_2 r h) (by kernel_rfl)
def Dimpl_reader_number_6 (n : Nat) (t3 : Bool) (rec0 : (Int × Int × ByteArray × Int × Bool) → Option (Int × (ByteArray × Int × Bool))) (a : (Int × Int × ByteArray × Int × Bool)) : Option (Int × (ByteArray × Int × Bool)) :=
  match a with
  | (t4, t5, b1000_0, b1000_1, b1000_2) => (Dimpl_reader_peek (b1000_0, b1000_1, b1000_2)).bind fun v1 => (Dimpl_isFigure v1.1).bind fun v2 => frk v2 (Dimpl_reader_number_1 n rec0 t3 t4 t5 (decide (t5 < 3)) v1.2.1 v1.2.2.1 v1.2.2.2) (Dimpl_reader_number_2 n t3 t4 (t5 == 0) v1.2.1 v1.2.2.1 v1.2.2.2)
theorem Timpl_reader_number_6 {Y} (n : Nat) (t3 : Bool) : ∀ (m : Nat) (a : (Int × Int × ByteArray × Int × Bool)) (r : (Int × (ByteArray × Int × Bool))), loopN (Dimpl_reader_number_6 n t3) m a = some r → Wk Try.prog H Y 148 [.code (cp [1, 1, 1, 1, 0, 0] (bodyOf Try.f148)), .blk 0, .code (cp [1, 1, 1, 1, 1] (bodyOf Try.f148))] (FinX Try.prog Try.f148 [(1000, ⟨true, 0, [.bad, .bad, .bad]⟩)] (i64 r.1) [(1000, ⟨true, 0, [.lit (.string r.2.1), i64 r.2.2.1, bl r.2.2.2]⟩)]) ⟨[(0, .ptr 1000 0), (3, bl t3), (4, i64 a.1), (5, i64 a.2.1)], [(1000, ⟨true, 0, [.lit (.string a.2.2.1), i64 a.2.2.2.1, bl a.2.2.2.2]⟩)]⟩ := by
  refine loopN_ind (fun rec0 hrec0 a r h => ?_)
  obtain ⟨t4, t5, b1000_0, b1000_1, b1000_2⟩ := a
  unfold Dimpl_reader_number_6 at h
  obtain ⟨v1, hv1, h⟩ := bind_some h
  obtain ⟨v2, hv2, h⟩ := bind_some h
  refine x_frk 8 [(1, .call [] [] (.lit (.int .u8 v1.1)) [(1000, ⟨true, 0, [.lit (.string v1.2.1), i64 v1.2.2.1, bl v1.2.2.2]⟩)]), (0, .call [] [] (bl v2) [])] (ocons (Timpl_reader_peek (Y := Y) (b1000_0, b1000_1, b1000_2) _ hv1) (ocons (Timpl_isFigure (Y := Y) v1.1 _ hv2) onil)) h (by kernel_rfl) (fun h => ?_) (fun h => ?_)
  · exact x_to 4 [] onil (Timpl_reader_number_1 n rec0 t3 hrec0 t4 t5 (decide (t5 < 3)) v1.2.1 v1.2.2.1 v1.2.2.2 r h) (by kernel_rfl)
  · exact x_to 12 [] onil (Timpl_reader_number_2 n t3 t4 (t5 == 0) v1.2.1 v1.2.2.1 v1.2.2.2 r h) (by kernel_rfl)
def Dimpl_reader_number_0 (n : Nat) (t3 : Bool) (t4 : Int) (t5 : Int) (b1000_0 : ByteArray) (b1000_1 : Int) (b1000_2 : Bool) : Option (Int × (ByteArray × Int × Bool)) :=
  loopN (Dimpl_reader_number_6 n t3) n (t4, t5, b1000_0, b1000_1, b1000_2)
theorem Timpl_reader_number_0 {Y} (n : Nat) (t3 : Bool) (t4 : Int) (t5 : Int) (b1000_0 : ByteArray) (b1000_1 : Int) (b1000_2 : Bool) (r : (Int × (ByteArray × Int × Bool))) (h : Dimpl_reader_number_0 n t3 t4 t5 b1000_0 b1000_1 b1000_2 = some r) : Wk Try.prog H Y 148 [.code (cp [1, 1, 1, 1, 0, 0] (bodyOf Try.f148)), .blk 0, .code (cp [1, 1, 1, 1, 1] (bodyOf Try.f148))] (FinX Try.prog Try.f148 [(1000, ⟨true, 0, [.bad, .bad, .bad]⟩)] (i64 r.1) [(1000, ⟨true, 0, [.lit (.string r.2.1), i64 r.2.2.1, bl r.2.2.2]⟩)]) ⟨[(0, .ptr 1000 0), (3, bl t3), (4, i64 t4), (5, i64 t5)], [(1000, ⟨true, 0, [.lit (.string b1000_0), i64 b1000_1, bl b1000_2]⟩)]⟩ := by
  unfold Dimpl_reader_number_0 at h
  exact x_to 0 [] onil (Timpl_reader_number_6 n t3 n (t4, t5, b1000_0, b1000_1, b1000_2) r h) (by kernel_rfl)
def Dimpl_reader_number (n : Nat) (a0 : (ByteArray × Int × Bool)) : Option (Int × (ByteArray × Int × Bool)) :=
  (Dimpl_reader_peek a0).bind fun v0 => frk (v0.1 == 45) (Dimpl_reader_number_0 n (v0.1 == 45) 0 0 v0.2.1 (w64 (v0.2.2.1 + 1)) v0.2.2.2) (Dimpl_reader_number_0 n (v0.1 == 45) 0 0 v0.2.1 v0.2.2.1 v0.2.2.2)
theorem Timpl_reader_number {Y} (n : Nat) (a0 : (ByteArray × Int × Bool)) (r : (Int × (ByteArray × Int × Bool))) (h : Dimpl_reader_number n a0 = some r) : Big Try.prog H Y (.call 148 [.ptr 1000 0] (lk [(1000, ⟨true, 0, [.lit (.string a0.1), i64 a0.2.1, bl a0.2.2]⟩)]) (i64 r.1) (lk [(1000, ⟨true, 0, [.lit (.string r.2.1), i64 r.2.2.1, bl r.2.2.2]⟩)])) := by
  unfold Dimpl_reader_number at h
  refine x_call (fn := Try.f148) (c := bodyOf Try.f148) (bs0 := [(1000, ⟨true, 0, [.bad, .bad, .bad]⟩)]) Try.func148 (by kernel_rfl) (by kernel_rfl) ?_
  obtain ⟨v0, hv0, h⟩ := bind_some h
  refine x_frk 16 [(2, .call [] [] (.lit (.int .u8 v0.1)) [(1000, ⟨true, 0, [.lit (.string v0.2.1), i64 v0.2.2.1, bl v0.2.2.2]⟩)])] (ocons (Timpl_reader_peek (Y := Y) a0 _ hv0) onil) h (by kernel_rfl) (fun h => ?_) (fun h => ?_)
  · exact x_to 17 [] onil (Timpl_reader_number_0 n (v0.1 == 45) 0 0 v0.2.1 (w64 (v0.2.2.1 + 1)) v0.2.2.2 r h) (by kernel_rfl)
  · exact x_to 8 [] onil (Timpl_reader_number_0 n (v0.1 == 45) 0 0 v0.2.1 v0.2.2.1 v0.2.2.2 r h) (by kernel_rfl)
/-! impl.reader).take -/
def Dimpl_reader_take_0 (t15 : Bool) (b1000_0 : ByteArray) (b1000_1 : Int) (b1000_2 : Bool) : Option (ByteArray × Int × Bool) :=
  frk t15 (some (b1000_0, w64 (b1000_1 + 1), b1000_2)) (some (b1000_0, b1000_1, b1000_2))
theorem Timpl_reader_take_0 {Y} (t15 : Bool) (b1000_0 : ByteArray) (b1000_1 : Int) (b1000_2 : Bool) (r : (ByteArray × Int × Bool)) (h : Dimpl_reader_take_0 t15 b1000_0 b1000_1 b1000_2 = some r) : Wk Try.prog H Y 149 [.code (cp [1, 1] (bodyOf Try.f149))] (FinX Try.prog Try.f149 [(1000, ⟨true, 0, [.bad, .bad, .bad]⟩)] (.tup []) [(1000, ⟨true, 0, [.lit (.string r.1), i64 r.2.1, bl r.2.2]⟩)]) ⟨[(0, .ptr 1000 0), (15, bl t15)], [(1000, ⟨true, 0, [.lit (.string b1000_0), i64 b1000_1, bl b1000_2]⟩)]⟩ := by
  unfold Dimpl_reader_take_0 at h
  refine x_frk 0 [] onil h (by kernel_rfl) (fun h => ?_) (fun h => ?_)
  · replace h := Option.some.inj h; subst h
    exact x_end 10 [] [] onil onil (by kernel_rfl)
  · replace h := Option.some.inj h; subst h
    exact x_end 1 [] [] onil onil (by kernel_rfl)
def Dimpl_reader_take (a0 : (ByteArray × Int × Bool)) (a1 : Int) : Option (ByteArray × Int × Bool) :=
  (Dimpl_reader_peek a0).bind fun v0 => frk (v0.1 != a1) (some (v0.2.1, v0.2.2.1, true)) (Dimpl_reader_take_0 (!v0.2.2.2) v0.2.1 v0.2.2.1 v0.2.2.2)
theorem Timpl_reader_take {Y} (a0 : (ByteArray × Int × Bool)) (a1 : Int) (r : (ByteArray × Int × Bool)) (h : Dimpl_reader_take a0 a1 = some r) : Big Try.prog H Y (.call 149 [.ptr 1000 0, .lit (.int .u8 a1)] (lk [(1000, ⟨true, 0, [.lit (.string a0.1), i64 a0.2.1, bl a0.2.2]⟩)]) (.tup []) (lk [(1000, ⟨true, 0, [.lit (.string r.1), i64 r.2.1, bl r.2.2]⟩)])) := by
  unfold Dimpl_reader_take at h
  refine x_call (fn := Try.f149) (c := bodyOf Try.f149) (bs0 := [(1000, ⟨true, 0, [.bad, .bad, .bad]⟩)]) Try.func149 (by kernel_rfl) (by kernel_rfl) ?_
  obtain ⟨v0, hv0, h⟩ := bind_some h
  refine x_frk 8 [(1, .call [] [] (.lit (.int .u8 v0.1)) [(1000, ⟨true, 0, [.lit (.string v0.2.1), i64 v0.2.2.1, bl v0.2.2.2]⟩)])] (ocons (Timpl_reader_peek (Y := Y) a0 _ hv0) onil) h (by kernel_rfl) (fun h => ?_) (fun h => ?_)
  · replace h := Option.some.inj h; subst h
    exact x_end 16 [] [] onil onil (by kernel_rfl)
  · exact x_to 9 [] onil (Timpl_reader_take_0 (!v0.2.2.2) v0.2.1 v0.2.2.1 v0.2.2.2 r h) (by kernel_rfl)
/-! impl.node -/
def Dimpl_nodeo1o2 (a0 : Pl) (a1 : Sol) (a2 : Sol) : Option Sol :=
  some (Sol.mk false a0 [a1, a2])
theorem Timpl_nodeo1o2 {Y} (a0 : Pl) (a1 : Sol) (a2 : Sol) (r : Sol) (h : Dimpl_nodeo1o2 a0 a1 a2 = some r) : Big Try.prog H Y (.call 136 [.agg [i64 a0.A, i64 a0.B, i64 a0.C, i64 a0.D], .agg [bl a1.inn, i64 a1.pl.A, i64 a1.pl.B, i64 a1.pl.C, i64 a1.pl.D, .sl true 6 a1.kids.length ((eSol true).f a1.kids)], .agg [bl a2.inn, i64 a2.pl.A, i64 a2.pl.B, i64 a2.pl.C, i64 a2.pl.D, .sl true 6 a2.kids.length ((eSol true).f a2.kids)]] (lk []) (.agg [bl r.inn, i64 r.pl.A, i64 r.pl.B, i64 r.pl.C, i64 r.pl.D, .sl true 6 r.kids.length ((eSol true).f r.kids)]) (lk [])) := by
  unfold Dimpl_nodeo1o2 at h
  refine x_call (fn := Try.f136) (c := bodyOf Try.f136) (bs0 := []) Try.func136 (by kernel_rfl) (by kernel_rfl) ?_
  replace h := Option.some.inj h; subst h
  exact x_end 17 [(8, .fixb 10 ⟨true, 6, (eSol true).f [a1, a2]⟩)] [] (ocons (boxSol true true [a1, a2]) onil) (ocons (len_row (L := [a1, a2]) (eSol true)) onil) (by kernel_rfl)
/-! impl.reader).tree -/
def Dimpl_reader_tree_0 (_n : Nat) (_self : ((ByteArray × Int × Bool) × Int) → Option (Sol × (ByteArray × Int × Bool))) (t5 : Int) (_b4_0 : Bool) (_b4_1 : Int) (_b4_2 : Int) (_b4_3 : Int) (_b4_4 : Int) (b1000_0 : ByteArray) (b1000_1 : Int) (b1000_2 : Bool) : Option (Sol × (ByteArray × Int × Bool)) :=
  (Dimpl_Leaf (t5 == 35)).bind fun v1 => some (v1, (b1000_0, b1000_1, b1000_2))
theorem Timpl_reader_tree_0 {Y} (n : Nat) (self : ((ByteArray × Int × Bool) × Int) → Option (Sol × (ByteArray × Int × Bool))) (_hself : ∀ (a : ((ByteArray × Int × Bool) × Int)) (r : (Sol × (ByteArray × Int × Bool))), self a = some r → Big Try.prog H Y (.call 88 [.ptr 1000 0, i64 a.2] (lk [(1000, ⟨true, 0, [.lit (.string a.1.1), i64 a.1.2.1, bl a.1.2.2]⟩)]) (.agg [bl r.1.inn, i64 r.1.pl.A, i64 r.1.pl.B, i64 r.1.pl.C, i64 r.1.pl.D, .sl true 6 r.1.kids.length ((eSol true).f r.1.kids)]) (lk [(1000, ⟨true, 0, [.lit (.string r.2.1), i64 r.2.2.1, bl r.2.2.2]⟩)]))) (t5 : Int) (b4_0 : Bool) (b4_1 : Int) (b4_2 : Int) (b4_3 : Int) (b4_4 : Int) (b1000_0 : ByteArray) (b1000_1 : Int) (b1000_2 : Bool) (r : (Sol × (ByteArray × Int × Bool))) (h : Dimpl_reader_tree_0 n self t5 b4_0 b4_1 b4_2 b4_3 b4_4 b1000_0 b1000_1 b1000_2 = some r) : Wk Try.prog H Y 88 [.code (cp [1, 0, 1, 0, 1, 0, 1, 0] (bodyOf Try.f88)), .code (cp [1, 0, 1, 0, 1, 0, 1, 1] (bodyOf Try.f88)), .blk 0, .code (cp [1, 1] (bodyOf Try.f88))] (FinX Try.prog Try.f88 [(1000, ⟨true, 0, [.bad, .bad, .bad]⟩)] (.agg [bl r.1.inn, i64 r.1.pl.A, i64 r.1.pl.B, i64 r.1.pl.C, i64 r.1.pl.D, .sl true 6 r.1.kids.length ((eSol true).f r.1.kids)]) [(1000, ⟨true, 0, [.lit (.string r.2.1), i64 r.2.2.1, bl r.2.2.2]⟩)]) ⟨[(4, .ptr 4 0), (5, .lit (.int .u8 t5))], [(4, ⟨true, 0, [bl b4_0, i64 b4_1, i64 b4_2, i64 b4_3, i64 b4_4, .nil]⟩), (1000, ⟨true, 0, [.lit (.string b1000_0), i64 b1000_1, bl b1000_2]⟩)]⟩ := by
  unfold Dimpl_reader_tree_0 at h
  obtain ⟨v1, hv1, h⟩ := bind_some h
  replace h := Option.some.inj h; subst h
  exact x_end 6 [(2, .call [] [] (.agg [bl v1.inn, i64 v1.pl.A, i64 v1.pl.B, i64 v1.pl.C, i64 v1.pl.D, .sl true 6 v1.kids.length ((eSol true).f v1.kids)]) [])] [] (ocons (Timpl_Leaf (Y := Y) (t5 == 35) _ hv1) onil) onil (by kernel_rfl)
def Dimpl_reader_tree_2 (n : Nat) (self : ((ByteArray × Int × Bool) × Int) → Option (Sol × (ByteArray × Int × Bool))) (t1 : Int) (t29 : Bool) (_b4_0 : Bool) (_b4_1 : Int) (_b4_2 : Int) (_b4_3 : Int) (_b4_4 : Int) (b1000_0 : ByteArray) (b1000_1 : Int) (b1000_2 : Bool) : Option (Sol × (ByteArray × Int × Bool)) :=
  frk t29 (some ((Sol.mk false (Pl.mk 0 0 0 0) []), (b1000_0, b1000_1, true))) ((Dimpl_reader_number n (b1000_0, w64 (b1000_1 + 1), b1000_2)).bind fun v3 => (Dimpl_reader_take v3.2 32).bind fun v4 => (Dimpl_reader_number n v4).bind fun v5 => (Dimpl_reader_take v5.2 32).bind fun v6 => (Dimpl_reader_number n v6).bind fun v7 => (Dimpl_reader_take v7.2 32).bind fun v8 => (Dimpl_reader_number n v8).bind fun v9 => (Dimpl_reader_take v9.2 32).bind fun v10 => frk v10.2.2 (some ((Sol.mk false (Pl.mk 0 0 0 0) []), v10)) ((self (v10, w64 (t1 + 1))).bind fun v11 => (Dimpl_reader_take v11.2 32).bind fun v12 => frk v12.2.2 (some ((Sol.mk false (Pl.mk 0 0 0 0) []), v12)) ((self (v12, w64 (t1 + 1))).bind fun v13 => (Dimpl_reader_take v13.2 41).bind fun v14 => (Dimpl_nodeo1o2 (Pl.mk v3.1 v5.1 v7.1 v9.1) v11.1 v13.1).bind fun v15 => some (v15, v14))))
theorem Timpl_reader_tree_2 {Y} (n : Nat) (self : ((ByteArray × Int × Bool) × Int) → Option (Sol × (ByteArray × Int × Bool))) (hself : ∀ (a : ((ByteArray × Int × Bool) × Int)) (r : (Sol × (ByteArray × Int × Bool))), self a = some r → Big Try.prog H Y (.call 88 [.ptr 1000 0, i64 a.2] (lk [(1000, ⟨true, 0, [.lit (.string a.1.1), i64 a.1.2.1, bl a.1.2.2]⟩)]) (.agg [bl r.1.inn, i64 r.1.pl.A, i64 r.1.pl.B, i64 r.1.pl.C, i64 r.1.pl.D, .sl true 6 r.1.kids.length ((eSol true).f r.1.kids)]) (lk [(1000, ⟨true, 0, [.lit (.string r.2.1), i64 r.2.2.1, bl r.2.2.2]⟩)]))) (t1 : Int) (t29 : Bool) (b4_0 : Bool) (b4_1 : Int) (b4_2 : Int) (b4_3 : Int) (b4_4 : Int) (b1000_0 : ByteArray) (b1000_1 : Int) (b1000_2 : Bool) (r : (Sol × (ByteArray × Int × Bool))) (h : Dimpl_reader_tree_2 n self t1 t29 b4_0 b4_1 b4_2 b4_3 b4_4 b1000_0 b1000_1 b1000_2 = some r) : Wk Try.prog H Y 88 [.code (cp [1, 0, 1, 0, 1, 1, 1] (bodyOf Try.f88)), .blk 0, .code (cp [1, 1] (bodyOf Try.f88))] (FinX Try.prog Try.f88 [(1000, ⟨true, 0, [.bad, .bad, .bad]⟩)] (.agg [bl r.1.inn, i64 r.1.pl.A, i64 r.1.pl.B, i64 r.1.pl.C, i64 r.1.pl.D, .sl true 6 r.1.kids.length ((eSol true).f r.1.kids)]) [(1000, ⟨true, 0, [.lit (.string r.2.1), i64 r.2.2.1, bl r.2.2.2]⟩)]) ⟨[(0, .ptr 1000 0), (1, i64 t1), (4, .ptr 4 0), (29, bl t29)], [(4, ⟨true, 0, [bl b4_0, i64 b4_1, i64 b4_2, i64 b4_3, i64 b4_4, .nil]⟩), (1000, ⟨true, 0, [.lit (.string b1000_0), i64 b1000_1, bl b1000_2]⟩)]⟩ := by
  unfold Dimpl_reader_tree_2 at h
  refine x_frk 0 [] onil h (by kernel_rfl) (fun h => ?_) (fun h => ?_)
  · replace h := Option.some.inj h; subst h
    exact x_end 12 [] [(true, 6)] onil onil (by kernel_rfl)
  · obtain ⟨v3, hv3, h⟩ := bind_some h
    obtain ⟨v4, hv4, h⟩ := bind_some h
    obtain ⟨v5, hv5, h⟩ := bind_some h
    obtain ⟨v6, hv6, h⟩ := bind_some h
    obtain ⟨v7, hv7, h⟩ := bind_some h
    obtain ⟨v8, hv8, h⟩ := bind_some h
    obtain ⟨v9, hv9, h⟩ := bind_some h
    obtain ⟨v10, hv10, h⟩ := bind_some h
    refine x_frk 171 [(15, .call [] [] (i64 v3.1) [(1000, ⟨true, 0, [.lit (.string v3.2.1), i64 v3.2.2.1, bl v3.2.2.2]⟩)]), (3, .call [] [] (.tup []) [(1000, ⟨true, 0, [.lit (.string v4.1), i64 v4.2.1, bl v4.2.2]⟩)]), (7, .call [] [] (i64 v5.1) [(1000, ⟨true, 0, [.lit (.string v5.2.1), i64 v5.2.2.1, bl v5.2.2.2]⟩)]), (3, .call [] [] (.tup []) [(1000, ⟨true, 0, [.lit (.string v6.1), i64 v6.2.1, bl v6.2.2]⟩)]), (7, .call [] [] (i64 v7.1) [(1000, ⟨true, 0, [.lit (.string v7.2.1), i64 v7.2.2.1, bl v7.2.2.2]⟩)]), (3, .call [] [] (.tup []) [(1000, ⟨true, 0, [.lit (.string v8.1), i64 v8.2.1, bl v8.2.2]⟩)]), (7, .call [] [] (i64 v9.1) [(1000, ⟨true, 0, [.lit (.string v9.2.1), i64 v9.2.2.1, bl v9.2.2.2]⟩)]), (3, .call [] [] (.tup []) [(1000, ⟨true, 0, [.lit (.string v10.1), i64 v10.2.1, bl v10.2.2]⟩)])] (ocons (Timpl_reader_number (Y := Y) n (b1000_0, w64 (b1000_1 + 1), b1000_2) _ hv3) (ocons (Timpl_reader_take (Y := Y) v3.2 32 _ hv4) (ocons (Timpl_reader_number (Y := Y) n v4 _ hv5) (ocons (Timpl_reader_take (Y := Y) v5.2 32 _ hv6) (ocons (Timpl_reader_number (Y := Y) n v6 _ hv7) (ocons (Timpl_reader_take (Y := Y) v7.2 32 _ hv8) (ocons (Timpl_reader_number (Y := Y) n v8 _ hv9) (ocons (Timpl_reader_take (Y := Y) v9.2 32 _ hv10) onil)))))))) h (by kernel_rfl) (fun h => ?_) (fun h => ?_)
    · replace h := Option.some.inj h; subst h
      exact x_end 5 [] [(true, 6)] onil onil (by kernel_rfl)
    · obtain ⟨v11, hv11, h⟩ := bind_some h
      obtain ⟨v12, hv12, h⟩ := bind_some h
      refine x_frk 23 [(3, .call [] [] (.agg [bl v11.1.inn, i64 v11.1.pl.A, i64 v11.1.pl.B, i64 v11.1.pl.C, i64 v11.1.pl.D, .sl true 6 v11.1.kids.length ((eSol true).f v11.1.kids)]) [(1000, ⟨true, 0, [.lit (.string v11.2.1), i64 v11.2.2.1, bl v11.2.2.2]⟩)]), (3, .call [] [] (.tup []) [(1000, ⟨true, 0, [.lit (.string v12.1), i64 v12.2.1, bl v12.2.2]⟩)])] (ocons (hself (v10, w64 (t1 + 1)) _ hv11) (ocons (Timpl_reader_take (Y := Y) v11.2 32 _ hv12) onil)) h (by kernel_rfl) (fun h => ?_) (fun h => ?_)
      · replace h := Option.some.inj h; subst h
        exact x_end 5 [] [(true, 6)] onil onil (by kernel_rfl)
      · obtain ⟨v13, hv13, h⟩ := bind_some h
        obtain ⟨v14, hv14, h⟩ := bind_some h
        obtain ⟨v15, hv15, h⟩ := bind_some h
        replace h := Option.some.inj h; subst h
        exact x_end 31 [(3, .call [] [] (.agg [bl v13.1.inn, i64 v13.1.pl.A, i64 v13.1.pl.B, i64 v13.1.pl.C, i64 v13.1.pl.D, .sl true 6 v13.1.kids.length ((eSol true).f v13.1.kids)]) [(1000, ⟨true, 0, [.lit (.string v13.2.1), i64 v13.2.2.1, bl v13.2.2.2]⟩)]), (3, .call [] [] (.tup []) [(1000, ⟨true, 0, [.lit (.string v14.1), i64 v14.2.1, bl v14.2.2]⟩)]), (11, .call [] [] (.agg [bl v15.inn, i64 v15.pl.A, i64 v15.pl.B, i64 v15.pl.C, i64 v15.pl.D, .sl true 6 v15.kids.length ((eSol true).f v15.kids)]) [])] [] (ocons (hself (v12, w64 (t1 + 1)) _ hv13) (ocons (Timpl_reader_take (Y := Y) v13.2 41 _ hv14) (ocons (Timpl_nodeo1o2 (Y := Y) (Pl.mk v3.1 v5.1 v7.1 v9.1) v11.1 v13.1 _ hv15) onil))) onil (by kernel_rfl)
def Dimpl_reader_tree_1 (n : Nat) (self : ((ByteArray × Int × Bool) × Int) → Option (Sol × (ByteArray × Int × Bool))) (t1 : Int) (t5 : Int) (t12 : Bool) (b4_0 : Bool) (b4_1 : Int) (b4_2 : Int) (b4_3 : Int) (b4_4 : Int) (b1000_0 : ByteArray) (b1000_1 : Int) (b1000_2 : Bool) : Option (Sol × (ByteArray × Int × Bool)) :=
  frk t12 ((Dimpl_Leaf (t5 == 35)).bind fun v2 => some (v2, (b1000_0, w64 (b1000_1 + 1), b1000_2))) (frk (t5 != 40) (some ((Sol.mk false (Pl.mk 0 0 0 0) []), (b1000_0, b1000_1, true))) (Dimpl_reader_tree_2 n self t1 (decide (t1 ≥ 24)) b4_0 b4_1 b4_2 b4_3 b4_4 b1000_0 b1000_1 b1000_2))
theorem Timpl_reader_tree_1 {Y} (n : Nat) (self : ((ByteArray × Int × Bool) × Int) → Option (Sol × (ByteArray × Int × Bool))) (hself : ∀ (a : ((ByteArray × Int × Bool) × Int)) (r : (Sol × (ByteArray × Int × Bool))), self a = some r → Big Try.prog H Y (.call 88 [.ptr 1000 0, i64 a.2] (lk [(1000, ⟨true, 0, [.lit (.string a.1.1), i64 a.1.2.1, bl a.1.2.2]⟩)]) (.agg [bl r.1.inn, i64 r.1.pl.A, i64 r.1.pl.B, i64 r.1.pl.C, i64 r.1.pl.D, .sl true 6 r.1.kids.length ((eSol true).f r.1.kids)]) (lk [(1000, ⟨true, 0, [.lit (.string r.2.1), i64 r.2.2.1, bl r.2.2.2]⟩)]))) (t1 : Int) (t5 : Int) (t12 : Bool) (b4_0 : Bool) (b4_1 : Int) (b4_2 : Int) (b4_3 : Int) (b4_4 : Int) (b1000_0 : ByteArray) (b1000_1 : Int) (b1000_2 : Bool) (r : (Sol × (ByteArray × Int × Bool))) (h : Dimpl_reader_tree_1 n self t1 t5 t12 b4_0 b4_1 b4_2 b4_3 b4_4 b1000_0 b1000_1 b1000_2 = some r) : Wk Try.prog H Y 88 [.code (cp [1, 0, 1, 0, 1] (bodyOf Try.f88)), .blk 0, .code (cp [1, 1] (bodyOf Try.f88))] (FinX Try.prog Try.f88 [(1000, ⟨true, 0, [.bad, .bad, .bad]⟩)] (.agg [bl r.1.inn, i64 r.1.pl.A, i64 r.1.pl.B, i64 r.1.pl.C, i64 r.1.pl.D, .sl true 6 r.1.kids.length ((eSol true).f r.1.kids)]) [(1000, ⟨true, 0, [.lit (.string r.2.1), i64 r.2.2.1, bl r.2.2.2]⟩)]) ⟨[(0, .ptr 1000 0), (1, i64 t1), (4, .ptr 4 0), (5, .lit (.int .u8 t5)), (12, bl t12)], [(4, ⟨true, 0, [bl b4_0, i64 b4_1, i64 b4_2, i64 b4_3, i64 b4_4, .nil]⟩), (1000, ⟨true, 0, [.lit (.string b1000_0), i64 b1000_1, bl b1000_2]⟩)]⟩ := by
  unfold Dimpl_reader_tree_1 at h
  refine x_frk 0 [] onil h (by kernel_rfl) (fun h => ?_) (fun h => ?_)
  · obtain ⟨v2, hv2, h⟩ := bind_some h
    replace h := Option.some.inj h; subst h
    exact x_end 18 [(10, .call [] [] (.agg [bl v2.inn, i64 v2.pl.A, i64 v2.pl.B, i64 v2.pl.C, i64 v2.pl.D, .sl true 6 v2.kids.length ((eSol true).f v2.kids)]) [])] [] (ocons (Timpl_Leaf (Y := Y) (t5 == 35) _ hv2) onil) onil (by kernel_rfl)
  · refine x_frk 5 [] onil h (by kernel_rfl) (fun h => ?_) (fun h => ?_)
    · replace h := Option.some.inj h; subst h
      exact x_end 18 [] [(true, 6)] onil onil (by kernel_rfl)
    · exact x_to 5 [] onil (Timpl_reader_tree_2 n self hself t1 (decide (t1 ≥ 24)) b4_0 b4_1 b4_2 b4_3 b4_4 b1000_0 b1000_1 b1000_2 r h) (by kernel_rfl)
def Dimpl_reader_tree_b (n : Nat) (self : ((ByteArray × Int × Bool) × Int) → Option (Sol × (ByteArray × Int × Bool))) (a : ((ByteArray × Int × Bool) × Int)) : Option (Sol × (ByteArray × Int × Bool)) :=
  match a with
  | (a0, a1) => (Dimpl_reader_peek a0).bind fun v0 => frk (v0.1 == 35) (Dimpl_reader_tree_0 n self v0.1 false 0 0 0 0 v0.2.1 (w64 (v0.2.2.1 + 1)) v0.2.2.2) (Dimpl_reader_tree_1 n self a1 v0.1 (v0.1 == 46) false 0 0 0 0 v0.2.1 v0.2.2.1 v0.2.2.2)
def Dimpl_reader_tree (n : Nat) (a0 : (ByteArray × Int × Bool)) (a1 : Int) : Option (Sol × (ByteArray × Int × Bool)) := loopN (Dimpl_reader_tree_b n) n (a0, a1)
theorem Timpl_reader_tree_b {Y} (n : Nat) : ∀ (m : Nat) (a : ((ByteArray × Int × Bool) × Int)) (r : (Sol × (ByteArray × Int × Bool))), loopN (Dimpl_reader_tree_b n) m a = some r → ∀ (_ : Unit), Big Try.prog H Y (.call 88 [.ptr 1000 0, i64 a.2] (lk [(1000, ⟨true, 0, [.lit (.string a.1.1), i64 a.1.2.1, bl a.1.2.2]⟩)]) (.agg [bl r.1.inn, i64 r.1.pl.A, i64 r.1.pl.B, i64 r.1.pl.C, i64 r.1.pl.D, .sl true 6 r.1.kids.length ((eSol true).f r.1.kids)]) (lk [(1000, ⟨true, 0, [.lit (.string r.2.1), i64 r.2.2.1, bl r.2.2.2]⟩)])) := by
  refine loopN_ind (fun self hs a r h => ?_)
  have hself : ∀ (a : ((ByteArray × Int × Bool) × Int)) (r : (Sol × (ByteArray × Int × Bool))), self a = some r → Big Try.prog H Y (.call 88 [.ptr 1000 0, i64 a.2] (lk [(1000, ⟨true, 0, [.lit (.string a.1.1), i64 a.1.2.1, bl a.1.2.2]⟩)]) (.agg [bl r.1.inn, i64 r.1.pl.A, i64 r.1.pl.B, i64 r.1.pl.C, i64 r.1.pl.D, .sl true 6 r.1.kids.length ((eSol true).f r.1.kids)]) (lk [(1000, ⟨true, 0, [.lit (.string r.2.1), i64 r.2.2.1, bl r.2.2.2]⟩)])) := fun a r h => hs a r h ()
  intro _
  obtain ⟨a0, a1⟩ := a
  unfold Dimpl_reader_tree_b at h
  refine x_call (fn := Try.f88) (c := bodyOf Try.f88) (bs0 := [(1000, ⟨true, 0, [.bad, .bad, .bad]⟩)]) Try.func88 (by kernel_rfl) (by kernel_rfl) ?_
  obtain ⟨v0, hv0, h⟩ := bind_some h
  refine x_frk 17 [(2, .call [] [] (.lit (.int .u8 v0.1)) [(1000, ⟨true, 0, [.lit (.string v0.2.1), i64 v0.2.2.1, bl v0.2.2.2]⟩)])] (ocons (Timpl_reader_peek (Y := Y) a0 _ hv0) onil) h (by kernel_rfl) (fun h => ?_) (fun h => ?_)
  · exact x_to 18 [] onil (Timpl_reader_tree_0 n self hself v0.1 false 0 0 0 0 v0.2.1 (w64 (v0.2.2.1 + 1)) v0.2.2.2 r h) (by kernel_rfl)
  · exact x_to 5 [] onil (Timpl_reader_tree_1 n self hself a1 v0.1 (v0.1 == 46) false 0 0 0 0 v0.2.1 v0.2.2.1 v0.2.2.2 r h) (by kernel_rfl)
theorem Timpl_reader_tree {Y} (n : Nat) (a0 : (ByteArray × Int × Bool)) (a1 : Int) (r : (Sol × (ByteArray × Int × Bool))) (h : Dimpl_reader_tree n a0 a1 = some r) : Big Try.prog H Y (.call 88 [.ptr 1000 0, i64 a1] (lk [(1000, ⟨true, 0, [.lit (.string a0.1), i64 a0.2.1, bl a0.2.2]⟩)]) (.agg [bl r.1.inn, i64 r.1.pl.A, i64 r.1.pl.B, i64 r.1.pl.C, i64 r.1.pl.D, .sl true 6 r.1.kids.length ((eSol true).f r.1.kids)]) (lk [(1000, ⟨true, 0, [.lit (.string r.2.1), i64 r.2.2.1, bl r.2.2.2]⟩)])) := Timpl_reader_tree_b n n (a0, a1) r h ()
/-! impl.ParseSolid -/
def Dimpl_ParseSolid_0 (n : Nat) (t9 : Bool) (_b2_0 : Bool) (_b2_1 : Int) (_b2_2 : Int) (_b2_3 : Int) (_b2_4 : Int) (_b4_0 : ByteArray) (b4_1 : Int) (_b4_2 : Bool) (b5_0 : Bool) (b5_1 : Int) (b5_2 : Int) (b5_3 : Int) (b5_4 : Int) (b5_5 : List Sol) : Option (Sol × Int) :=
  frk t9 (some ((Sol.mk false (Pl.mk 0 0 0 0) []), b4_1)) ((Dimpl_SolidOk n (Sol.mk b5_0 (Pl.mk b5_1 b5_2 b5_3 b5_4) b5_5)).bind fun v1 => frk (!v1) (some ((Sol.mk false (Pl.mk 0 0 0 0) []), 0)) (some ((Sol.mk b5_0 (Pl.mk b5_1 b5_2 b5_3 b5_4) b5_5), (-1))))
theorem Timpl_ParseSolid_0 {Y} (n : Nat) (t9 : Bool) (b2_0 : Bool) (b2_1 : Int) (b2_2 : Int) (b2_3 : Int) (b2_4 : Int) (b4_0 : ByteArray) (b4_1 : Int) (b4_2 : Bool) (b5_0 : Bool) (b5_1 : Int) (b5_2 : Int) (b5_3 : Int) (b5_4 : Int) (b5_5 : List Sol) (r : (Sol × Int)) (h : Dimpl_ParseSolid_0 n t9 b2_0 b2_1 b2_2 b2_3 b2_4 b4_0 b4_1 b4_2 b5_0 b5_1 b5_2 b5_3 b5_4 b5_5 = some r) : Wk Try.prog H Y 30 [.code (cp [1, 1, 1, 0, 0, 1] (bodyOf Try.f30)), .blk 0, .code (cp [1, 1, 1, 1] (bodyOf Try.f30))] (FinX Try.prog Try.f30 [] (.tup [.agg [bl r.1.inn, i64 r.1.pl.A, i64 r.1.pl.B, i64 r.1.pl.C, i64 r.1.pl.D, .sl true 6 r.1.kids.length ((eSol true).f r.1.kids)], i64 r.2]) []) ⟨[(2, .ptr 2 0), (4, .ptr 4 0), (5, .ptr 5 0), (9, bl t9)], [(2, ⟨true, 0, [bl b2_0, i64 b2_1, i64 b2_2, i64 b2_3, i64 b2_4, .nil]⟩), (4, ⟨true, 0, [.lit (.string b4_0), i64 b4_1, bl b4_2]⟩), (5, ⟨true, 0, [bl b5_0, i64 b5_1, i64 b5_2, i64 b5_3, i64 b5_4, .sl true 6 b5_5.length ((eSol true).f b5_5)]⟩)]⟩ := by
  unfold Dimpl_ParseSolid_0 at h
  refine x_frk 0 [] onil h (by kernel_rfl) (fun h => ?_) (fun h => ?_)
  · replace h := Option.some.inj h; subst h
    exact x_end 8 [] [(true, 6)] onil onil (by kernel_rfl)
  · obtain ⟨v1, hv1, h⟩ := bind_some h
    refine x_frk 7 [(0, .rows [(eSol false).f b5_5]), (0, .call [] [] (bl v1) [])] (ocons (Enc.share (eSol true) (eSol false) (sSol true) b5_5) (ocons (Timpl_SolidOk (Y := Y) n (Sol.mk b5_0 (Pl.mk b5_1 b5_2 b5_3 b5_4) b5_5) _ hv1) onil)) h (by kernel_rfl) (fun h => ?_) (fun h => ?_)
    · replace h := Option.some.inj h; subst h
      exact x_end 6 [] [(true, 6)] onil onil (by kernel_rfl)
    · replace h := Option.some.inj h; subst h
      exact x_end 8 [] [] onil onil (by kernel_rfl)
def Dimpl_ParseSolid (n : Nat) (a0 : ByteArray) : Option (Sol × Int) :=
  (Dimpl_reader_tree n (a0, 0, false) 0).bind fun v0 => frk v0.2.2.2 (some ((Sol.mk false (Pl.mk 0 0 0 0) []), v0.2.2.1)) (Dimpl_ParseSolid_0 n (decide (v0.2.2.1 < (a0.size : Int))) false 0 0 0 0 v0.2.1 v0.2.2.1 v0.2.2.2 v0.1.inn v0.1.pl.A v0.1.pl.B v0.1.pl.C v0.1.pl.D v0.1.kids)
theorem Timpl_ParseSolid {Y} (n : Nat) (a0 : ByteArray) (r : (Sol × Int)) (h : Dimpl_ParseSolid n a0 = some r) : Big Try.prog H Y (.call 30 [.lit (.string a0)] (lk []) (.tup [.agg [bl r.1.inn, i64 r.1.pl.A, i64 r.1.pl.B, i64 r.1.pl.C, i64 r.1.pl.D, .sl true 6 r.1.kids.length ((eSol true).f r.1.kids)], i64 r.2]) (lk [])) := by
  unfold Dimpl_ParseSolid at h
  refine x_call (fn := Try.f30) (c := bodyOf Try.f30) (bs0 := []) Try.func30 (by kernel_rfl) (by kernel_rfl) ?_
  obtain ⟨v0, hv0, h⟩ := bind_some h
  refine x_frk 25 [(6, .call [] [] (.agg [bl v0.1.inn, i64 v0.1.pl.A, i64 v0.1.pl.B, i64 v0.1.pl.C, i64 v0.1.pl.D, .sl true 6 v0.1.kids.length ((eSol true).f v0.1.kids)]) [(1000, ⟨true, 0, [.lit (.string v0.2.1), i64 v0.2.2.1, bl v0.2.2.2]⟩)])] (ocons (Timpl_reader_tree (Y := Y) n (a0, 0, false) 0 _ hv0) onil) h (by kernel_rfl) (fun h => ?_) (fun h => ?_)
  · replace h := Option.some.inj h; subst h
    exact x_end 17 [] [(true, 6)] onil onil (by kernel_rfl)
  · exact x_to 8 [] onil (Timpl_ParseSolid_0 n (decide (v0.2.2.1 < (a0.size : Int))) false 0 0 0 0 v0.2.1 v0.2.2.1 v0.2.2.2 v0.1.inn v0.1.pl.A v0.1.pl.B v0.1.pl.C v0.1.pl.D v0.1.kids r h) (by kernel_rfl)
/-! laws.markSolidS -/
def Dlaws_markSolidS_0 (_n : Nat) (self : (List Sol × Int) → Option (Int × List Sol)) (rec0 : (Int × Int × List Sol) → Option (Int × List Sol)) (t1 : Int) (t5 : Int) (l1000 : List Sol) : Option (Int × List Sol) :=
  (lget l1000 t5).bind fun v5 => (self (v5.kids, t1)).bind fun v6 => rec0 (v6.1, w64 (t5 + 1), (l1000.set (Int.toNat t5) (Sol.mk v5.inn v5.pl v6.2)))
theorem Tlaws_markSolidS_0 {Y} (n : Nat) (self : (List Sol × Int) → Option (Int × List Sol)) (rec0 : (Int × Int × List Sol) → Option (Int × List Sol)) (hself : ∀ (a : (List Sol × Int)) (r : (Int × List Sol)), self a = some r → TurnP Try.prog 39 (eSol true) a r) (hrec0 : ∀ (a : (Int × Int × List Sol)) (r : (Int × List Sol)), rec0 a = some r → Wk Try.prog H Y 39 [.code (cp [1, 0, 1, 0] (bodyOf Try.f39)), .blk 0, .code (cp [1, 1] (bodyOf Try.f39))] (FinX Try.prog Try.f39 [(1000, ⟨true, 6, (eSol true).f r.2⟩)] (i64 r.1) [(1000, ⟨true, 6, (eSol true).f r.2⟩)]) ⟨[(0, .msl 1000 a.2.2.length), (1, i64 a.1), (5, i64 a.2.1)], [(1000, ⟨true, 6, (eSol true).f a.2.2⟩)]⟩) (t1 : Int) (t5 : Int) (l1000 : List Sol) (r : (Int × List Sol)) (h : Dlaws_markSolidS_0 n self rec0 t1 t5 l1000 = some r) : Wk Try.prog H Y 39 [.code (cp [1, 0, 1, 0, 0, 1, 0, 0, 1, 1, 1, 1, 1, 1, 1, 1, 1, 1] (bodyOf Try.f39)), .blk 1, .code (cp [1, 0, 1, 0, 0, 1, 1] (bodyOf Try.f39)), .lp (cp [1, 0, 1, 0] (bodyOf Try.f39)), .blk 0, .code (cp [1, 1] (bodyOf Try.f39))] (FinX Try.prog Try.f39 [(1000, ⟨true, 6, (eSol true).f r.2⟩)] (i64 r.1) [(1000, ⟨true, 6, (eSol true).f r.2⟩)]) ⟨[(0, .msl 1000 l1000.length), (1, i64 t1), (5, i64 t5)], [(1000, ⟨true, 6, (eSol true).f l1000⟩)]⟩ := by
  unfold Dlaws_markSolidS_0 at h
  obtain ⟨v5, hv5, h⟩ := bind_some h
  obtain ⟨v6, hv6, h⟩ := bind_some h
  obtain ⟨hlv6, htv6⟩ := hself _ _ hv6
  refine x_nest (tL := 31) (f := 39) (dl := 57) (dk := 58) (dr := 59) (da := 1) (b := 1000) (n := l1000.length) (z := 6) (off := 5) (szf := 1) (el := 33) (bytes := 64) (tr := 0) (ti := 5) (tk := 1) (e0 := 53) (e1 := 54) (tS := 31) (e2 := 55) (tF := 33) (fld := 2) (e3 := 56) (i := t5) (cs := (eSol true).f l1000) (kk := .i64) (T := .sl true 6 v5.kids.length ((eSol true).f v5.kids)) (T' := .sl true 6 v6.2.length ((eSol true).f v6.2)) (kv := .int .i64 t1) (rv := .int .i64 v6.1) rfl (fun _ _ _ h => h) (by kernel_rfl) (by kernel_rfl) (by kernel_rfl) (by kernel_rfl) (lget_in hv5) (solGet hv5) (by simp [nlkLs, nlk, nlkL, nLk]) (by simp) rfl htv6 ?_
  rw [solSet hv5 v6.2]
  exact x_to 8 [(0, .fix 0 (.msl 1000 (l1000.set (Int.toNat t5) (Sol.mk v5.inn v5.pl v6.2)).length))] (ocons (setLen 1000 l1000 (Int.toNat t5) (Sol.mk v5.inn v5.pl v6.2)) onil) (hrec0 (v6.1, w64 (t5 + 1), (l1000.set (Int.toNat t5) (Sol.mk v5.inn v5.pl v6.2))) r h) (by kernel_rfl)
def Dlaws_markSolidS_1 (n : Nat) (self : (List Sol × Int) → Option (Int × List Sol)) (rec0 : (Int × Int × List Sol) → Option (Int × List Sol)) (a : (Int × Int × List Sol)) : Option (Int × List Sol) :=
  match a with
  | (t1, t5, l1000) => frk (decide (t5 < (l1000.length : Int))) ((lget l1000 t5).bind fun v0 => (lget (l1000.set (Int.toNat t5) (Sol.mk ((Int.tmod t1 3) == 0) v0.pl v0.kids)) t5).bind fun v1 => (lget ((l1000.set (Int.toNat t5) (Sol.mk ((Int.tmod t1 3) == 0) v0.pl v0.kids)).set (Int.toNat t5) (Sol.mk v1.inn (Pl.mk (w64 (t1 + 1)) v1.pl.B v1.pl.C v1.pl.D) v1.kids)) t5).bind fun v2 => (lget (((l1000.set (Int.toNat t5) (Sol.mk ((Int.tmod t1 3) == 0) v0.pl v0.kids)).set (Int.toNat t5) (Sol.mk v1.inn (Pl.mk (w64 (t1 + 1)) v1.pl.B v1.pl.C v1.pl.D) v1.kids)).set (Int.toNat t5) (Sol.mk v2.inn (Pl.mk v2.pl.A (w64 ((w64 (t1 + 1)) + 1)) v2.pl.C v2.pl.D) v2.kids)) t5).bind fun v3 => (lget ((((l1000.set (Int.toNat t5) (Sol.mk ((Int.tmod t1 3) == 0) v0.pl v0.kids)).set (Int.toNat t5) (Sol.mk v1.inn (Pl.mk (w64 (t1 + 1)) v1.pl.B v1.pl.C v1.pl.D) v1.kids)).set (Int.toNat t5) (Sol.mk v2.inn (Pl.mk v2.pl.A (w64 ((w64 (t1 + 1)) + 1)) v2.pl.C v2.pl.D) v2.kids)).set (Int.toNat t5) (Sol.mk v3.inn (Pl.mk v3.pl.A v3.pl.B (w64 ((w64 ((w64 (t1 + 1)) + 1)) + 1)) v3.pl.D) v3.kids)) t5).bind fun v4 => Dlaws_markSolidS_0 n self rec0 (w64 ((w64 ((w64 ((w64 ((w64 (t1 + 1)) + 1)) + 1)) + 1)) + 1)) t5 (((((l1000.set (Int.toNat t5) (Sol.mk ((Int.tmod t1 3) == 0) v0.pl v0.kids)).set (Int.toNat t5) (Sol.mk v1.inn (Pl.mk (w64 (t1 + 1)) v1.pl.B v1.pl.C v1.pl.D) v1.kids)).set (Int.toNat t5) (Sol.mk v2.inn (Pl.mk v2.pl.A (w64 ((w64 (t1 + 1)) + 1)) v2.pl.C v2.pl.D) v2.kids)).set (Int.toNat t5) (Sol.mk v3.inn (Pl.mk v3.pl.A v3.pl.B (w64 ((w64 ((w64 (t1 + 1)) + 1)) + 1)) v3.pl.D) v3.kids)).set (Int.toNat t5) (Sol.mk v4.inn (Pl.mk v4.pl.A v4.pl.B v4.pl.C (w64 ((w64 ((w64 ((w64 (t1 + 1)) + 1)) + 1)) + 1))) v4.kids))) (some (t1, l1000))
theorem Tlaws_markSolidS_1 {Y} (n : Nat) (self : (List Sol × Int) → Option (Int × List Sol)) (hself : ∀ (a : (List Sol × Int)) (r : (Int × List Sol)), self a = some r → TurnP Try.prog 39 (eSol true) a r) : ∀ (m : Nat) (a : (Int × Int × List Sol)) (r : (Int × List Sol)), loopN (Dlaws_markSolidS_1 n self) m a = some r → Wk Try.prog H Y 39 [.code (cp [1, 0, 1, 0] (bodyOf Try.f39)), .blk 0, .code (cp [1, 1] (bodyOf Try.f39))] (FinX Try.prog Try.f39 [(1000, ⟨true, 6, (eSol true).f r.2⟩)] (i64 r.1) [(1000, ⟨true, 6, (eSol true).f r.2⟩)]) ⟨[(0, .msl 1000 a.2.2.length), (1, i64 a.1), (5, i64 a.2.1)], [(1000, ⟨true, 6, (eSol true).f a.2.2⟩)]⟩ := by
  refine loopN_ind (fun rec0 hrec0 a r h => ?_)
  obtain ⟨t1, t5, l1000⟩ := a
  unfold Dlaws_markSolidS_1 at h
  refine x_frk 9 [] onil h (by kernel_rfl) (fun h => ?_) (fun h => ?_)
  · obtain ⟨v0, hv0, h⟩ := bind_some h
    obtain ⟨v1, hv1, h⟩ := bind_some h
    obtain ⟨v2, hv2, h⟩ := bind_some h
    obtain ⟨v3, hv3, h⟩ := bind_some h
    obtain ⟨v4, hv4, h⟩ := bind_some h
    exact x_to 109 [(5, .unit), (1, .cells ((eSol true).f (l1000.set (Int.toNat t5) (Sol.mk ((Int.tmod t1 3) == 0) v0.pl v0.kids)))), (0, .fix 0 (.msl 1000 (l1000.set (Int.toNat t5) (Sol.mk ((Int.tmod t1 3) == 0) v0.pl v0.kids)).length)), (0, .fix 7 (.msl 1000 (l1000.set (Int.toNat t5) (Sol.mk ((Int.tmod t1 3) == 0) v0.pl v0.kids)).length)), (0, .fix 12 (.msl 1000 (l1000.set (Int.toNat t5) (Sol.mk ((Int.tmod t1 3) == 0) v0.pl v0.kids)).length)), (6, .unit), (2, .cells ((eSol true).f ((l1000.set (Int.toNat t5) (Sol.mk ((Int.tmod t1 3) == 0) v0.pl v0.kids)).set (Int.toNat t5) (Sol.mk v1.inn (Pl.mk (w64 (t1 + 1)) v1.pl.B v1.pl.C v1.pl.D) v1.kids)))), (0, .fix 0 (.msl 1000 ((l1000.set (Int.toNat t5) (Sol.mk ((Int.tmod t1 3) == 0) v0.pl v0.kids)).set (Int.toNat t5) (Sol.mk v1.inn (Pl.mk (w64 (t1 + 1)) v1.pl.B v1.pl.C v1.pl.D) v1.kids)).length)), (0, .fix 7 (.msl 1000 ((l1000.set (Int.toNat t5) (Sol.mk ((Int.tmod t1 3) == 0) v0.pl v0.kids)).set (Int.toNat t5) (Sol.mk v1.inn (Pl.mk (w64 (t1 + 1)) v1.pl.B v1.pl.C v1.pl.D) v1.kids)).length)), (0, .fix 12 (.msl 1000 ((l1000.set (Int.toNat t5) (Sol.mk ((Int.tmod t1 3) == 0) v0.pl v0.kids)).set (Int.toNat t5) (Sol.mk v1.inn (Pl.mk (w64 (t1 + 1)) v1.pl.B v1.pl.C v1.pl.D) v1.kids)).length)), (0, .fix 21 (.msl 1000 ((l1000.set (Int.toNat t5) (Sol.mk ((Int.tmod t1 3) == 0) v0.pl v0.kids)).set (Int.toNat t5) (Sol.mk v1.inn (Pl.mk (w64 (t1 + 1)) v1.pl.B v1.pl.C v1.pl.D) v1.kids)).length)), (6, .unit), (2, .cells ((eSol true).f (((l1000.set (Int.toNat t5) (Sol.mk ((Int.tmod t1 3) == 0) v0.pl v0.kids)).set (Int.toNat t5) (Sol.mk v1.inn (Pl.mk (w64 (t1 + 1)) v1.pl.B v1.pl.C v1.pl.D) v1.kids)).set (Int.toNat t5) (Sol.mk v2.inn (Pl.mk v2.pl.A (w64 ((w64 (t1 + 1)) + 1)) v2.pl.C v2.pl.D) v2.kids)))), (0, .fix 0 (.msl 1000 (((l1000.set (Int.toNat t5) (Sol.mk ((Int.tmod t1 3) == 0) v0.pl v0.kids)).set (Int.toNat t5) (Sol.mk v1.inn (Pl.mk (w64 (t1 + 1)) v1.pl.B v1.pl.C v1.pl.D) v1.kids)).set (Int.toNat t5) (Sol.mk v2.inn (Pl.mk v2.pl.A (w64 ((w64 (t1 + 1)) + 1)) v2.pl.C v2.pl.D) v2.kids)).length)), (0, .fix 7 (.msl 1000 (((l1000.set (Int.toNat t5) (Sol.mk ((Int.tmod t1 3) == 0) v0.pl v0.kids)).set (Int.toNat t5) (Sol.mk v1.inn (Pl.mk (w64 (t1 + 1)) v1.pl.B v1.pl.C v1.pl.D) v1.kids)).set (Int.toNat t5) (Sol.mk v2.inn (Pl.mk v2.pl.A (w64 ((w64 (t1 + 1)) + 1)) v2.pl.C v2.pl.D) v2.kids)).length)), (0, .fix 12 (.msl 1000 (((l1000.set (Int.toNat t5) (Sol.mk ((Int.tmod t1 3) == 0) v0.pl v0.kids)).set (Int.toNat t5) (Sol.mk v1.inn (Pl.mk (w64 (t1 + 1)) v1.pl.B v1.pl.C v1.pl.D) v1.kids)).set (Int.toNat t5) (Sol.mk v2.inn (Pl.mk v2.pl.A (w64 ((w64 (t1 + 1)) + 1)) v2.pl.C v2.pl.D) v2.kids)).length)), (0, .fix 21 (.msl 1000 (((l1000.set (Int.toNat t5) (Sol.mk ((Int.tmod t1 3) == 0) v0.pl v0.kids)).set (Int.toNat t5) (Sol.mk v1.inn (Pl.mk (w64 (t1 + 1)) v1.pl.B v1.pl.C v1.pl.D) v1.kids)).set (Int.toNat t5) (Sol.mk v2.inn (Pl.mk v2.pl.A (w64 ((w64 (t1 + 1)) + 1)) v2.pl.C v2.pl.D) v2.kids)).length)), (0, .fix 29 (.msl 1000 (((l1000.set (Int.toNat t5) (Sol.mk ((Int.tmod t1 3) == 0) v0.pl v0.kids)).set (Int.toNat t5) (Sol.mk v1.inn (Pl.mk (w64 (t1 + 1)) v1.pl.B v1.pl.C v1.pl.D) v1.kids)).set (Int.toNat t5) (Sol.mk v2.inn (Pl.mk v2.pl.A (w64 ((w64 (t1 + 1)) + 1)) v2.pl.C v2.pl.D) v2.kids)).length)), (6, .unit), (2, .cells ((eSol true).f ((((l1000.set (Int.toNat t5) (Sol.mk ((Int.tmod t1 3) == 0) v0.pl v0.kids)).set (Int.toNat t5) (Sol.mk v1.inn (Pl.mk (w64 (t1 + 1)) v1.pl.B v1.pl.C v1.pl.D) v1.kids)).set (Int.toNat t5) (Sol.mk v2.inn (Pl.mk v2.pl.A (w64 ((w64 (t1 + 1)) + 1)) v2.pl.C v2.pl.D) v2.kids)).set (Int.toNat t5) (Sol.mk v3.inn (Pl.mk v3.pl.A v3.pl.B (w64 ((w64 ((w64 (t1 + 1)) + 1)) + 1)) v3.pl.D) v3.kids)))), (0, .fix 0 (.msl 1000 ((((l1000.set (Int.toNat t5) (Sol.mk ((Int.tmod t1 3) == 0) v0.pl v0.kids)).set (Int.toNat t5) (Sol.mk v1.inn (Pl.mk (w64 (t1 + 1)) v1.pl.B v1.pl.C v1.pl.D) v1.kids)).set (Int.toNat t5) (Sol.mk v2.inn (Pl.mk v2.pl.A (w64 ((w64 (t1 + 1)) + 1)) v2.pl.C v2.pl.D) v2.kids)).set (Int.toNat t5) (Sol.mk v3.inn (Pl.mk v3.pl.A v3.pl.B (w64 ((w64 ((w64 (t1 + 1)) + 1)) + 1)) v3.pl.D) v3.kids)).length)), (0, .fix 7 (.msl 1000 ((((l1000.set (Int.toNat t5) (Sol.mk ((Int.tmod t1 3) == 0) v0.pl v0.kids)).set (Int.toNat t5) (Sol.mk v1.inn (Pl.mk (w64 (t1 + 1)) v1.pl.B v1.pl.C v1.pl.D) v1.kids)).set (Int.toNat t5) (Sol.mk v2.inn (Pl.mk v2.pl.A (w64 ((w64 (t1 + 1)) + 1)) v2.pl.C v2.pl.D) v2.kids)).set (Int.toNat t5) (Sol.mk v3.inn (Pl.mk v3.pl.A v3.pl.B (w64 ((w64 ((w64 (t1 + 1)) + 1)) + 1)) v3.pl.D) v3.kids)).length)), (0, .fix 12 (.msl 1000 ((((l1000.set (Int.toNat t5) (Sol.mk ((Int.tmod t1 3) == 0) v0.pl v0.kids)).set (Int.toNat t5) (Sol.mk v1.inn (Pl.mk (w64 (t1 + 1)) v1.pl.B v1.pl.C v1.pl.D) v1.kids)).set (Int.toNat t5) (Sol.mk v2.inn (Pl.mk v2.pl.A (w64 ((w64 (t1 + 1)) + 1)) v2.pl.C v2.pl.D) v2.kids)).set (Int.toNat t5) (Sol.mk v3.inn (Pl.mk v3.pl.A v3.pl.B (w64 ((w64 ((w64 (t1 + 1)) + 1)) + 1)) v3.pl.D) v3.kids)).length)), (0, .fix 21 (.msl 1000 ((((l1000.set (Int.toNat t5) (Sol.mk ((Int.tmod t1 3) == 0) v0.pl v0.kids)).set (Int.toNat t5) (Sol.mk v1.inn (Pl.mk (w64 (t1 + 1)) v1.pl.B v1.pl.C v1.pl.D) v1.kids)).set (Int.toNat t5) (Sol.mk v2.inn (Pl.mk v2.pl.A (w64 ((w64 (t1 + 1)) + 1)) v2.pl.C v2.pl.D) v2.kids)).set (Int.toNat t5) (Sol.mk v3.inn (Pl.mk v3.pl.A v3.pl.B (w64 ((w64 ((w64 (t1 + 1)) + 1)) + 1)) v3.pl.D) v3.kids)).length)), (0, .fix 29 (.msl 1000 ((((l1000.set (Int.toNat t5) (Sol.mk ((Int.tmod t1 3) == 0) v0.pl v0.kids)).set (Int.toNat t5) (Sol.mk v1.inn (Pl.mk (w64 (t1 + 1)) v1.pl.B v1.pl.C v1.pl.D) v1.kids)).set (Int.toNat t5) (Sol.mk v2.inn (Pl.mk v2.pl.A (w64 ((w64 (t1 + 1)) + 1)) v2.pl.C v2.pl.D) v2.kids)).set (Int.toNat t5) (Sol.mk v3.inn (Pl.mk v3.pl.A v3.pl.B (w64 ((w64 ((w64 (t1 + 1)) + 1)) + 1)) v3.pl.D) v3.kids)).length)), (0, .fix 37 (.msl 1000 ((((l1000.set (Int.toNat t5) (Sol.mk ((Int.tmod t1 3) == 0) v0.pl v0.kids)).set (Int.toNat t5) (Sol.mk v1.inn (Pl.mk (w64 (t1 + 1)) v1.pl.B v1.pl.C v1.pl.D) v1.kids)).set (Int.toNat t5) (Sol.mk v2.inn (Pl.mk v2.pl.A (w64 ((w64 (t1 + 1)) + 1)) v2.pl.C v2.pl.D) v2.kids)).set (Int.toNat t5) (Sol.mk v3.inn (Pl.mk v3.pl.A v3.pl.B (w64 ((w64 ((w64 (t1 + 1)) + 1)) + 1)) v3.pl.D) v3.kids)).length)), (6, .unit), (2, .cells ((eSol true).f (((((l1000.set (Int.toNat t5) (Sol.mk ((Int.tmod t1 3) == 0) v0.pl v0.kids)).set (Int.toNat t5) (Sol.mk v1.inn (Pl.mk (w64 (t1 + 1)) v1.pl.B v1.pl.C v1.pl.D) v1.kids)).set (Int.toNat t5) (Sol.mk v2.inn (Pl.mk v2.pl.A (w64 ((w64 (t1 + 1)) + 1)) v2.pl.C v2.pl.D) v2.kids)).set (Int.toNat t5) (Sol.mk v3.inn (Pl.mk v3.pl.A v3.pl.B (w64 ((w64 ((w64 (t1 + 1)) + 1)) + 1)) v3.pl.D) v3.kids)).set (Int.toNat t5) (Sol.mk v4.inn (Pl.mk v4.pl.A v4.pl.B v4.pl.C (w64 ((w64 ((w64 ((w64 (t1 + 1)) + 1)) + 1)) + 1))) v4.kids)))), (0, .fix 0 (.msl 1000 (((((l1000.set (Int.toNat t5) (Sol.mk ((Int.tmod t1 3) == 0) v0.pl v0.kids)).set (Int.toNat t5) (Sol.mk v1.inn (Pl.mk (w64 (t1 + 1)) v1.pl.B v1.pl.C v1.pl.D) v1.kids)).set (Int.toNat t5) (Sol.mk v2.inn (Pl.mk v2.pl.A (w64 ((w64 (t1 + 1)) + 1)) v2.pl.C v2.pl.D) v2.kids)).set (Int.toNat t5) (Sol.mk v3.inn (Pl.mk v3.pl.A v3.pl.B (w64 ((w64 ((w64 (t1 + 1)) + 1)) + 1)) v3.pl.D) v3.kids)).set (Int.toNat t5) (Sol.mk v4.inn (Pl.mk v4.pl.A v4.pl.B v4.pl.C (w64 ((w64 ((w64 ((w64 (t1 + 1)) + 1)) + 1)) + 1))) v4.kids)).length)), (0, .fix 7 (.msl 1000 (((((l1000.set (Int.toNat t5) (Sol.mk ((Int.tmod t1 3) == 0) v0.pl v0.kids)).set (Int.toNat t5) (Sol.mk v1.inn (Pl.mk (w64 (t1 + 1)) v1.pl.B v1.pl.C v1.pl.D) v1.kids)).set (Int.toNat t5) (Sol.mk v2.inn (Pl.mk v2.pl.A (w64 ((w64 (t1 + 1)) + 1)) v2.pl.C v2.pl.D) v2.kids)).set (Int.toNat t5) (Sol.mk v3.inn (Pl.mk v3.pl.A v3.pl.B (w64 ((w64 ((w64 (t1 + 1)) + 1)) + 1)) v3.pl.D) v3.kids)).set (Int.toNat t5) (Sol.mk v4.inn (Pl.mk v4.pl.A v4.pl.B v4.pl.C (w64 ((w64 ((w64 ((w64 (t1 + 1)) + 1)) + 1)) + 1))) v4.kids)).length)), (0, .fix 12 (.msl 1000 (((((l1000.set (Int.toNat t5) (Sol.mk ((Int.tmod t1 3) == 0) v0.pl v0.kids)).set (Int.toNat t5) (Sol.mk v1.inn (Pl.mk (w64 (t1 + 1)) v1.pl.B v1.pl.C v1.pl.D) v1.kids)).set (Int.toNat t5) (Sol.mk v2.inn (Pl.mk v2.pl.A (w64 ((w64 (t1 + 1)) + 1)) v2.pl.C v2.pl.D) v2.kids)).set (Int.toNat t5) (Sol.mk v3.inn (Pl.mk v3.pl.A v3.pl.B (w64 ((w64 ((w64 (t1 + 1)) + 1)) + 1)) v3.pl.D) v3.kids)).set (Int.toNat t5) (Sol.mk v4.inn (Pl.mk v4.pl.A v4.pl.B v4.pl.C (w64 ((w64 ((w64 ((w64 (t1 + 1)) + 1)) + 1)) + 1))) v4.kids)).length)), (0, .fix 21 (.msl 1000 (((((l1000.set (Int.toNat t5) (Sol.mk ((Int.tmod t1 3) == 0) v0.pl v0.kids)).set (Int.toNat t5) (Sol.mk v1.inn (Pl.mk (w64 (t1 + 1)) v1.pl.B v1.pl.C v1.pl.D) v1.kids)).set (Int.toNat t5) (Sol.mk v2.inn (Pl.mk v2.pl.A (w64 ((w64 (t1 + 1)) + 1)) v2.pl.C v2.pl.D) v2.kids)).set (Int.toNat t5) (Sol.mk v3.inn (Pl.mk v3.pl.A v3.pl.B (w64 ((w64 ((w64 (t1 + 1)) + 1)) + 1)) v3.pl.D) v3.kids)).set (Int.toNat t5) (Sol.mk v4.inn (Pl.mk v4.pl.A v4.pl.B v4.pl.C (w64 ((w64 ((w64 ((w64 (t1 + 1)) + 1)) + 1)) + 1))) v4.kids)).length)), (0, .fix 29 (.msl 1000 (((((l1000.set (Int.toNat t5) (Sol.mk ((Int.tmod t1 3) == 0) v0.pl v0.kids)).set (Int.toNat t5) (Sol.mk v1.inn (Pl.mk (w64 (t1 + 1)) v1.pl.B v1.pl.C v1.pl.D) v1.kids)).set (Int.toNat t5) (Sol.mk v2.inn (Pl.mk v2.pl.A (w64 ((w64 (t1 + 1)) + 1)) v2.pl.C v2.pl.D) v2.kids)).set (Int.toNat t5) (Sol.mk v3.inn (Pl.mk v3.pl.A v3.pl.B (w64 ((w64 ((w64 (t1 + 1)) + 1)) + 1)) v3.pl.D) v3.kids)).set (Int.toNat t5) (Sol.mk v4.inn (Pl.mk v4.pl.A v4.pl.B v4.pl.C (w64 ((w64 ((w64 ((w64 (t1 + 1)) + 1)) + 1)) + 1))) v4.kids)).length)), (0, .fix 37 (.msl 1000 (((((l1000.set (Int.toNat t5) (Sol.mk ((Int.tmod t1 3) == 0) v0.pl v0.kids)).set (Int.toNat t5) (Sol.mk v1.inn (Pl.mk (w64 (t1 + 1)) v1.pl.B v1.pl.C v1.pl.D) v1.kids)).set (Int.toNat t5) (Sol.mk v2.inn (Pl.mk v2.pl.A (w64 ((w64 (t1 + 1)) + 1)) v2.pl.C v2.pl.D) v2.kids)).set (Int.toNat t5) (Sol.mk v3.inn (Pl.mk v3.pl.A v3.pl.B (w64 ((w64 ((w64 (t1 + 1)) + 1)) + 1)) v3.pl.D) v3.kids)).set (Int.toNat t5) (Sol.mk v4.inn (Pl.mk v4.pl.A v4.pl.B v4.pl.C (w64 ((w64 ((w64 ((w64 (t1 + 1)) + 1)) + 1)) + 1))) v4.kids)).length)), (0, .fix 45 (.msl 1000 (((((l1000.set (Int.toNat t5) (Sol.mk ((Int.tmod t1 3) == 0) v0.pl v0.kids)).set (Int.toNat t5) (Sol.mk v1.inn (Pl.mk (w64 (t1 + 1)) v1.pl.B v1.pl.C v1.pl.D) v1.kids)).set (Int.toNat t5) (Sol.mk v2.inn (Pl.mk v2.pl.A (w64 ((w64 (t1 + 1)) + 1)) v2.pl.C v2.pl.D) v2.kids)).set (Int.toNat t5) (Sol.mk v3.inn (Pl.mk v3.pl.A v3.pl.B (w64 ((w64 ((w64 (t1 + 1)) + 1)) + 1)) v3.pl.D) v3.kids)).set (Int.toNat t5) (Sol.mk v4.inn (Pl.mk v4.pl.A v4.pl.B v4.pl.C (w64 ((w64 ((w64 ((w64 (t1 + 1)) + 1)) + 1)) + 1))) v4.kids)).length))] (ocons (inr hv0) (ocons (stA (eSol true) hv0 0 1 [bl ((Int.tmod t1 3) == 0)] (Sol.mk ((Int.tmod t1 3) == 0) v0.pl v0.kids) rfl rfl) (ocons (setLen 1000 l1000 (Int.toNat t5) (Sol.mk ((Int.tmod t1 3) == 0) v0.pl v0.kids)) (ocons (setLen 1000 l1000 (Int.toNat t5) (Sol.mk ((Int.tmod t1 3) == 0) v0.pl v0.kids)) (ocons (setLen 1000 l1000 (Int.toNat t5) (Sol.mk ((Int.tmod t1 3) == 0) v0.pl v0.kids)) (ocons (inr hv1) (ocons (stA (eSol true) hv1 1 1 [i64 (w64 (t1 + 1))] (Sol.mk v1.inn (Pl.mk (w64 (t1 + 1)) v1.pl.B v1.pl.C v1.pl.D) v1.kids) rfl rfl) (ocons (setLen 1000 (l1000.set (Int.toNat t5) (Sol.mk ((Int.tmod t1 3) == 0) v0.pl v0.kids)) (Int.toNat t5) (Sol.mk v1.inn (Pl.mk (w64 (t1 + 1)) v1.pl.B v1.pl.C v1.pl.D) v1.kids)) (ocons (setLen 1000 (l1000.set (Int.toNat t5) (Sol.mk ((Int.tmod t1 3) == 0) v0.pl v0.kids)) (Int.toNat t5) (Sol.mk v1.inn (Pl.mk (w64 (t1 + 1)) v1.pl.B v1.pl.C v1.pl.D) v1.kids)) (ocons (setLen 1000 (l1000.set (Int.toNat t5) (Sol.mk ((Int.tmod t1 3) == 0) v0.pl v0.kids)) (Int.toNat t5) (Sol.mk v1.inn (Pl.mk (w64 (t1 + 1)) v1.pl.B v1.pl.C v1.pl.D) v1.kids)) (ocons (setLen 1000 (l1000.set (Int.toNat t5) (Sol.mk ((Int.tmod t1 3) == 0) v0.pl v0.kids)) (Int.toNat t5) (Sol.mk v1.inn (Pl.mk (w64 (t1 + 1)) v1.pl.B v1.pl.C v1.pl.D) v1.kids)) (ocons (inr hv2) (ocons (stA (eSol true) hv2 2 1 [i64 (w64 ((w64 (t1 + 1)) + 1))] (Sol.mk v2.inn (Pl.mk v2.pl.A (w64 ((w64 (t1 + 1)) + 1)) v2.pl.C v2.pl.D) v2.kids) rfl rfl) (ocons (setLen 1000 ((l1000.set (Int.toNat t5) (Sol.mk ((Int.tmod t1 3) == 0) v0.pl v0.kids)).set (Int.toNat t5) (Sol.mk v1.inn (Pl.mk (w64 (t1 + 1)) v1.pl.B v1.pl.C v1.pl.D) v1.kids)) (Int.toNat t5) (Sol.mk v2.inn (Pl.mk v2.pl.A (w64 ((w64 (t1 + 1)) + 1)) v2.pl.C v2.pl.D) v2.kids)) (ocons (setLen 1000 ((l1000.set (Int.toNat t5) (Sol.mk ((Int.tmod t1 3) == 0) v0.pl v0.kids)).set (Int.toNat t5) (Sol.mk v1.inn (Pl.mk (w64 (t1 + 1)) v1.pl.B v1.pl.C v1.pl.D) v1.kids)) (Int.toNat t5) (Sol.mk v2.inn (Pl.mk v2.pl.A (w64 ((w64 (t1 + 1)) + 1)) v2.pl.C v2.pl.D) v2.kids)) (ocons (setLen 1000 ((l1000.set (Int.toNat t5) (Sol.mk ((Int.tmod t1 3) == 0) v0.pl v0.kids)).set (Int.toNat t5) (Sol.mk v1.inn (Pl.mk (w64 (t1 + 1)) v1.pl.B v1.pl.C v1.pl.D) v1.kids)) (Int.toNat t5) (Sol.mk v2.inn (Pl.mk v2.pl.A (w64 ((w64 (t1 + 1)) + 1)) v2.pl.C v2.pl.D) v2.kids)) (ocons (setLen 1000 ((l1000.set (Int.toNat t5) (Sol.mk ((Int.tmod t1 3) == 0) v0.pl v0.kids)).set (Int.toNat t5) (Sol.mk v1.inn (Pl.mk (w64 (t1 + 1)) v1.pl.B v1.pl.C v1.pl.D) v1.kids)) (Int.toNat t5) (Sol.mk v2.inn (Pl.mk v2.pl.A (w64 ((w64 (t1 + 1)) + 1)) v2.pl.C v2.pl.D) v2.kids)) (ocons (setLen 1000 ((l1000.set (Int.toNat t5) (Sol.mk ((Int.tmod t1 3) == 0) v0.pl v0.kids)).set (Int.toNat t5) (Sol.mk v1.inn (Pl.mk (w64 (t1 + 1)) v1.pl.B v1.pl.C v1.pl.D) v1.kids)) (Int.toNat t5) (Sol.mk v2.inn (Pl.mk v2.pl.A (w64 ((w64 (t1 + 1)) + 1)) v2.pl.C v2.pl.D) v2.kids)) (ocons (inr hv3) (ocons (stA (eSol true) hv3 3 1 [i64 (w64 ((w64 ((w64 (t1 + 1)) + 1)) + 1))] (Sol.mk v3.inn (Pl.mk v3.pl.A v3.pl.B (w64 ((w64 ((w64 (t1 + 1)) + 1)) + 1)) v3.pl.D) v3.kids) rfl rfl) (ocons (setLen 1000 (((l1000.set (Int.toNat t5) (Sol.mk ((Int.tmod t1 3) == 0) v0.pl v0.kids)).set (Int.toNat t5) (Sol.mk v1.inn (Pl.mk (w64 (t1 + 1)) v1.pl.B v1.pl.C v1.pl.D) v1.kids)).set (Int.toNat t5) (Sol.mk v2.inn (Pl.mk v2.pl.A (w64 ((w64 (t1 + 1)) + 1)) v2.pl.C v2.pl.D) v2.kids)) (Int.toNat t5) (Sol.mk v3.inn (Pl.mk v3.pl.A v3.pl.B (w64 ((w64 ((w64 (t1 + 1)) + 1)) + 1)) v3.pl.D) v3.kids)) (ocons (setLen 1000 (((l1000.set (Int.toNat t5) (Sol.mk ((Int.tmod t1 3) == 0) v0.pl v0.kids)).set (Int.toNat t5) (Sol.mk v1.inn (Pl.mk (w64 (t1 + 1)) v1.pl.B v1.pl.C v1.pl.D) v1.kids)).set (Int.toNat t5) (Sol.mk v2.inn (Pl.mk v2.pl.A (w64 ((w64 (t1 + 1)) + 1)) v2.pl.C v2.pl.D) v2.kids)) (Int.toNat t5) (Sol.mk v3.inn (Pl.mk v3.pl.A v3.pl.B (w64 ((w64 ((w64 (t1 + 1)) + 1)) + 1)) v3.pl.D) v3.kids)) (ocons (setLen 1000 (((l1000.set (Int.toNat t5) (Sol.mk ((Int.tmod t1 3) == 0) v0.pl v0.kids)).set (Int.toNat t5) (Sol.mk v1.inn (Pl.mk (w64 (t1 + 1)) v1.pl.B v1.pl.C v1.pl.D) v1.kids)).set (Int.toNat t5) (Sol.mk v2.inn (Pl.mk v2.pl.A (w64 ((w64 (t1 + 1)) + 1)) v2.pl.C v2.pl.D) v2.kids)) (Int.toNat t5) (Sol.mk v3.inn (Pl.mk v3.pl.A v3.pl.B (w64 ((w64 ((w64 (t1 + 1)) + 1)) + 1)) v3.pl.D) v3.kids)) (ocons (setLen 1000 (((l1000.set (Int.toNat t5) (Sol.mk ((Int.tmod t1 3) == 0) v0.pl v0.kids)).set (Int.toNat t5) (Sol.mk v1.inn (Pl.mk (w64 (t1 + 1)) v1.pl.B v1.pl.C v1.pl.D) v1.kids)).set (Int.toNat t5) (Sol.mk v2.inn (Pl.mk v2.pl.A (w64 ((w64 (t1 + 1)) + 1)) v2.pl.C v2.pl.D) v2.kids)) (Int.toNat t5) (Sol.mk v3.inn (Pl.mk v3.pl.A v3.pl.B (w64 ((w64 ((w64 (t1 + 1)) + 1)) + 1)) v3.pl.D) v3.kids)) (ocons (setLen 1000 (((l1000.set (Int.toNat t5) (Sol.mk ((Int.tmod t1 3) == 0) v0.pl v0.kids)).set (Int.toNat t5) (Sol.mk v1.inn (Pl.mk (w64 (t1 + 1)) v1.pl.B v1.pl.C v1.pl.D) v1.kids)).set (Int.toNat t5) (Sol.mk v2.inn (Pl.mk v2.pl.A (w64 ((w64 (t1 + 1)) + 1)) v2.pl.C v2.pl.D) v2.kids)) (Int.toNat t5) (Sol.mk v3.inn (Pl.mk v3.pl.A v3.pl.B (w64 ((w64 ((w64 (t1 + 1)) + 1)) + 1)) v3.pl.D) v3.kids)) (ocons (setLen 1000 (((l1000.set (Int.toNat t5) (Sol.mk ((Int.tmod t1 3) == 0) v0.pl v0.kids)).set (Int.toNat t5) (Sol.mk v1.inn (Pl.mk (w64 (t1 + 1)) v1.pl.B v1.pl.C v1.pl.D) v1.kids)).set (Int.toNat t5) (Sol.mk v2.inn (Pl.mk v2.pl.A (w64 ((w64 (t1 + 1)) + 1)) v2.pl.C v2.pl.D) v2.kids)) (Int.toNat t5) (Sol.mk v3.inn (Pl.mk v3.pl.A v3.pl.B (w64 ((w64 ((w64 (t1 + 1)) + 1)) + 1)) v3.pl.D) v3.kids)) (ocons (inr hv4) (ocons (stA (eSol true) hv4 4 1 [i64 (w64 ((w64 ((w64 ((w64 (t1 + 1)) + 1)) + 1)) + 1))] (Sol.mk v4.inn (Pl.mk v4.pl.A v4.pl.B v4.pl.C (w64 ((w64 ((w64 ((w64 (t1 + 1)) + 1)) + 1)) + 1))) v4.kids) rfl rfl) (ocons (setLen 1000 ((((l1000.set (Int.toNat t5) (Sol.mk ((Int.tmod t1 3) == 0) v0.pl v0.kids)).set (Int.toNat t5) (Sol.mk v1.inn (Pl.mk (w64 (t1 + 1)) v1.pl.B v1.pl.C v1.pl.D) v1.kids)).set (Int.toNat t5) (Sol.mk v2.inn (Pl.mk v2.pl.A (w64 ((w64 (t1 + 1)) + 1)) v2.pl.C v2.pl.D) v2.kids)).set (Int.toNat t5) (Sol.mk v3.inn (Pl.mk v3.pl.A v3.pl.B (w64 ((w64 ((w64 (t1 + 1)) + 1)) + 1)) v3.pl.D) v3.kids)) (Int.toNat t5) (Sol.mk v4.inn (Pl.mk v4.pl.A v4.pl.B v4.pl.C (w64 ((w64 ((w64 ((w64 (t1 + 1)) + 1)) + 1)) + 1))) v4.kids)) (ocons (setLen 1000 ((((l1000.set (Int.toNat t5) (Sol.mk ((Int.tmod t1 3) == 0) v0.pl v0.kids)).set (Int.toNat t5) (Sol.mk v1.inn (Pl.mk (w64 (t1 + 1)) v1.pl.B v1.pl.C v1.pl.D) v1.kids)).set (Int.toNat t5) (Sol.mk v2.inn (Pl.mk v2.pl.A (w64 ((w64 (t1 + 1)) + 1)) v2.pl.C v2.pl.D) v2.kids)).set (Int.toNat t5) (Sol.mk v3.inn (Pl.mk v3.pl.A v3.pl.B (w64 ((w64 ((w64 (t1 + 1)) + 1)) + 1)) v3.pl.D) v3.kids)) (Int.toNat t5) (Sol.mk v4.inn (Pl.mk v4.pl.A v4.pl.B v4.pl.C (w64 ((w64 ((w64 ((w64 (t1 + 1)) + 1)) + 1)) + 1))) v4.kids)) (ocons (setLen 1000 ((((l1000.set (Int.toNat t5) (Sol.mk ((Int.tmod t1 3) == 0) v0.pl v0.kids)).set (Int.toNat t5) (Sol.mk v1.inn (Pl.mk (w64 (t1 + 1)) v1.pl.B v1.pl.C v1.pl.D) v1.kids)).set (Int.toNat t5) (Sol.mk v2.inn (Pl.mk v2.pl.A (w64 ((w64 (t1 + 1)) + 1)) v2.pl.C v2.pl.D) v2.kids)).set (Int.toNat t5) (Sol.mk v3.inn (Pl.mk v3.pl.A v3.pl.B (w64 ((w64 ((w64 (t1 + 1)) + 1)) + 1)) v3.pl.D) v3.kids)) (Int.toNat t5) (Sol.mk v4.inn (Pl.mk v4.pl.A v4.pl.B v4.pl.C (w64 ((w64 ((w64 ((w64 (t1 + 1)) + 1)) + 1)) + 1))) v4.kids)) (ocons (setLen 1000 ((((l1000.set (Int.toNat t5) (Sol.mk ((Int.tmod t1 3) == 0) v0.pl v0.kids)).set (Int.toNat t5) (Sol.mk v1.inn (Pl.mk (w64 (t1 + 1)) v1.pl.B v1.pl.C v1.pl.D) v1.kids)).set (Int.toNat t5) (Sol.mk v2.inn (Pl.mk v2.pl.A (w64 ((w64 (t1 + 1)) + 1)) v2.pl.C v2.pl.D) v2.kids)).set (Int.toNat t5) (Sol.mk v3.inn (Pl.mk v3.pl.A v3.pl.B (w64 ((w64 ((w64 (t1 + 1)) + 1)) + 1)) v3.pl.D) v3.kids)) (Int.toNat t5) (Sol.mk v4.inn (Pl.mk v4.pl.A v4.pl.B v4.pl.C (w64 ((w64 ((w64 ((w64 (t1 + 1)) + 1)) + 1)) + 1))) v4.kids)) (ocons (setLen 1000 ((((l1000.set (Int.toNat t5) (Sol.mk ((Int.tmod t1 3) == 0) v0.pl v0.kids)).set (Int.toNat t5) (Sol.mk v1.inn (Pl.mk (w64 (t1 + 1)) v1.pl.B v1.pl.C v1.pl.D) v1.kids)).set (Int.toNat t5) (Sol.mk v2.inn (Pl.mk v2.pl.A (w64 ((w64 (t1 + 1)) + 1)) v2.pl.C v2.pl.D) v2.kids)).set (Int.toNat t5) (Sol.mk v3.inn (Pl.mk v3.pl.A v3.pl.B (w64 ((w64 ((w64 (t1 + 1)) + 1)) + 1)) v3.pl.D) v3.kids)) (Int.toNat t5) (Sol.mk v4.inn (Pl.mk v4.pl.A v4.pl.B v4.pl.C (w64 ((w64 ((w64 ((w64 (t1 + 1)) + 1)) + 1)) + 1))) v4.kids)) (ocons (setLen 1000 ((((l1000.set (Int.toNat t5) (Sol.mk ((Int.tmod t1 3) == 0) v0.pl v0.kids)).set (Int.toNat t5) (Sol.mk v1.inn (Pl.mk (w64 (t1 + 1)) v1.pl.B v1.pl.C v1.pl.D) v1.kids)).set (Int.toNat t5) (Sol.mk v2.inn (Pl.mk v2.pl.A (w64 ((w64 (t1 + 1)) + 1)) v2.pl.C v2.pl.D) v2.kids)).set (Int.toNat t5) (Sol.mk v3.inn (Pl.mk v3.pl.A v3.pl.B (w64 ((w64 ((w64 (t1 + 1)) + 1)) + 1)) v3.pl.D) v3.kids)) (Int.toNat t5) (Sol.mk v4.inn (Pl.mk v4.pl.A v4.pl.B v4.pl.C (w64 ((w64 ((w64 ((w64 (t1 + 1)) + 1)) + 1)) + 1))) v4.kids)) (ocons (setLen 1000 ((((l1000.set (Int.toNat t5) (Sol.mk ((Int.tmod t1 3) == 0) v0.pl v0.kids)).set (Int.toNat t5) (Sol.mk v1.inn (Pl.mk (w64 (t1 + 1)) v1.pl.B v1.pl.C v1.pl.D) v1.kids)).set (Int.toNat t5) (Sol.mk v2.inn (Pl.mk v2.pl.A (w64 ((w64 (t1 + 1)) + 1)) v2.pl.C v2.pl.D) v2.kids)).set (Int.toNat t5) (Sol.mk v3.inn (Pl.mk v3.pl.A v3.pl.B (w64 ((w64 ((w64 (t1 + 1)) + 1)) + 1)) v3.pl.D) v3.kids)) (Int.toNat t5) (Sol.mk v4.inn (Pl.mk v4.pl.A v4.pl.B v4.pl.C (w64 ((w64 ((w64 ((w64 (t1 + 1)) + 1)) + 1)) + 1))) v4.kids)) onil))))))))))))))))))))))))))))))))))) (Tlaws_markSolidS_0 n self rec0 hself hrec0 (w64 ((w64 ((w64 ((w64 ((w64 (t1 + 1)) + 1)) + 1)) + 1)) + 1)) t5 (((((l1000.set (Int.toNat t5) (Sol.mk ((Int.tmod t1 3) == 0) v0.pl v0.kids)).set (Int.toNat t5) (Sol.mk v1.inn (Pl.mk (w64 (t1 + 1)) v1.pl.B v1.pl.C v1.pl.D) v1.kids)).set (Int.toNat t5) (Sol.mk v2.inn (Pl.mk v2.pl.A (w64 ((w64 (t1 + 1)) + 1)) v2.pl.C v2.pl.D) v2.kids)).set (Int.toNat t5) (Sol.mk v3.inn (Pl.mk v3.pl.A v3.pl.B (w64 ((w64 ((w64 (t1 + 1)) + 1)) + 1)) v3.pl.D) v3.kids)).set (Int.toNat t5) (Sol.mk v4.inn (Pl.mk v4.pl.A v4.pl.B v4.pl.C (w64 ((w64 ((w64 ((w64 (t1 + 1)) + 1)) + 1)) + 1))) v4.kids)) r h) (by kernel_rfl)
  · replace h := Option.some.inj h; subst h
    exact x_endR 6 [] onil (by kernel_rfl) (by decide) (cleanSol _) rfl rfl
def Dlaws_markSolidS_b (n : Nat) (self : (List Sol × Int) → Option (Int × List Sol)) (a : (List Sol × Int)) : Option (Int × List Sol) :=
  match a with
  | (a0, a1) => loopN (Dlaws_markSolidS_1 n self) n (a1, 0, a0)
theorem Tlaws_markSolidS_w {Y} (n : Nat) (self : (List Sol × Int) → Option (Int × List Sol)) (hself : ∀ (a : (List Sol × Int)) (r : (Int × List Sol)), self a = some r → TurnP Try.prog 39 (eSol true) a r) (a0 : List Sol) (a1 : Int) (r : (Int × List Sol)) (h : Dlaws_markSolidS_b n self (a0, a1) = some r) (hl : r.2.length = a0.length) : Big Try.prog H Y (.call 39 [.msl 1000 a0.length, i64 a1] (lk [(1000, ⟨true, 6, (eSol true).f a0⟩)]) (i64 r.1) (lk [(1000, ⟨true, 6, (eSol true).f r.2⟩)])) := by
  unfold Dlaws_markSolidS_b at h
  refine x_callR (fn := Try.f39) (c := bodyOf Try.f39) Try.func39 (by kernel_rfl) ⟨rfl, by show ((eSol true).f r.2).length = ((eSol true).f a0).length; rw [Enc.len, Enc.len, hl]⟩ ?_
  exact x_to 10 [] onil (Tlaws_markSolidS_1 n self hself n (a1, 0, a0) r h) (by kernel_rfl)
theorem Tlaws_markSolidS_len (_n : Nat) (self : (List Sol × Int) → Option (Int × List Sol)) : ∀ (m : Nat) (a : (Int × Int × List Sol)) (r : (Int × List Sol)), loopN (Dlaws_markSolidS_1 _n self) m a = some r → r.2.length = a.2.2.length := by
  refine loopN_ind (fun _rec0 hrec0 a r h => ?_)
  obtain ⟨_t1, t5, l⟩ := a
  unfold Dlaws_markSolidS_1 at h
  replace h : frk (decide (t5 < (l.length : Int))) _ _ = some r := h
  revert h
  cases decide (t5 < (l.length : Int)) <;> intro h
  · replace h := Option.some.inj h; subst h; rfl
  · rw [frk_tt] at h
    obtain ⟨_, _, h⟩ := bind_some h
    obtain ⟨_, _, h⟩ := bind_some h
    obtain ⟨_, _, h⟩ := bind_some h
    obtain ⟨_, _, h⟩ := bind_some h
    obtain ⟨_, _, h⟩ := bind_some h
    unfold Dlaws_markSolidS_0 at h
    obtain ⟨_, _, h⟩ := bind_some h
    obtain ⟨_, _, h⟩ := bind_some h
    have := hrec0 _ _ h
    simpa using this
theorem Tlaws_markSolidS_nil {Y} (a1 r : Int) (h : some a1 = some r) : Big Try.prog H Y (.call 39 [.nil, i64 a1] (lk []) (i64 r) (lk [])) := by
  refine x_call (fn := Try.f39) (c := bodyOf Try.f39) (bs0 := []) Try.func39 (by kernel_rfl) (by kernel_rfl) ?_
  replace h := Option.some.inj h; subst h
  exact x_end 26 [] [] onil onil (by kernel_rfl)
theorem Tlaws_markSolidS_t (hE : EqtOk Try.prog H) (hM : Try.prog.follows .mixedOrders = true) (n : Nat) : ∀ (m : Nat) (a : (List Sol × Int)) (r : (Int × List Sol)), loopN (Dlaws_markSolidS_b n) m a = some r → TurnP Try.prog 39 (eSol true) a r := by
  refine loopN_ind (fun self hs a r h => ?_)
  obtain ⟨a0, a1⟩ := a
  have hl : r.2.length = a0.length := Tlaws_markSolidS_len n self n _ _ h
  exact turnP_of hE hM (e := (eSol true)) hl (Tlaws_markSolidS_w n self hs a0 a1 r h hl) (fun h0 => by
    subst h0
    cases n with
    | zero => cases h
    | succ n => replace h : some (a1, []) = some r := h; exact Tlaws_markSolidS_nil a1 r.1 (by rw [← Option.some.inj h])) nLk (by decide)
def Dlaws_markSolidS (n : Nat) (a0 : List Sol) (a1 : Int) : Option (Int × List Sol) := loopN (Dlaws_markSolidS_b n) n (a0, a1)
theorem Tlaws_markSolid {T T' : AV} {kv rv : Value} {pre : List Value} (ht : TurnOk Try.prog 39 (fun u => #[u, kv]) T rv T') (hp : pre.length = 5) : TurnOk Try.prog 20 (fun u => #[.agg (pre ++ [u]).toArray, kv]) T rv T' :=
  turn_wrap (tS := 33) (tL := 31) (i0 := 0) (i1 := 1) (i2 := 2) (p0 := Code.opsOf (cp [0] (bodyOf Try.f20))) (p1 := Code.opsOf (cp [1, 0] (bodyOf Try.f20))) (p2 := Code.opsOf (cp [1, 1, 0] (bodyOf Try.f20))) (k0 := .int .i64 0) (off := 5) (size := 1) (gc := bodyOf Try.f39) Try.func20 (by kernel_rfl) (by kernel_rfl) (by kernel_rfl) Try.func39 (by kernel_rfl) (by kernel_rfl) (by kernel_rfl) (by kernel_rfl) (by kernel_rfl) (isOp_of (by kernel_rfl)) (isOp_of (by kernel_rfl)) (isOp_of (by kernel_rfl)) (isOp_of (by kernel_rfl)) (isOp_of (by kernel_rfl)) (calleeAt_of (by kernel_rfl)) (isOp_of (by kernel_rfl)) (isOp_of (by kernel_rfl)) (isOp_of (by kernel_rfl)) (by kernel_rfl) (by kernel_rfl) hp ht
/-! laws.heldSolidS -/
def Dlaws_heldSolidS_0 (_n : Nat) (self : ((List Sol) × Int) → Option Int) (t0 : List Sol) (rec0 : (Int × Int) → Option Int) (a : (Int × Int)) : Option Int :=
  match a with
  | (t1, t5) => frk (decide (t5 < (t0.length : Int))) ((lget t0 t5).bind fun v0 => frk (!(v0.inn == ((Int.tmod t1 3) == 0))) (some (-1)) ((lget t0 t5).bind fun v1 => frk (v1.pl.A != (w64 (t1 + 1))) (some (-1)) ((lget t0 t5).bind fun v2 => frk (v2.pl.B != (w64 ((w64 (t1 + 1)) + 1))) (some (-1)) ((lget t0 t5).bind fun v3 => frk (v3.pl.C != (w64 ((w64 ((w64 (t1 + 1)) + 1)) + 1))) (some (-1)) ((lget t0 t5).bind fun v4 => frk (v4.pl.D != (w64 ((w64 ((w64 ((w64 (t1 + 1)) + 1)) + 1)) + 1))) (some (-1)) ((lget t0 t5).bind fun v5 => (self (v5.kids, w64 ((w64 ((w64 ((w64 ((w64 (t1 + 1)) + 1)) + 1)) + 1)) + 1))).bind fun v6 => frk (decide (v6 < 0)) (some (-1)) (rec0 (v6, w64 (t5 + 1))))))))) (some t1)
theorem Tlaws_heldSolidS_0 {Y} (n : Nat) (self : ((List Sol) × Int) → Option Int) (hself : ∀ (a : ((List Sol) × Int)) (r : Int), self a = some r → Big Try.prog H Y (.call 79 [.sl false 6 a.1.length ((eSol false).f a.1), i64 a.2] (lk []) (i64 r) (lk []))) (t0 : List Sol) : ∀ (m : Nat) (a : (Int × Int)) (r : Int), loopN (Dlaws_heldSolidS_0 n self t0) m a = some r → Wk Try.prog H Y 79 [.code (cp [1, 0, 1, 0] (bodyOf Try.f79)), .blk 0, .code (cp [1, 1] (bodyOf Try.f79))] (FinX Try.prog Try.f79 [] (i64 r) []) ⟨[(0, .sl false 6 t0.length ((eSol false).f t0)), (1, i64 a.1), (5, i64 a.2)], []⟩ := by
  refine loopN_ind (fun _rec0 hrec0 a r h => ?_)
  obtain ⟨t1, t5⟩ := a
  unfold Dlaws_heldSolidS_0 at h
  refine x_frk 9 [] onil h (by kernel_rfl) (fun h => ?_) (fun h => ?_)
  · obtain ⟨v0, hv0, h⟩ := bind_some h
    refine x_frk 16 [(2, .val (.cptr ((eSol false).c v0 ++ (eSol false).f ((t0).drop (Int.toNat t5 + 1)))))] (ocons (ix (eSol false) hv0) onil) h (by kernel_rfl) (fun h => ?_) (fun h => ?_)
    · replace h := Option.some.inj h; subst h
      exact x_end 4 [] [] onil onil (by kernel_rfl)
    · obtain ⟨v1, hv1, h⟩ := bind_some h
      refine x_frk 19 [(5, .val (.cptr ((eSol false).c v1 ++ (eSol false).f ((t0).drop (Int.toNat t5 + 1)))))] (ocons (ix (eSol false) hv1) onil) h (by kernel_rfl) (fun h => ?_) (fun h => ?_)
      · replace h := Option.some.inj h; subst h
        exact x_end 4 [] [] onil onil (by kernel_rfl)
      · obtain ⟨v2, hv2, h⟩ := bind_some h
        refine x_frk 19 [(5, .val (.cptr ((eSol false).c v2 ++ (eSol false).f ((t0).drop (Int.toNat t5 + 1)))))] (ocons (ix (eSol false) hv2) onil) h (by kernel_rfl) (fun h => ?_) (fun h => ?_)
        · replace h := Option.some.inj h; subst h
          exact x_end 4 [] [] onil onil (by kernel_rfl)
        · obtain ⟨v3, hv3, h⟩ := bind_some h
          refine x_frk 19 [(5, .val (.cptr ((eSol false).c v3 ++ (eSol false).f ((t0).drop (Int.toNat t5 + 1)))))] (ocons (ix (eSol false) hv3) onil) h (by kernel_rfl) (fun h => ?_) (fun h => ?_)
          · replace h := Option.some.inj h; subst h
            exact x_end 4 [] [] onil onil (by kernel_rfl)
          · obtain ⟨v4, hv4, h⟩ := bind_some h
            refine x_frk 19 [(5, .val (.cptr ((eSol false).c v4 ++ (eSol false).f ((t0).drop (Int.toNat t5 + 1)))))] (ocons (ix (eSol false) hv4) onil) h (by kernel_rfl) (fun h => ?_) (fun h => ?_)
            · replace h := Option.some.inj h; subst h
              exact x_end 4 [] [] onil onil (by kernel_rfl)
            · obtain ⟨v5, hv5, h⟩ := bind_some h
              obtain ⟨v6, hv6, h⟩ := bind_some h
              refine x_frk 23 [(5, .val (.cptr ((eSol false).c v5 ++ (eSol false).f ((t0).drop (Int.toNat t5 + 1))))), (3, .call [] [] (i64 v6) [])] (ocons (ix (eSol false) hv5) (ocons (hself (v5.kids, w64 ((w64 ((w64 ((w64 ((w64 (t1 + 1)) + 1)) + 1)) + 1)) + 1)) _ hv6) onil)) h (by kernel_rfl) (fun h => ?_) (fun h => ?_)
              · replace h := Option.some.inj h; subst h
                exact x_end 4 [] [] onil onil (by kernel_rfl)
              · exact x_to 8 [] onil (hrec0 (v6, w64 (t5 + 1)) r h) (by kernel_rfl)
  · replace h := Option.some.inj h; subst h
    exact x_end 6 [] [] onil onil (by kernel_rfl)
def Dlaws_heldSolidS_b (n : Nat) (self : ((List Sol) × Int) → Option Int) (a : ((List Sol) × Int)) : Option Int :=
  match a with
  | (a0, a1) => loopN (Dlaws_heldSolidS_0 n self a0) n (a1, 0)
def Dlaws_heldSolidS (n : Nat) (a0 : (List Sol)) (a1 : Int) : Option Int := loopN (Dlaws_heldSolidS_b n) n (a0, a1)
theorem Tlaws_heldSolidS_b {Y} (n : Nat) : ∀ (m : Nat) (a : ((List Sol) × Int)) (r : Int), loopN (Dlaws_heldSolidS_b n) m a = some r → ∀ (_ : Unit), Big Try.prog H Y (.call 79 [.sl false 6 a.1.length ((eSol false).f a.1), i64 a.2] (lk []) (i64 r) (lk [])) := by
  refine loopN_ind (fun self hs a r h => ?_)
  have hself : ∀ (a : ((List Sol) × Int)) (r : Int), self a = some r → Big Try.prog H Y (.call 79 [.sl false 6 a.1.length ((eSol false).f a.1), i64 a.2] (lk []) (i64 r) (lk [])) := fun a r h => hs a r h ()
  intro _
  obtain ⟨a0, a1⟩ := a
  unfold Dlaws_heldSolidS_b at h
  refine x_call (fn := Try.f79) (c := bodyOf Try.f79) (bs0 := []) Try.func79 (by kernel_rfl) (by kernel_rfl) ?_
  exact x_to 10 [] onil (Tlaws_heldSolidS_0 n self hself a0 n (a1, 0) r h) (by kernel_rfl)
theorem Tlaws_heldSolidS {Y} (n : Nat) (a0 : (List Sol)) (a1 : Int) (r : Int) (h : Dlaws_heldSolidS n a0 a1 = some r) : Big Try.prog H Y (.call 79 [.sl false 6 a0.length ((eSol false).f a0), i64 a1] (lk []) (i64 r) (lk [])) := Tlaws_heldSolidS_b n n (a0, a1) r h ()
/-! laws.heldSolid -/
def Dlaws_heldSolid (n : Nat) (a0 : Sol) (a1 : Int) : Option Int :=
  (Dlaws_heldSolidS n a0.kids a1).bind fun v0 => frk (decide (v0 < 0)) (some (-1)) (some v0)
theorem Tlaws_heldSolid {Y} (n : Nat) (a0 : Sol) (a1 : Int) (r : Int) (h : Dlaws_heldSolid n a0 a1 = some r) : Big Try.prog H Y (.call 25 [.agg [bl a0.inn, i64 a0.pl.A, i64 a0.pl.B, i64 a0.pl.C, i64 a0.pl.D, .sl false 6 a0.kids.length ((eSol false).f a0.kids)], i64 a1] (lk []) (i64 r) (lk [])) := by
  unfold Dlaws_heldSolid at h
  refine x_call (fn := Try.f25) (c := bodyOf Try.f25) (bs0 := []) Try.func25 (by kernel_rfl) (by kernel_rfl) ?_
  obtain ⟨v0, hv0, h⟩ := bind_some h
  refine x_frk 19 [(5, .call [] [] (i64 v0) [])] (ocons (Tlaws_heldSolidS (Y := Y) n a0.kids a1 _ hv0) onil) h (by kernel_rfl) (fun h => ?_) (fun h => ?_)
  · replace h := Option.some.inj h; subst h
    exact x_end 4 [] [] onil onil (by kernel_rfl)
  · replace h := Option.some.inj h; subst h
    exact x_end 6 [] [] onil onil (by kernel_rfl)
/-! laws.FnExactParseSolid -/
def Dlaws_FnExactParseSolid_2 (n : Nat) (t7 : Int) (t57 : Bool) (b5_0 : Bool) (b5_1 : Int) (b5_2 : Int) (b5_3 : Int) (b5_4 : Int) (b5_5 : List Sol) : Option Bool :=
  frk t57 (some false) ((Dlaws_heldSolid n (Sol.mk b5_0 (Pl.mk b5_1 b5_2 b5_3 b5_4) b5_5) 1).bind fun v7 => frk (decide (v7 < 0)) (some false) (frk (v7 != t7) (some false) (some true)))
theorem Tlaws_FnExactParseSolid_2  (_hE : EqtOk Try.prog H) (_hM : Try.prog.follows .mixedOrders = true) (n : Nat) (t7 : Int) (t57 : Bool) (b5_0 : Bool) (b5_1 : Int) (b5_2 : Int) (b5_3 : Int) (b5_4 : Int) (b5_5 : List Sol) (r : Bool) (h : Dlaws_FnExactParseSolid_2 n t7 t57 b5_0 b5_1 b5_2 b5_3 b5_4 b5_5 = some r) : Wk Try.prog (HL []) (YL []) 6 [.code (cp [1, 1, 1, 1, 1, 1, 1, 1, 1, 1, 1, 1, 0, 1] (bodyOf Try.f6)), .code (cp [1, 1, 1, 1, 1, 1, 1, 1, 1, 1, 1, 1, 1] (bodyOf Try.f6))] (FinX Try.prog Try.f6 [] (bl r) []) ⟨[(5, .ptr 5 0), (7, i64 t7), (57, bl t57)], [(5, ⟨true, 0, [bl b5_0, i64 b5_1, i64 b5_2, i64 b5_3, i64 b5_4, .sl true 6 b5_5.length ((eSol true).f b5_5)]⟩)]⟩ := by
  unfold Dlaws_FnExactParseSolid_2 at h
  refine x_frk 0 [] onil h (by kernel_rfl) (fun h => ?_) (fun h => ?_)
  · replace h := Option.some.inj h; subst h
    exact x_end 4 [] [] onil onil (by kernel_rfl)
  · obtain ⟨v7, hv7, h⟩ := bind_some h
    refine x_frk 18 [(1, .rows [(eSol false).f b5_5]), (1, .call [] [] (i64 v7) [])] (ocons (Enc.share (eSol true) (eSol false) (sSol true) b5_5) (ocons (gv (l := []) (Tlaws_heldSolid n (Sol.mk b5_0 (Pl.mk b5_1 b5_2 b5_3 b5_4) b5_5) 1 _ hv7) (oCons (oSame _) (oCons (oSame _) oNil))) onil)) h (by kernel_rfl) (fun h => ?_) (fun h => ?_)
    · replace h := Option.some.inj h; subst h
      exact x_end 4 [] [] onil onil (by kernel_rfl)
    · refine x_frk 8 [] onil h (by kernel_rfl) (fun h => ?_) (fun h => ?_)
      · replace h := Option.some.inj h; subst h
        exact x_end 4 [] [] onil onil (by kernel_rfl)
      · replace h := Option.some.inj h; subst h
        exact x_end 5 [] [] onil onil (by kernel_rfl)
def Dlaws_FnExactParseSolid_1 (n : Nat) (t0 : ByteArray) (t4 : Int) (t7 : Int) (b3_0 : Bool) (b3_1 : Int) (b3_2 : Int) (b3_3 : Int) (b3_4 : Int) (b3_5 : List Sol) (b5_0 : Bool) (b5_1 : Int) (b5_2 : Int) (b5_3 : Int) (b5_4 : Int) (b5_5 : List Sol) : Option Bool :=
  (Dlaws_markSolidS n b5_5 t7).bind fun v3 => (Dlaws_heldSolid n (Sol.mk b5_0 (Pl.mk b5_1 b5_2 b5_3 b5_4) v3.2) 1).bind fun v4 => frk (decide (v4 < 0)) (some false) (frk (v4 != v3.1) (some false) ((Dimpl_ParseSolid n t0).bind fun v5 => (Dlaws_eqSolid n v5.1 (Sol.mk b3_0 (Pl.mk b3_1 b3_2 b3_3 b3_4) b3_5)).bind fun v6 => frk (!v6) (some false) (Dlaws_FnExactParseSolid_2 n v3.1 (v5.2 != t4) b5_0 b5_1 b5_2 b5_3 b5_4 v3.2)))
theorem Tlaws_FnExactParseSolid_1  (hE : EqtOk Try.prog H) (hM : Try.prog.follows .mixedOrders = true) (n : Nat) (t0 : ByteArray) (t4 : Int) (t7 : Int) (b3_0 : Bool) (b3_1 : Int) (b3_2 : Int) (b3_3 : Int) (b3_4 : Int) (b3_5 : List Sol) (b5_0 : Bool) (b5_1 : Int) (b5_2 : Int) (b5_3 : Int) (b5_4 : Int) (b5_5 : List Sol) (r : Bool) (h : Dlaws_FnExactParseSolid_1 n t0 t4 t7 b3_0 b3_1 b3_2 b3_3 b3_4 b3_5 b5_0 b5_1 b5_2 b5_3 b5_4 b5_5 = some r) : Wk Try.prog (HL []) (YL []) 6 [.code (cp [1, 1, 1, 1, 1, 1, 0] (bodyOf Try.f6)), .code (cp [1, 1, 1, 1, 1, 1, 1] (bodyOf Try.f6))] (FinX Try.prog Try.f6 [] (bl r) []) ⟨[(0, .lit (.string t0)), (3, .ptr 3 0), (4, i64 t4), (5, .ptr 5 0), (7, i64 t7)], [(3, ⟨true, 0, [bl b3_0, i64 b3_1, i64 b3_2, i64 b3_3, i64 b3_4, .sl true 6 b3_5.length ((eSol true).f b3_5)]⟩), (5, ⟨true, 0, [bl b5_0, i64 b5_1, i64 b5_2, i64 b5_3, i64 b5_4, .sl true 6 b5_5.length ((eSol true).f b5_5)]⟩)]⟩ := by
  unfold Dlaws_FnExactParseSolid_1 at h
  obtain ⟨v3, hv3, h⟩ := bind_some h
  obtain ⟨hlv3, htv3⟩ := Tlaws_markSolidS_t hE hM n _ _ _ hv3
  refine x_mark (tL := 33) (f := 20) (dl := 33) (dk := 34) (dr := 35) (da := 7) (b := 5) (xa := .tmp 5) (xk := .tmp 7) (pre := [.bool b5_0, .int .i64 b5_1, .int .i64 b5_2, .int .i64 b5_3, .int .i64 b5_4]) (T := .sl true 6 b5_5.length ((eSol true).f b5_5)) (T' := .sl true 6 v3.2.length ((eSol true).f v3.2)) (kv := .int .i64 t7) (rv := .int .i64 v3.1) rfl (fun _ _ _ h => h) (by kernel_rfl) (by kernel_rfl) (by kernel_rfl) (by simp [nlkLs, nlk, nlkL, nLk]) (by simp) rfl (Tlaws_markSolid htv3 (by rfl)) ?_
  obtain ⟨v4, hv4, h⟩ := bind_some h
  refine x_frk 17 [(1, .rows [(eSol false).f v3.2]), (1, .call [] [] (i64 v4) [])] (ocons (Enc.share (eSol true) (eSol false) (sSol true) v3.2) (ocons (gv (l := []) (Tlaws_heldSolid n (Sol.mk b5_0 (Pl.mk b5_1 b5_2 b5_3 b5_4) v3.2) 1 _ hv4) (oCons (oSame _) (oCons (oSame _) oNil))) onil)) h (by kernel_rfl) (fun h => ?_) (fun h => ?_)
  · replace h := Option.some.inj h; subst h
    exact x_end 4 [] [] onil onil (by kernel_rfl)
  · refine x_frk 8 [] onil h (by kernel_rfl) (fun h => ?_) (fun h => ?_)
    · replace h := Option.some.inj h; subst h
      exact x_end 4 [] [] onil onil (by kernel_rfl)
    · obtain ⟨v5, hv5, h⟩ := bind_some h
      obtain ⟨v6, hv6, h⟩ := bind_some h
      refine x_frk 20 [(1, .call [] [] (.tup [.agg [bl v5.1.inn, i64 v5.1.pl.A, i64 v5.1.pl.B, i64 v5.1.pl.C, i64 v5.1.pl.D, .sl true 6 v5.1.kids.length ((eSol true).f v5.1.kids)], i64 v5.2]) []), (6, .rows [(eSol false).f v5.1.kids]), (0, .rows [(eSol false).f b3_5]), (0, .call [] [] (bl v6) [])] (ocons (gv (l := []) (Timpl_ParseSolid n t0 _ hv5) (oCons (oSame _) oNil)) (ocons (Enc.share (eSol true) (eSol false) (sSol true) v5.1.kids) (ocons (Enc.share (eSol true) (eSol false) (sSol true) b3_5) (ocons (gv (l := []) (Tlaws_eqSolid n v5.1 (Sol.mk b3_0 (Pl.mk b3_1 b3_2 b3_3 b3_4) b3_5) _ hv6) (oCons (oSame _) (oCons (oSame _) oNil))) onil)))) h (by kernel_rfl) (fun h => ?_) (fun h => ?_)
      · replace h := Option.some.inj h; subst h
        exact x_end 10 [] [] onil onil (by kernel_rfl)
      · exact x_to 5 [] onil (Tlaws_FnExactParseSolid_2 hE hM n v3.1 (v5.2 != t4) b5_0 b5_1 b5_2 b5_3 b5_4 v3.2 r h) (by kernel_rfl)
def Dlaws_FnExactParseSolid_0 (n : Nat) (t0 : ByteArray) (t4 : Int) (t32 : Bool) (b3_0 : Bool) (b3_1 : Int) (b3_2 : Int) (b3_3 : Int) (b3_4 : Int) (b3_5 : List Sol) (b5_0 : Bool) (b5_1 : Int) (b5_2 : Int) (b5_3 : Int) (b5_4 : Int) (b5_5 : List Sol) : Option Bool :=
  frk t32 (some false) (Dlaws_FnExactParseSolid_1 n t0 t4 1 b3_0 b3_1 b3_2 b3_3 b3_4 b3_5 b5_0 b5_1 b5_2 b5_3 b5_4 b5_5)
theorem Tlaws_FnExactParseSolid_0  (hE : EqtOk Try.prog H) (hM : Try.prog.follows .mixedOrders = true) (n : Nat) (t0 : ByteArray) (t4 : Int) (t32 : Bool) (b3_0 : Bool) (b3_1 : Int) (b3_2 : Int) (b3_3 : Int) (b3_4 : Int) (b3_5 : List Sol) (b5_0 : Bool) (b5_1 : Int) (b5_2 : Int) (b5_3 : Int) (b5_4 : Int) (b5_5 : List Sol) (r : Bool) (h : Dlaws_FnExactParseSolid_0 n t0 t4 t32 b3_0 b3_1 b3_2 b3_3 b3_4 b3_5 b5_0 b5_1 b5_2 b5_3 b5_4 b5_5 = some r) : Wk Try.prog (HL []) (YL []) 6 [.code (cp [1, 1, 1, 1, 0, 1] (bodyOf Try.f6)), .code (cp [1, 1, 1, 1, 1] (bodyOf Try.f6))] (FinX Try.prog Try.f6 [] (bl r) []) ⟨[(0, .lit (.string t0)), (3, .ptr 3 0), (4, i64 t4), (5, .ptr 5 0), (32, bl t32)], [(3, ⟨true, 0, [bl b3_0, i64 b3_1, i64 b3_2, i64 b3_3, i64 b3_4, .sl true 6 b3_5.length ((eSol true).f b3_5)]⟩), (5, ⟨true, 0, [bl b5_0, i64 b5_1, i64 b5_2, i64 b5_3, i64 b5_4, .sl true 6 b5_5.length ((eSol true).f b5_5)]⟩)]⟩ := by
  unfold Dlaws_FnExactParseSolid_0 at h
  refine x_frk 0 [] onil h (by kernel_rfl) (fun h => ?_) (fun h => ?_)
  · replace h := Option.some.inj h; subst h
    exact x_end 4 [] [] onil onil (by kernel_rfl)
  · exact x_to 6 [] onil (Tlaws_FnExactParseSolid_1 hE hM n t0 t4 1 b3_0 b3_1 b3_2 b3_3 b3_4 b3_5 b5_0 b5_1 b5_2 b5_3 b5_4 b5_5 r h) (by kernel_rfl)
def Dlaws_FnExactParseSolid (n : Nat) (a0 : ByteArray) : Option Bool :=
  frk (decide ((a0.size : Int) > 1048576)) (some true) ((Dspec_ParseSolid n a0).bind fun v0 => (Dimpl_ParseSolid n a0).bind fun v1 => (Dlaws_eqSolid n v1.1 v0.1).bind fun v2 => frk (!v2) (some false) (Dlaws_FnExactParseSolid_0 n a0 v0.2 (v1.2 != v0.2) v0.1.inn v0.1.pl.A v0.1.pl.B v0.1.pl.C v0.1.pl.D v0.1.kids v1.1.inn v1.1.pl.A v1.1.pl.B v1.1.pl.C v1.1.pl.D v1.1.kids))
theorem Tlaws_FnExactParseSolid  (hE : EqtOk Try.prog H) (hM : Try.prog.follows .mixedOrders = true) (n : Nat) (a0 : ByteArray) (r : Bool) (h : Dlaws_FnExactParseSolid n a0 = some r) : Big Try.prog (HL []) (YL []) (.call 6 [.lit (.string a0)] (lk []) (bl r) (lk [])) := by
  unfold Dlaws_FnExactParseSolid at h
  refine x_call (fn := Try.f6) (c := bodyOf Try.f6) (bs0 := []) Try.func6 (by kernel_rfl) (by kernel_rfl) ?_
  refine x_frk 11 [] onil h (by kernel_rfl) (fun h => ?_) (fun h => ?_)
  · replace h := Option.some.inj h; subst h
    exact x_end 4 [] [] onil onil (by kernel_rfl)
  · obtain ⟨v0, hv0, h⟩ := bind_some h
    obtain ⟨v1, hv1, h⟩ := bind_some h
    obtain ⟨v2, hv2, h⟩ := bind_some h
    refine x_frk 31 [(1, .call [] [] (.tup [.agg [bl v0.1.inn, i64 v0.1.pl.A, i64 v0.1.pl.B, i64 v0.1.pl.C, i64 v0.1.pl.D, .sl true 6 v0.1.kids.length ((eSol true).f v0.1.kids)], i64 v0.2]) []), (7, .call [] [] (.tup [.agg [bl v1.1.inn, i64 v1.1.pl.A, i64 v1.1.pl.B, i64 v1.1.pl.C, i64 v1.1.pl.D, .sl true 6 v1.1.kids.length ((eSol true).f v1.1.kids)], i64 v1.2]) []), (6, .rows [(eSol false).f v1.1.kids]), (0, .rows [(eSol false).f v0.1.kids]), (0, .call [] [] (bl v2) [])] (ocons (gv (l := []) (Tspec_ParseSolid n a0 _ hv0) (oCons (oSame _) oNil)) (ocons (gv (l := []) (Timpl_ParseSolid n a0 _ hv1) (oCons (oSame _) oNil)) (ocons (Enc.share (eSol true) (eSol false) (sSol true) v1.1.kids) (ocons (Enc.share (eSol true) (eSol false) (sSol true) v0.1.kids) (ocons (gv (l := []) (Tlaws_eqSolid n v1.1 v0.1 _ hv2) (oCons (oSame _) (oCons (oSame _) oNil))) onil))))) h (by kernel_rfl) (fun h => ?_) (fun h => ?_)
    · replace h := Option.some.inj h; subst h
      exact x_end 10 [] [] onil onil (by kernel_rfl)
    · exact x_to 5 [] onil (Tlaws_FnExactParseSolid_0 hE hM n a0 v0.2 (v1.2 != v0.2) v0.1.inn v0.1.pl.A v0.1.pl.B v0.1.pl.C v0.1.pl.D v0.1.kids v1.1.inn v1.1.pl.A v1.1.pl.B v1.1.pl.C v1.1.pl.D v1.1.kids r h) (by kernel_rfl)
end Evl.T
