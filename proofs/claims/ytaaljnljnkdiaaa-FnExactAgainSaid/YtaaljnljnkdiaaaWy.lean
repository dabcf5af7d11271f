/- Walks. No condition. -/
import Derived.Test.YtaaljnljnkdiaaaJm
import Derived.Test.YtaaljnljnkdiaaaChecked
namespace Evl.T
open Go Evl Go.Proofs
set_option maxRecDepth 100000
def HF : FuncId → Bool := fun f => [3, 10, 34].contains f
def HB : Hints := { mv := hasP [(6, 15), (6, 44), (8, 33), (20, 41), (22, 42), (23, 23), (23, 26), (23, 27), (28, 47), (29, 18), (30, 35), (30, 38), (31, 22), (31, 25), (31, 26), (53, 31), (55, 8), (55, 9), (61, 49), (61, 50), (63, 8), (63, 9), (81, 89), (82, 24), (82, 25), (84, 85), (84, 86), (85, 45), (85, 46)], own := hasP [(55, 1), (55, 2), (63, 1), (63, 2), (82, 1), (82, 2), (85, 2), (85, 3)], mt := hasP [(53, 0), (56, 0), (61, 0), (81, 0), (84, 0), (85, 0), (108, 0)], eqt := fun t => [28, 109].contains t }
def H : Hints := withMarks HB Try.prog HF fun _ _ => True
def HL (l : List (Value × AV)) : Hints := HLg HB Try.prog HF l
def YL (l : List (Value × AV)) : FuncId → List AV → (Nat → Option Box) → AV → (Nat → Option Box) → Prop := YLg H Try.prog l
theorem gv {l : List (Value × AV)} {f : FuncId} {args args' : List AV} {bx bx' : Nat → Option Box} {r : AV} (h : Big Try.prog H (fun _ _ _ _ _ => False) (.call f args' bx r bx')) (ho : OldAs l args args') : Big Try.prog (HL l) (YL l) (.call f args bx r bx') := gvL h ho
/-! laws.szSolidS -/
def Dlaws_szSolidS_in_0 (_n : Nat) (self : (Sol × Int) → Option Int) (t0 : List Sol) (rec0 : (Int × Int) → Option Int) (a : (Int × Int)) : Option Int :=
  match a with
  | (t1, t5) => frk (decide (t5 < (t0.length : Int))) ((lget t0 t5).bind fun v0 => (self (v0, t1)).bind fun v1 => frk (decide (v1 < 0)) (some (-1)) (rec0 (v1, w64 (t5 + 1)))) (some t1)
theorem Tlaws_szSolidS_in_0 {Y} (n : Nat) (self : (Sol × Int) → Option Int) (hself : ∀ (a : (Sol × Int)) (r : Int), self a = some r → Big Try.prog H Y (.call 5 [.agg [bl a.1.inn, i64 a.1.pl.A, i64 a.1.pl.B, i64 a.1.pl.C, i64 a.1.pl.D, .sl false 6 a.1.kids.length ((eSol false).f a.1.kids)], i64 a.2] (lk []) (i64 r) (lk []))) (t0 : List Sol) : ∀ (m : Nat) (a : (Int × Int)) (r : Int), loopN (Dlaws_szSolidS_in_0 n self t0) m a = some r → Wk Try.prog H Y 17 [.code (cp [1, 1, 1, 0, 1, 0] (bodyOf Try.f17)), .blk 0, .code (cp [1, 1, 1, 1] (bodyOf Try.f17))] (FinX Try.prog Try.f17 [] (i64 r) []) ⟨[(0, .sl false 6 t0.length ((eSol false).f t0)), (1, i64 a.1), (5, i64 a.2)], []⟩ := by
  refine loopN_ind (fun _rec0 hrec0 a r h => ?_)
  obtain ⟨t1, t5⟩ := a
  unfold Dlaws_szSolidS_in_0 at h
  refine x_frk 9 [] onil h (by kernel_rfl) (fun h => ?_) (fun h => ?_)
  · obtain ⟨v0, hv0, h⟩ := bind_some h
    obtain ⟨v1, hv1, h⟩ := bind_some h
    refine x_frk 18 [(2, .val (.cptr ((eSol false).c v0 ++ (eSol false).f ((t0).drop (Int.toNat t5 + 1))))), (2, .call [] [] (i64 v1) [])] (ocons (ix (eSol false) hv0) (ocons (hself (v0, t1) _ hv1) onil)) h (by kernel_rfl) (fun h => ?_) (fun h => ?_)
    · replace h := Option.some.inj h; subst h
      exact x_end 4 [] [] onil onil (by kernel_rfl)
    · exact x_to 8 [] onil (hrec0 (v1, w64 (t5 + 1)) r h) (by kernel_rfl)
  · replace h := Option.some.inj h; subst h
    exact x_end 6 [] [] onil onil (by kernel_rfl)
def Dlaws_szSolidS_in (n : Nat) (self : (Sol × Int) → Option Int) (a0 : (List Sol)) (a1 : Int) : Option Int :=
  frk (decide ((w64 (a1 - (a0.length : Int))) < 0)) (some (-1)) (loopN (Dlaws_szSolidS_in_0 n self a0) n (w64 (a1 - (a0.length : Int)), 0))
theorem Tlaws_szSolidS_in {Y} (n : Nat) (self : (Sol × Int) → Option Int) (hself : ∀ (a : (Sol × Int)) (r : Int), self a = some r → Big Try.prog H Y (.call 5 [.agg [bl a.1.inn, i64 a.1.pl.A, i64 a.1.pl.B, i64 a.1.pl.C, i64 a.1.pl.D, .sl false 6 a.1.kids.length ((eSol false).f a.1.kids)], i64 a.2] (lk []) (i64 r) (lk []))) (a0 : (List Sol)) (a1 r : Int) (h : Dlaws_szSolidS_in n self a0 a1 = some r) : Big Try.prog H Y (.call 17 [.sl false 6 a0.length ((eSol false).f a0), i64 a1] (lk []) (i64 r) (lk [])) := by
  unfold Dlaws_szSolidS_in at h
  refine x_call (fn := Try.f17) (c := bodyOf Try.f17) (bs0 := []) Try.func17 (by kernel_rfl) (by kernel_rfl) ?_
  refine x_frk 18 [] onil h (by kernel_rfl) (fun h => ?_) (fun h => ?_)
  · replace h := Option.some.inj h; subst h
    exact x_end 4 [] [] onil onil (by kernel_rfl)
  · exact x_to 7 [] onil (Tlaws_szSolidS_in_0 n self hself a0 n (w64 (a1 - (a0.length : Int)), 0) r h) (by kernel_rfl)
/-! laws.szSolid -/
def Dlaws_szSolid_b (n : Nat) (self : (Sol × Int) → Option Int) (a : (Sol × Int)) : Option Int :=
  match a with
  | (a0, a1) => (Dlaws_szSolidS_in n self a0.kids a1).bind fun v0 => frk (decide (v0 < 0)) (some (-1)) (some v0)
def Dlaws_szSolid (n : Nat) (a0 : Sol) (a1 : Int) : Option Int := loopN (Dlaws_szSolid_b n) n (a0, a1)
theorem Tlaws_szSolid_b {Y} (n : Nat) : ∀ (m : Nat) (a : (Sol × Int)) (r : Int), loopN (Dlaws_szSolid_b n) m a = some r → ∀ (_ : Unit), Big Try.prog H Y (.call 5 [.agg [bl a.1.inn, i64 a.1.pl.A, i64 a.1.pl.B, i64 a.1.pl.C, i64 a.1.pl.D, .sl false 6 a.1.kids.length ((eSol false).f a.1.kids)], i64 a.2] (lk []) (i64 r) (lk [])) := by
  refine loopN_ind (fun self hs a r h => ?_)
  have hself : ∀ (a : (Sol × Int)) (r : Int), self a = some r → Big Try.prog H Y (.call 5 [.agg [bl a.1.inn, i64 a.1.pl.A, i64 a.1.pl.B, i64 a.1.pl.C, i64 a.1.pl.D, .sl false 6 a.1.kids.length ((eSol false).f a.1.kids)], i64 a.2] (lk []) (i64 r) (lk [])) := fun a r h => hs a r h ()
  intro _
  obtain ⟨a0, a1⟩ := a
  unfold Dlaws_szSolid_b at h
  refine x_call (fn := Try.f5) (c := bodyOf Try.f5) (bs0 := []) Try.func5 (by kernel_rfl) (by kernel_rfl) ?_
  obtain ⟨v0, hv0, h⟩ := bind_some h
  refine x_frk 19 [(5, .call [] [] (i64 v0) [])] (ocons (Tlaws_szSolidS_in (Y := Y) n self hself a0.kids a1 _ hv0) onil) h (by kernel_rfl) (fun h => ?_) (fun h => ?_)
  · replace h := Option.some.inj h; subst h
    exact x_end 4 [] [] onil onil (by kernel_rfl)
  · replace h := Option.some.inj h; subst h
    exact x_end 6 [] [] onil onil (by kernel_rfl)
theorem Tlaws_szSolid {Y} (n : Nat) (a0 : Sol) (a1 r : Int) (h : Dlaws_szSolid n a0 a1 = some r) : Big Try.prog H Y (.call 5 [.agg [bl a0.inn, i64 a0.pl.A, i64 a0.pl.B, i64 a0.pl.C, i64 a0.pl.D, .sl false 6 a0.kids.length ((eSol false).f a0.kids)], i64 a1] (lk []) (i64 r) (lk [])) := Tlaws_szSolid_b n n (a0, a1) r h ()
/-! laws.toPlane -/
def Dlaws_toPlane (a0 : Pl) : Option Pl :=
  some a0
theorem Tlaws_toPlane {Y} (a0 : Pl) (r : Pl) (h : Dlaws_toPlane a0 = some r) : Big Try.prog H Y (.call 24 [.agg [i64 a0.A, i64 a0.B, i64 a0.C, i64 a0.D]] (lk []) (.agg [i64 r.A, i64 r.B, i64 r.C, i64 r.D]) (lk [])) := by
  unfold Dlaws_toPlane at h
  refine x_call (fn := Try.f24) (c := bodyOf Try.f24) (bs0 := []) Try.func24 (by kernel_rfl) (by kernel_rfl) ?_
  replace h := Option.some.inj h; subst h
  exact x_end 42 [] [] onil onil (by kernel_rfl)
/-! laws.toSolidS -/
def Dlaws_toSolidS_in_0 (_n : Nat) (self : Sol → Option Sol) (t0 : List Sol) (rec0 : (Int × List Sol) → Option (List Sol)) (a : (Int × List Sol)) : Option (List Sol) :=
  match a with
  | (t4, l7) => frk (decide (t4 < (t0.length : Int))) ((lget t0 t4).bind fun v1 => (self v1).bind fun v2 => (lget l7 t4).bind fun _v3 => rec0 (w64 (t4 + 1), (l7.set (Int.toNat t4) v2))) (some l7)
theorem Tlaws_toSolidS_in_0 {Y} (n : Nat) (self : Sol → Option Sol) (hself : ∀ (a : Sol) (r : Sol), self a = some r → Big Try.prog H Y (.call 7 [.agg [bl a.inn, i64 a.pl.A, i64 a.pl.B, i64 a.pl.C, i64 a.pl.D, .sl false 6 a.kids.length ((eSol false).f a.kids)]] (lk []) (.agg [bl r.inn, i64 r.pl.A, i64 r.pl.B, i64 r.pl.C, i64 r.pl.D, .sl true 6 r.kids.length ((eSol true).f r.kids)]) (lk []))) (t0 : List Sol) : ∀ (m : Nat) (a : (Int × List Sol)) (r : (List Sol)), loopN (Dlaws_toSolidS_in_0 n self t0) m a = some r → Wk Try.prog H Y 25 [.code (cp [1, 1, 0, 1, 0] (bodyOf Try.f25)), .blk 0, .code (cp [1, 1, 1] (bodyOf Try.f25))] (FinX Try.prog Try.f25 [] (.sl true 6 r.length ((eSol true).f r)) []) ⟨[(0, .sl false 6 t0.length ((eSol false).f t0)), (3, .msl 7 a.2.length), (4, i64 a.1)], [(7, ⟨true, 6, (eSol true).f a.2⟩)]⟩ := by
  refine loopN_ind (fun _rec0 hrec0 a r h => ?_)
  obtain ⟨t4, l7⟩ := a
  unfold Dlaws_toSolidS_in_0 at h
  refine x_frk 9 [] onil h (by kernel_rfl) (fun h => ?_) (fun h => ?_)
  · obtain ⟨v1, hv1, h⟩ := bind_some h
    obtain ⟨v2, hv2, h⟩ := bind_some h
    obtain ⟨_v3, hv3, h⟩ := bind_some h
    exact x_to 23 [(4, .val (.cptr ((eSol false).c v1 ++ (eSol false).f ((t0).drop (Int.toNat t4 + 1))))), (1, .call [] [] (.agg [bl v2.inn, i64 v2.pl.A, i64 v2.pl.B, i64 v2.pl.C, i64 v2.pl.D, .sl true 6 v2.kids.length ((eSol true).f v2.kids)]) []), (0, .unit), (0, .cells ((eSol true).f (l7.set (Int.toNat t4) v2))), (0, .fix 3 (.msl 7 (l7.set (Int.toNat t4) v2).length)), (0, .fix 14 (.msl 7 (l7.set (Int.toNat t4) v2).length))] (ocons (ix (eSol false) hv1) (ocons (hself v1 _ hv2) (ocons (inr hv3) (ocons (stA (eSol true) hv3 0 6 [bl v2.inn, i64 v2.pl.A, i64 v2.pl.B, i64 v2.pl.C, i64 v2.pl.D, .sl true 6 v2.kids.length ((eSol true).f v2.kids)] v2 rfl rfl) (ocons (setLen 7 l7 (Int.toNat t4) v2) (ocons (setLen 7 l7 (Int.toNat t4) v2) onil)))))) (hrec0 (w64 (t4 + 1), (l7.set (Int.toNat t4) v2)) r h) (by kernel_rfl)
  · replace h := Option.some.inj h; subst h
    exact x_end 6 [] [] onil (ocons (len_row (L := l7) (eSol true)) onil) (by kernel_rfl)
def Dlaws_toSolidS_in (n : Nat) (self : Sol → Option Sol) (a0 : (List Sol)) : Option (List Sol) :=
  chk (mkB (a0.length : Int) 64) (loopN (Dlaws_toSolidS_in_0 n self a0) n (0, (List.replicate (Int.toNat (a0.length : Int)) zSol)))
theorem Tlaws_toSolidS_in {Y} (n : Nat) (self : Sol → Option Sol) (hself : ∀ (a : Sol) (r : Sol), self a = some r → Big Try.prog H Y (.call 7 [.agg [bl a.inn, i64 a.pl.A, i64 a.pl.B, i64 a.pl.C, i64 a.pl.D, .sl false 6 a.kids.length ((eSol false).f a.kids)]] (lk []) (.agg [bl r.inn, i64 r.pl.A, i64 r.pl.B, i64 r.pl.C, i64 r.pl.D, .sl true 6 r.kids.length ((eSol true).f r.kids)]) (lk []))) (a0 : (List Sol)) (r : (List Sol)) (h : Dlaws_toSolidS_in n self a0 = some r) : Big Try.prog H Y (.call 25 [.sl false 6 a0.length ((eSol false).f a0)] (lk []) (.sl true 6 r.length ((eSol true).f r)) (lk [])) := by
  unfold Dlaws_toSolidS_in at h
  refine x_call (fn := Try.f25) (c := bodyOf Try.f25) (bs0 := []) Try.func25 (by kernel_rfl) (by kernel_rfl) ?_
  obtain ⟨c0, h⟩ := chk_some h
  exact x_to 20 [(3, .mk (List.replicate (Int.toNat (a0.length : Int)) ()).length (eZs.f (List.replicate (Int.toNat (a0.length : Int)) ()))), (1, .wkb 7 ⟨true, 6, eZs.f (List.replicate (Int.toNat (a0.length : Int)) ())⟩ ⟨true, 6, (eSol true).f (List.replicate (Int.toNat (a0.length : Int)) zSol)⟩), (0, .fix 3 (.msl 7 (List.replicate (Int.toNat (a0.length : Int)) zSol).length)), (0, .fix 7 (.msl 7 (List.replicate (Int.toNat (a0.length : Int)) zSol).length))] (ocons (rflI (a0.length : Int)) (ocons (mkOk eZs c0 () rfl) (ocons (rflB ⟨true, 6, eZs.f (List.replicate (Int.toNat (a0.length : Int)) ())⟩) (ocons (wkZs true true (Int.toNat (a0.length : Int))) (ocons (congrArg (AV.msl 7) (zLen (Int.toNat (a0.length : Int)))) (ocons (congrArg (AV.msl 7) (zLen (Int.toNat (a0.length : Int)))) onil)))))) (Tlaws_toSolidS_in_0 n self hself a0 n (0, (List.replicate (Int.toNat (a0.length : Int)) zSol)) r h) (by kernel_rfl)
/-! laws.toSolid -/
def Dlaws_toSolid_b (n : Nat) (self : Sol → Option Sol) (a : Sol) : Option Sol :=
  match a with
  | a0 => (Dlaws_toPlane a0.pl).bind fun v0 => (Dlaws_toSolidS_in n self a0.kids).bind fun v1 => some (Sol.mk a0.inn v0 v1)
def Dlaws_toSolid (n : Nat) (a0 : Sol) : Option Sol := loopN (Dlaws_toSolid_b n) n a0
theorem Tlaws_toSolid_b {Y} (n : Nat) : ∀ (m : Nat) (a : Sol) (r : Sol), loopN (Dlaws_toSolid_b n) m a = some r → ∀ (_ : Unit), Big Try.prog H Y (.call 7 [.agg [bl a.inn, i64 a.pl.A, i64 a.pl.B, i64 a.pl.C, i64 a.pl.D, .sl false 6 a.kids.length ((eSol false).f a.kids)]] (lk []) (.agg [bl r.inn, i64 r.pl.A, i64 r.pl.B, i64 r.pl.C, i64 r.pl.D, .sl true 6 r.kids.length ((eSol true).f r.kids)]) (lk [])) := by
  refine loopN_ind (fun self hs a r h => ?_)
  have hself : ∀ (a : Sol) (r : Sol), self a = some r → Big Try.prog H Y (.call 7 [.agg [bl a.inn, i64 a.pl.A, i64 a.pl.B, i64 a.pl.C, i64 a.pl.D, .sl false 6 a.kids.length ((eSol false).f a.kids)]] (lk []) (.agg [bl r.inn, i64 r.pl.A, i64 r.pl.B, i64 r.pl.C, i64 r.pl.D, .sl true 6 r.kids.length ((eSol true).f r.kids)]) (lk [])) := fun a r h => hs a r h ()
  intro _
  obtain ⟨a0, rfl⟩ : ∃ x, x = a := ⟨a, rfl⟩
  unfold Dlaws_toSolid_b at h
  refine x_call (fn := Try.f7) (c := bodyOf Try.f7) (bs0 := []) Try.func7 (by kernel_rfl) (by kernel_rfl) ?_
  obtain ⟨v0, hv0, h⟩ := bind_some h
  obtain ⟨v1, hv1, h⟩ := bind_some h
  replace h := Option.some.inj h; subst h
  exact x_end 37 [(9, .call [] [] (.agg [i64 v0.A, i64 v0.B, i64 v0.C, i64 v0.D]) []), (4, .call [] [] (.sl true 6 v1.length ((eSol true).f v1)) [])] [] (ocons (Tlaws_toPlane (Y := Y) a0.pl _ hv0) (ocons (Tlaws_toSolidS_in (Y := Y) n self hself a0.kids _ hv1) onil)) (ocons (len_row (L := v1) (eSol true)) onil) (by kernel_rfl)
theorem Tlaws_toSolid {Y} (n : Nat) (a0 : Sol) (r : Sol) (h : Dlaws_toSolid n a0 = some r) : Big Try.prog H Y (.call 7 [.agg [bl a0.inn, i64 a0.pl.A, i64 a0.pl.B, i64 a0.pl.C, i64 a0.pl.D, .sl false 6 a0.kids.length ((eSol false).f a0.kids)]] (lk []) (.agg [bl r.inn, i64 r.pl.A, i64 r.pl.B, i64 r.pl.C, i64 r.pl.D, .sl true 6 r.kids.length ((eSol true).f r.kids)]) (lk [])) := Tlaws_toSolid_b n n a0 r h ()
/-! spec.Leaf -/
def Dspec_Leaf (a0 : Bool) : Option Sol :=
  some (Sol.mk a0 (Pl.mk 0 0 0 0) [])
theorem Tspec_Leaf {Y} (a0 : Bool) (r : Sol) (h : Dspec_Leaf a0 = some r) : Big Try.prog H Y (.call 18 [bl a0] (lk []) (.agg [bl r.inn, i64 r.pl.A, i64 r.pl.B, i64 r.pl.C, i64 r.pl.D, .sl true 6 r.kids.length ((eSol true).f r.kids)]) (lk [])) := by
  unfold Dspec_Leaf at h
  refine x_call (fn := Try.f18) (c := bodyOf Try.f18) (bs0 := []) Try.func18 (by kernel_rfl) (by kernel_rfl) ?_
  replace h := Option.some.inj h; subst h
  exact x_end 10 [] [(true, 6)] onil onil (by kernel_rfl)
/-! spec.l8Leaf -/
def Dspec_l8Leaf (a0 : Sol) : Option Bool :=
  some ((a0.kids.length : Int) == 0)
theorem Tspec_l8Leaf {Y} (a0 : Sol) (r : Bool) (h : Dspec_l8Leaf a0 = some r) : Big Try.prog H Y (.call 46 [.agg [bl a0.inn, i64 a0.pl.A, i64 a0.pl.B, i64 a0.pl.C, i64 a0.pl.D, .sl false 6 a0.kids.length ((eSol false).f a0.kids)]] (lk []) (bl r) (lk [])) := by
  unfold Dspec_l8Leaf at h
  refine x_call (fn := Try.f46) (c := bodyOf Try.f46) (bs0 := []) Try.func46 (by kernel_rfl) (by kernel_rfl) ?_
  replace h := Option.some.inj h; subst h
  exact x_end 13 [] [] onil onil (by kernel_rfl)
/-! spec.l8Count -/
def Dspec_l8Count_1 (_n : Nat) (self : (Sol × Int) → Option Int) (t1 : Int) (_b2_0 : Bool) (_b2_1 _b2_2 _b2_3 _b2_4 : Int) (b2_5 : List Sol) (rec0 : (Int × Int) → Option Int) (a : (Int × Int)) : Option Int :=
  match a with
  | (t5, t6) => frk (decide (t6 < (b2_5.length : Int))) ((lget b2_5 t6).bind fun v1 => (self (v1, w64 (t1 - t5))).bind fun v2 => rec0 (w64 (t5 + v2), w64 (t6 + 1))) (some t5)
theorem Tspec_l8Count_1 {Y} (n : Nat) (self : (Sol × Int) → Option Int) (hself : ∀ (a : (Sol × Int)) (r : Int), self a = some r → Big Try.prog H Y (.call 44 [.agg [bl a.1.inn, i64 a.1.pl.A, i64 a.1.pl.B, i64 a.1.pl.C, i64 a.1.pl.D, .sl false 6 a.1.kids.length ((eSol false).f a.1.kids)], i64 a.2] (lk []) (i64 r) (lk []))) (t1 : Int) (b2_0 : Bool) (b2_1 b2_2 b2_3 b2_4 : Int) (b2_5 : List Sol) : ∀ (m : Nat) (a : (Int × Int)) (r : Int), loopN (Dspec_l8Count_1 n self t1 b2_0 b2_1 b2_2 b2_3 b2_4 b2_5) m a = some r → Wk Try.prog H Y 44 [.code (cp [1, 1, 1, 0, 1, 0] (bodyOf Try.f44)), .blk 0, .code (cp [1, 1, 1, 1] (bodyOf Try.f44))] (FinX Try.prog Try.f44 [] (i64 r) []) ⟨[(1, i64 t1), (2, .ptr 2 0), (5, i64 a.1), (6, i64 a.2)], [(2, ⟨true, 0, [bl b2_0, i64 b2_1, i64 b2_2, i64 b2_3, i64 b2_4, .sl false 6 b2_5.length ((eSol false).f b2_5)]⟩)]⟩ := by
  refine loopN_ind (fun _rec0 hrec0 a r h => ?_)
  obtain ⟨t5, t6⟩ := a
  unfold Dspec_l8Count_1 at h
  refine x_frk 10 [] onil h (by kernel_rfl) (fun h => ?_) (fun h => ?_)
  · obtain ⟨v1, hv1, h⟩ := bind_some h
    obtain ⟨v2, hv2, h⟩ := bind_some h
    exact x_to 24 [(4, .val (.cptr ((eSol false).c v1 ++ (eSol false).f ((b2_5).drop (Int.toNat t6 + 1))))), (4, .call [] [] (i64 v2) [])] (ocons (ix (eSol false) hv1) (ocons (hself (v1, w64 (t1 - t5)) _ hv2) onil)) (hrec0 (w64 (t5 + v2), w64 (t6 + 1)) r h) (by kernel_rfl)
  · replace h := Option.some.inj h; subst h
    exact x_end 6 [] [] onil onil (by kernel_rfl)
def Dspec_l8Count_0 (n : Nat) (self : (Sol × Int) → Option Int) (t1 : Int) (t12 b2_0 : Bool) (b2_1 b2_2 b2_3 b2_4 : Int) (b2_5 : List Sol) : Option Int :=
  frk t12 (some 0) (loopN (Dspec_l8Count_1 n self t1 b2_0 b2_1 b2_2 b2_3 b2_4 b2_5) n (1, 0))
theorem Tspec_l8Count_0 {Y} (n : Nat) (self : (Sol × Int) → Option Int) (hself : ∀ (a : (Sol × Int)) (r : Int), self a = some r → Big Try.prog H Y (.call 44 [.agg [bl a.1.inn, i64 a.1.pl.A, i64 a.1.pl.B, i64 a.1.pl.C, i64 a.1.pl.D, .sl false 6 a.1.kids.length ((eSol false).f a.1.kids)], i64 a.2] (lk []) (i64 r) (lk []))) (t1 : Int) (t12 b2_0 : Bool) (b2_1 b2_2 b2_3 b2_4 : Int) (b2_5 : List Sol) (r : Int) (h : Dspec_l8Count_0 n self t1 t12 b2_0 b2_1 b2_2 b2_3 b2_4 b2_5 = some r) : Wk Try.prog H Y 44 [.code (cp [1, 0, 1] (bodyOf Try.f44)), .code (cp [1, 1] (bodyOf Try.f44))] (FinX Try.prog Try.f44 [] (i64 r) []) ⟨[(1, i64 t1), (2, .ptr 2 0), (12, bl t12)], [(2, ⟨true, 0, [bl b2_0, i64 b2_1, i64 b2_2, i64 b2_3, i64 b2_4, .sl false 6 b2_5.length ((eSol false).f b2_5)]⟩)]⟩ := by
  unfold Dspec_l8Count_0 at h
  refine x_frk 0 [] onil h (by kernel_rfl) (fun h => ?_) (fun h => ?_)
  · replace h := Option.some.inj h; subst h
    exact x_end 4 [] [] onil onil (by kernel_rfl)
  · exact x_to 11 [] onil (Tspec_l8Count_1 n self hself t1 b2_0 b2_1 b2_2 b2_3 b2_4 b2_5 n (1, 0) r h) (by kernel_rfl)
def Dspec_l8Count_b (n : Nat) (self : (Sol × Int) → Option Int) (a : (Sol × Int)) : Option Int :=
  match a with
  | (a0, a1) => (Dspec_l8Leaf a0).bind fun v0 => frk v0 (some 0) (Dspec_l8Count_0 n self a1 (decide (a1 ≤ 0)) a0.inn a0.pl.A a0.pl.B a0.pl.C a0.pl.D a0.kids)
def Dspec_l8Count (n : Nat) (a0 : Sol) (a1 : Int) : Option Int := loopN (Dspec_l8Count_b n) n (a0, a1)
theorem Tspec_l8Count_b {Y} (n : Nat) : ∀ (m : Nat) (a : (Sol × Int)) (r : Int), loopN (Dspec_l8Count_b n) m a = some r → ∀ (_ : Unit), Big Try.prog H Y (.call 44 [.agg [bl a.1.inn, i64 a.1.pl.A, i64 a.1.pl.B, i64 a.1.pl.C, i64 a.1.pl.D, .sl false 6 a.1.kids.length ((eSol false).f a.1.kids)], i64 a.2] (lk []) (i64 r) (lk [])) := by
  refine loopN_ind (fun self hs a r h => ?_)
  have hself : ∀ (a : (Sol × Int)) (r : Int), self a = some r → Big Try.prog H Y (.call 44 [.agg [bl a.1.inn, i64 a.1.pl.A, i64 a.1.pl.B, i64 a.1.pl.C, i64 a.1.pl.D, .sl false 6 a.1.kids.length ((eSol false).f a.1.kids)], i64 a.2] (lk []) (i64 r) (lk [])) := fun a r h => hs a r h ()
  intro _
  obtain ⟨a0, a1⟩ := a
  unfold Dspec_l8Count_b at h
  refine x_call (fn := Try.f44) (c := bodyOf Try.f44) (bs0 := []) Try.func44 (by kernel_rfl) (by kernel_rfl) ?_
  obtain ⟨v0, hv0, h⟩ := bind_some h
  refine x_frk 11 [(3, .call [] [] (bl v0) [])] (ocons (Tspec_l8Leaf (Y := Y) a0 _ hv0) onil) h (by kernel_rfl) (fun h => ?_) (fun h => ?_)
  · replace h := Option.some.inj h; subst h
    exact x_end 9 [] [] onil onil (by kernel_rfl)
  · exact x_to 4 [] onil (Tspec_l8Count_0 n self hself a1 (decide (a1 ≤ 0)) a0.inn a0.pl.A a0.pl.B a0.pl.C a0.pl.D a0.kids r h) (by kernel_rfl)
theorem Tspec_l8Count {Y} (n : Nat) (a0 : Sol) (a1 r : Int) (h : Dspec_l8Count n a0 a1 = some r) : Big Try.prog H Y (.call 44 [.agg [bl a0.inn, i64 a0.pl.A, i64 a0.pl.B, i64 a0.pl.C, i64 a0.pl.D, .sl false 6 a0.kids.length ((eSol false).f a0.kids)], i64 a1] (lk []) (i64 r) (lk [])) := Tspec_l8Count_b n n (a0, a1) r h ()
/-! spec.l1In -/
def Dspec_l1In (a0 a1 a2 : Int) : Option Bool :=
  frk (decide (a0 ≥ a1)) (some (decide (a0 ≤ a2))) (some false)
theorem Tspec_l1In {Y} (a0 a1 a2 : Int) (r : Bool) (h : Dspec_l1In a0 a1 a2 = some r) : Big Try.prog H Y (.call 52 [i64 a0, i64 a1, i64 a2] (lk []) (bl r) (lk [])) := by
  unfold Dspec_l1In at h
  refine x_call (fn := Try.f52) (c := bodyOf Try.f52) (bs0 := []) Try.func52 (by kernel_rfl) (by kernel_rfl) ?_
  refine x_frk 10 [] onil h (by kernel_rfl) (fun h => ?_) (fun h => ?_)
  · replace h := Option.some.inj h; subst h
    exact x_end 6 [] [] onil onil (by kernel_rfl)
  · replace h := Option.some.inj h; subst h
    exact x_end 6 [] [] onil onil (by kernel_rfl)
/-! spec.l3In -/
def Dspec_l3In (a0 : Pl) : Option Bool :=
  (Dspec_l1In a0.A (-500) 500).bind fun v0 => frk v0 ((Dspec_l1In a0.B (-500) 500).bind fun v1 => frk v1 ((Dspec_l1In a0.C (-500) 500).bind fun v2 => frk v2 ((Dspec_l1In a0.D (-500) 500).bind fun v3 => some v3) (some false)) (some false)) (some false)
theorem Tspec_l3In {Y} (a0 : Pl) (r : Bool) (h : Dspec_l3In a0 = some r) : Big Try.prog H Y (.call 104 [.agg [i64 a0.A, i64 a0.B, i64 a0.C, i64 a0.D]] (lk []) (bl r) (lk [])) := by
  unfold Dspec_l3In at h
  refine x_call (fn := Try.f104) (c := bodyOf Try.f104) (bs0 := []) Try.func104 (by kernel_rfl) (by kernel_rfl) ?_
  obtain ⟨v0, hv0, h⟩ := bind_some h
  refine x_frk 18 [(8, .call [] [] (bl v0) [])] (ocons (Tspec_l1In (Y := Y) a0.A (-500) 500 _ hv0) onil) h (by kernel_rfl) (fun h => ?_) (fun h => ?_)
  · obtain ⟨v1, hv1, h⟩ := bind_some h
    refine x_frk 8 [(5, .call [] [] (bl v1) [])] (ocons (Tspec_l1In (Y := Y) a0.B (-500) 500 _ hv1) onil) h (by kernel_rfl) (fun h => ?_) (fun h => ?_)
    · obtain ⟨v2, hv2, h⟩ := bind_some h
      refine x_frk 8 [(5, .call [] [] (bl v2) [])] (ocons (Tspec_l1In (Y := Y) a0.C (-500) 500 _ hv2) onil) h (by kernel_rfl) (fun h => ?_) (fun h => ?_)
      · obtain ⟨v3, hv3, h⟩ := bind_some h
        replace h := Option.some.inj h; subst h
        exact x_end 9 [(5, .call [] [] (bl v3) [])] [] (ocons (Tspec_l1In (Y := Y) a0.D (-500) 500 _ hv3) onil) onil (by kernel_rfl)
      · replace h := Option.some.inj h; subst h
        exact x_end 9 [] [] onil onil (by kernel_rfl)
    · replace h := Option.some.inj h; subst h
      exact x_end 17 [] [] onil onil (by kernel_rfl)
  · replace h := Option.some.inj h; subst h
    exact x_end 25 [] [] onil onil (by kernel_rfl)
/-! spec.l3Abs -/
def Dspec_l3Abs (a0 : Int) : Option Int :=
  frk (decide (a0 < 0)) (some (w64 (0 - a0))) (some a0)
theorem Tspec_l3Abs {Y} (a0 r : Int) (h : Dspec_l3Abs a0 = some r) : Big Try.prog H Y (.call 115 [i64 a0] (lk []) (i64 r) (lk [])) := by
  unfold Dspec_l3Abs at h
  refine x_call (fn := Try.f115) (c := bodyOf Try.f115) (bs0 := []) Try.func115 (by kernel_rfl) (by kernel_rfl) ?_
  refine x_frk 10 [] onil h (by kernel_rfl) (fun h => ?_) (fun h => ?_)
  · replace h := Option.some.inj h; subst h
    exact x_end 6 [] [] onil onil (by kernel_rfl)
  · replace h := Option.some.inj h; subst h
    exact x_end 6 [] [] onil onil (by kernel_rfl)
/-! spec.l3Gcd -/
def Dspec_l3Gcd_0 (_n : Nat) (rec0 : (Int × Int) → Option Int) (a : (Int × Int)) : Option Int :=
  match a with
  | (t0, t1) => frk (decide (t1 > 0)) ((rm .i64 t0 t1).bind fun v2 => rec0 (t1, v2)) (some t0)
theorem Tspec_l3Gcd_0 {Y} (n : Nat) : ∀ (m : Nat) (a : (Int × Int)) (r : Int), loopN (Dspec_l3Gcd_0 n) m a = some r → Wk Try.prog H Y 105 [.code (cp [1, 1, 1, 0, 0] (bodyOf Try.f105)), .blk 0, .code (cp [1, 1, 1, 1] (bodyOf Try.f105))] (FinX Try.prog Try.f105 [] (i64 r) []) ⟨[(0, i64 a.1), (1, i64 a.2)], []⟩ := by
  refine loopN_ind (fun _rec0 hrec0 a r h => ?_)
  obtain ⟨_t0, t1⟩ := a
  unfold Dspec_l3Gcd_0 at h
  refine x_frk 7 [] onil h (by kernel_rfl) (fun h => ?_) (fun h => ?_)
  · obtain ⟨v2, hv2, h⟩ := bind_some h
    exact x_to 20 [(2, .val (i64 v2))] (ocons (rmOk hv2) onil) (hrec0 (t1, v2) r h) (by kernel_rfl)
  · replace h := Option.some.inj h; subst h
    exact x_end 6 [] [] onil onil (by kernel_rfl)
def Dspec_l3Gcd (n : Nat) (a0 a1 : Int) : Option Int :=
  (Dspec_l3Abs a0).bind fun v0 => (Dspec_l3Abs a1).bind fun v1 => loopN (Dspec_l3Gcd_0 n) n (v0, v1)
theorem Tspec_l3Gcd {Y} (n : Nat) (a0 a1 r : Int) (h : Dspec_l3Gcd n a0 a1 = some r) : Big Try.prog H Y (.call 105 [i64 a0, i64 a1] (lk []) (i64 r) (lk [])) := by
  unfold Dspec_l3Gcd at h
  refine x_call (fn := Try.f105) (c := bodyOf Try.f105) (bs0 := []) Try.func105 (by kernel_rfl) (by kernel_rfl) ?_
  obtain ⟨v0, hv0, h⟩ := bind_some h
  obtain ⟨v1, hv1, h⟩ := bind_some h
  exact x_to 18 [(2, .call [] [] (i64 v0) []), (2, .call [] [] (i64 v1) [])] (ocons (Tspec_l3Abs (Y := Y) a0 _ hv0) (ocons (Tspec_l3Abs (Y := Y) a1 _ hv1) onil)) (Tspec_l3Gcd_0 n n (v0, v1) r h) (by kernel_rfl)
/-! spec.PlaneOk -/
def Dspec_PlaneOk (n : Nat) (a0 : Pl) : Option Bool :=
  (Dspec_l3In a0).bind fun v0 => frk v0 (frk (a0.A != 0) ((Dspec_l3Gcd n a0.A a0.B).bind fun v1 => (Dspec_l3Gcd n a0.C a0.D).bind fun v2 => (Dspec_l3Gcd n v1 v2).bind fun v3 => some (v3 == 1)) (frk (a0.B != 0) ((Dspec_l3Gcd n a0.A a0.B).bind fun v4 => (Dspec_l3Gcd n a0.C a0.D).bind fun v5 => (Dspec_l3Gcd n v4 v5).bind fun v6 => some (v6 == 1)) (frk (a0.C != 0) ((Dspec_l3Gcd n a0.A a0.B).bind fun v7 => (Dspec_l3Gcd n a0.C a0.D).bind fun v8 => (Dspec_l3Gcd n v7 v8).bind fun v9 => some (v9 == 1)) (some false)))) (some false)
theorem Tspec_PlaneOk {Y} (n : Nat) (a0 : Pl) (r : Bool) (h : Dspec_PlaneOk n a0 = some r) : Big Try.prog H Y (.call 80 [.agg [i64 a0.A, i64 a0.B, i64 a0.C, i64 a0.D]] (lk []) (bl r) (lk [])) := by
  unfold Dspec_PlaneOk at h
  refine x_call (fn := Try.f80) (c := bodyOf Try.f80) (bs0 := []) Try.func80 (by kernel_rfl) (by kernel_rfl) ?_
  obtain ⟨v0, hv0, h⟩ := bind_some h
  refine x_frk 10 [(3, .call [] [] (bl v0) [])] (ocons (Tspec_l3In (Y := Y) a0 _ hv0) onil) h (by kernel_rfl) (fun h => ?_) (fun h => ?_)
  · refine x_frk 4 [] onil h (by kernel_rfl) (fun h => ?_) (fun h => ?_)
    · obtain ⟨v1, hv1, h⟩ := bind_some h
      obtain ⟨v2, hv2, h⟩ := bind_some h
      obtain ⟨v3, hv3, h⟩ := bind_some h
      replace h := Option.some.inj h; subst h
      exact x_end 26 [(15, .call [] [] (i64 v1) []), (4, .call [] [] (i64 v2) []), (0, .call [] [] (i64 v3) [])] [] (ocons (Tspec_l3Gcd (Y := Y) n a0.A a0.B _ hv1) (ocons (Tspec_l3Gcd (Y := Y) n a0.C a0.D _ hv2) (ocons (Tspec_l3Gcd (Y := Y) n v1 v2 _ hv3) onil))) onil (by kernel_rfl)
    · refine x_frk 5 [] onil h (by kernel_rfl) (fun h => ?_) (fun h => ?_)
      · obtain ⟨v4, hv4, h⟩ := bind_some h
        obtain ⟨v5, hv5, h⟩ := bind_some h
        obtain ⟨v6, hv6, h⟩ := bind_some h
        replace h := Option.some.inj h; subst h
        exact x_end 21 [(10, .call [] [] (i64 v4) []), (4, .call [] [] (i64 v5) []), (0, .call [] [] (i64 v6) [])] [] (ocons (Tspec_l3Gcd (Y := Y) n a0.A a0.B _ hv4) (ocons (Tspec_l3Gcd (Y := Y) n a0.C a0.D _ hv5) (ocons (Tspec_l3Gcd (Y := Y) n v4 v5 _ hv6) onil))) onil (by kernel_rfl)
      · refine x_frk 6 [] onil h (by kernel_rfl) (fun h => ?_) (fun h => ?_)
        · obtain ⟨v7, hv7, h⟩ := bind_some h
          obtain ⟨v8, hv8, h⟩ := bind_some h
          obtain ⟨v9, hv9, h⟩ := bind_some h
          replace h := Option.some.inj h; subst h
          exact x_end 15 [(4, .call [] [] (i64 v7) []), (4, .call [] [] (i64 v8) []), (0, .call [] [] (i64 v9) [])] [] (ocons (Tspec_l3Gcd (Y := Y) n a0.A a0.B _ hv7) (ocons (Tspec_l3Gcd (Y := Y) n a0.C a0.D _ hv8) (ocons (Tspec_l3Gcd (Y := Y) n v7 v8 _ hv9) onil))) onil (by kernel_rfl)
        · replace h := Option.some.inj h; subst h
          exact x_end 15 [] [] onil onil (by kernel_rfl)
  · replace h := Option.some.inj h; subst h
    exact x_end 30 [] [] onil onil (by kernel_rfl)
/-! spec.l4Cross -/
def Dspec_l4Cross (a0 : Pl) (a1 : Pl) : Option (Int × Int × Int) :=
  some (w64 ((w64 (a0.B * a1.C)) - (w64 (a0.C * a1.B))), w64 ((w64 (a0.C * a1.A)) - (w64 (a0.A * a1.C))), w64 ((w64 (a0.A * a1.B)) - (w64 (a0.B * a1.A))))
theorem Tspec_l4Cross {Y} (a0 : Pl) (a1 : Pl) (r : (Int × Int × Int)) (h : Dspec_l4Cross a0 a1 = some r) : Big Try.prog H Y (.call 116 [.agg [i64 a0.A, i64 a0.B, i64 a0.C, i64 a0.D], .agg [i64 a1.A, i64 a1.B, i64 a1.C, i64 a1.D]] (lk []) (.agg [i64 r.1, i64 r.2.1, i64 r.2.2]) (lk [])) := by
  unfold Dspec_l4Cross at h
  refine x_call (fn := Try.f116) (c := bodyOf Try.f116) (bs0 := []) Try.func116 (by kernel_rfl) (by kernel_rfl) ?_
  replace h := Option.some.inj h; subst h
  exact x_end 44 [] [] onil onil (by kernel_rfl)
/-! spec.l3Sign -/
def Dspec_l3Sign (a0 : Int) : Option Int :=
  frk (decide (a0 > 0)) (some 1) (frk (decide (a0 < 0)) (some (-1)) (some 0))
theorem Tspec_l3Sign {Y} (a0 r : Int) (h : Dspec_l3Sign a0 = some r) : Big Try.prog H Y (.call 96 [i64 a0] (lk []) (i64 r) (lk [])) := by
  unfold Dspec_l3Sign at h
  refine x_call (fn := Try.f96) (c := bodyOf Try.f96) (bs0 := []) Try.func96 (by kernel_rfl) (by kernel_rfl) ?_
  refine x_frk 12 [] onil h (by kernel_rfl) (fun h => ?_) (fun h => ?_)
  · replace h := Option.some.inj h; subst h
    exact x_end 4 [] [] onil onil (by kernel_rfl)
  · refine x_frk 6 [] onil h (by kernel_rfl) (fun h => ?_) (fun h => ?_)
    · replace h := Option.some.inj h; subst h
      exact x_end 4 [] [] onil onil (by kernel_rfl)
    · replace h := Option.some.inj h; subst h
      exact x_end 6 [] [] onil onil (by kernel_rfl)
/-! spec.l4Parallel -/
def Dspec_l4Parallel (a0 : Pl) (a1 : Pl) : Option Int :=
  (Dspec_l4Cross a0 a1).bind fun v0 => frk (!(v0.1 == 0 && (v0.2.1 == 0 && (v0.2.2 == 0 && true)))) (some 0) ((Dspec_l3Sign (w64 ((w64 ((w64 (a0.A * a1.A)) + (w64 (a0.B * a1.B)))) + (w64 (a0.C * a1.C))))).bind fun v1 => some v1)
theorem Tspec_l4Parallel {Y} (a0 : Pl) (a1 : Pl) (r : Int) (h : Dspec_l4Parallel a0 a1 = some r) : Big Try.prog H Y (.call 114 [.agg [i64 a0.A, i64 a0.B, i64 a0.C, i64 a0.D], .agg [i64 a1.A, i64 a1.B, i64 a1.C, i64 a1.D]] (lk []) (i64 r) (lk [])) := by
  unfold Dspec_l4Parallel at h
  refine x_call (fn := Try.f114) (c := bodyOf Try.f114) (bs0 := []) Try.func114 (by kernel_rfl) (by kernel_rfl) ?_
  obtain ⟨v0, hv0, h⟩ := bind_some h
  refine x_frk 15 [(5, .call [] [] (.agg [i64 v0.1, i64 v0.2.1, i64 v0.2.2]) [])] (ocons (Tspec_l4Cross (Y := Y) a0 a1 _ hv0) onil) h (by kernel_rfl) (fun h => ?_) (fun h => ?_)
  · replace h := Option.some.inj h; subst h
    exact x_end 4 [] [] onil onil (by kernel_rfl)
  · obtain ⟨v1, hv1, h⟩ := bind_some h
    replace h := Option.some.inj h; subst h
    exact x_end 23 [(17, .call [] [] (i64 v1) [])] [] (ocons (Tspec_l3Sign (Y := Y) (w64 ((w64 ((w64 (a0.A * a1.A)) + (w64 (a0.B * a1.B)))) + (w64 (a0.C * a1.C)))) _ hv1) onil) onil (by kernel_rfl)
/-! spec.l6Clash2 -/
def Dspec_l6Clash2 (a0 : Pl) (a1 : Pl) : Option Bool :=
  (Dspec_l4Parallel a0 a1).bind fun v0 => frk (decide (v0 ≥ 0)) (some false) ((Dspec_l3Abs a1.A).bind fun v1 => (Dspec_l3Abs a1.B).bind fun v2 => (Dspec_l3Abs a1.C).bind fun v3 => (Dspec_l3Abs a0.A).bind fun v4 => (Dspec_l3Abs a0.B).bind fun v5 => (Dspec_l3Abs a0.C).bind fun v6 => some (decide ((w64 ((w64 ((w64 ((w64 (v1 + v2)) + v3)) * a0.D)) + (w64 ((w64 ((w64 (v4 + v5)) + v6)) * a1.D)))) ≤ 0)))
theorem Tspec_l6Clash2 {Y} (a0 : Pl) (a1 : Pl) (r : Bool) (h : Dspec_l6Clash2 a0 a1 = some r) : Big Try.prog H Y (.call 90 [.agg [i64 a0.A, i64 a0.B, i64 a0.C, i64 a0.D], .agg [i64 a1.A, i64 a1.B, i64 a1.C, i64 a1.D]] (lk []) (bl r) (lk [])) := by
  unfold Dspec_l6Clash2 at h
  refine x_call (fn := Try.f90) (c := bodyOf Try.f90) (bs0 := []) Try.func90 (by kernel_rfl) (by kernel_rfl) ?_
  obtain ⟨v0, hv0, h⟩ := bind_some h
  refine x_frk 14 [(5, .call [] [] (i64 v0) [])] (ocons (Tspec_l4Parallel (Y := Y) a0 a1 _ hv0) onil) h (by kernel_rfl) (fun h => ?_) (fun h => ?_)
  · replace h := Option.some.inj h; subst h
    exact x_end 4 [] [] onil onil (by kernel_rfl)
  · obtain ⟨v1, hv1, h⟩ := bind_some h
    obtain ⟨v2, hv2, h⟩ := bind_some h
    obtain ⟨v3, hv3, h⟩ := bind_some h
    obtain ⟨v4, hv4, h⟩ := bind_some h
    obtain ⟨v5, hv5, h⟩ := bind_some h
    obtain ⟨v6, hv6, h⟩ := bind_some h
    replace h := Option.some.inj h; subst h
    exact x_end 45 [(2, .call [] [] (i64 v1) []), (2, .call [] [] (i64 v2) []), (3, .call [] [] (i64 v3) []), (4, .call [] [] (i64 v4) []), (2, .call [] [] (i64 v5) []), (3, .call [] [] (i64 v6) [])] [] (ocons (Tspec_l3Abs (Y := Y) a1.A _ hv1) (ocons (Tspec_l3Abs (Y := Y) a1.B _ hv2) (ocons (Tspec_l3Abs (Y := Y) a1.C _ hv3) (ocons (Tspec_l3Abs (Y := Y) a0.A _ hv4) (ocons (Tspec_l3Abs (Y := Y) a0.B _ hv5) (ocons (Tspec_l3Abs (Y := Y) a0.C _ hv6) onil)))))) onil (by kernel_rfl)
/-! spec.l4Det3 -/
def Dspec_l4Det3 (a0 : Pl) (a1 : Pl) (a2 : Pl) : Option Int :=
  (Dspec_l4Cross a1 a2).bind fun v0 => some (w64 ((w64 ((w64 (a0.A * v0.1)) + (w64 (a0.B * v0.2.1)))) + (w64 (a0.C * v0.2.2))))
theorem Tspec_l4Det3 {Y} (a0 : Pl) (a1 : Pl) (a2 : Pl) (r : Int) (h : Dspec_l4Det3 a0 a1 a2 = some r) : Big Try.prog H Y (.call 93 [.agg [i64 a0.A, i64 a0.B, i64 a0.C, i64 a0.D], .agg [i64 a1.A, i64 a1.B, i64 a1.C, i64 a1.D], .agg [i64 a2.A, i64 a2.B, i64 a2.C, i64 a2.D]] (lk []) (i64 r) (lk [])) := by
  unfold Dspec_l4Det3 at h
  refine x_call (fn := Try.f93) (c := bodyOf Try.f93) (bs0 := []) Try.func93 (by kernel_rfl) (by kernel_rfl) ?_
  obtain ⟨v0, hv0, h⟩ := bind_some h
  replace h := Option.some.inj h; subst h
  exact x_end 36 [(6, .call [] [] (.agg [i64 v0.1, i64 v0.2.1, i64 v0.2.2]) [])] [] (ocons (Tspec_l4Cross (Y := Y) a1 a2 _ hv0) onil) onil (by kernel_rfl)
/-! spec.l6Sum -/
def Dspec_l6Sum_1 (_n : Nat) (rec0 : (Bool × Bool × Int × Int) → Option Bool) (t0 : List Int) (t1 : List Int) (t5 t6 : Bool) (t7 t8 : Int) : Option Bool :=
  (lget t0 t8).bind fun v2 => (Dspec_l3Abs v2).bind fun v3 => (lget t1 t8).bind fun v4 => rec0 (t5, t6, w64 (t7 + (w64 (v3 * v4))), w64 (t8 + 1))
theorem Tspec_l6Sum_1 {Y} (n : Nat) (rec0 : (Bool × Bool × Int × Int) → Option Bool) (t0 : List Int) (t1 : List Int) (hrec0 : ∀ (a : (Bool × Bool × Int × Int)) (r : Bool), rec0 a = some r → Wk Try.prog H Y 117 [.code (cp [1, 1, 1, 1, 0, 1, 0] (bodyOf Try.f117)), .blk 0, .code (cp [1, 1, 1, 1, 1] (bodyOf Try.f117))] (FinX Try.prog Try.f117 [] (bl r) []) ⟨[(0, .sl false 1 t0.length ((eInt).f t0)), (1, .sl false 1 t1.length ((eInt).f t1)), (5, bl a.1), (6, bl a.2.1), (7, i64 a.2.2.1), (8, i64 a.2.2.2)], []⟩) (t5 t6 : Bool) (t7 t8 : Int) (r : Bool) (h : Dspec_l6Sum_1 n rec0 t0 t1 t5 t6 t7 t8 = some r) : Wk Try.prog H Y 117 [.code (cp [1, 1, 1, 1, 0, 1, 0, 0, 1, 0, 0, 1, 1] (bodyOf Try.f117)), .blk 1, .code (cp [1, 1, 1, 1, 0, 1, 0, 0, 1, 1] (bodyOf Try.f117)), .lp (cp [1, 1, 1, 1, 0, 1, 0] (bodyOf Try.f117)), .blk 0, .code (cp [1, 1, 1, 1, 1] (bodyOf Try.f117))] (FinX Try.prog Try.f117 [] (bl r) []) ⟨[(0, .sl false 1 t0.length ((eInt).f t0)), (1, .sl false 1 t1.length ((eInt).f t1)), (5, bl t5), (6, bl t6), (7, i64 t7), (8, i64 t8)], []⟩ := by
  unfold Dspec_l6Sum_1 at h
  obtain ⟨v2, hv2, h⟩ := bind_some h
  obtain ⟨v3, hv3, h⟩ := bind_some h
  obtain ⟨v4, hv4, h⟩ := bind_some h
  exact x_to 22 [(3, .val (.cptr (eInt.c v2 ++ (eInt).f ((t0).drop (Int.toNat t8 + 1))))), (1, .call [] [] (i64 v3) []), (2, .val (.cptr (eInt.c v4 ++ (eInt).f ((t1).drop (Int.toNat t8 + 1)))))] (ocons (ix eInt hv2) (ocons (Tspec_l3Abs (Y := Y) v2 _ hv3) (ocons (ix eInt hv4) onil))) (hrec0 (t5, t6, w64 (t7 + (w64 (v3 * v4))), w64 (t8 + 1)) r h) (by kernel_rfl)
def Dspec_l6Sum_0 (n : Nat) (rec0 : (Bool × Bool × Int × Int) → Option Bool) (t0 : List Int) (t1 : List Int) (t5 t6 : Bool) (t7 t8 : Int) : Option Bool :=
  frk t6 ((lget t0 t8).bind fun v1 => Dspec_l6Sum_1 n rec0 t0 t1 t5 (decide (v1 < 0)) t7 t8) (Dspec_l6Sum_1 n rec0 t0 t1 t5 false t7 t8)
theorem Tspec_l6Sum_0 {Y} (n : Nat) (rec0 : (Bool × Bool × Int × Int) → Option Bool) (t0 : List Int) (t1 : List Int) (hrec0 : ∀ (a : (Bool × Bool × Int × Int)) (r : Bool), rec0 a = some r → Wk Try.prog H Y 117 [.code (cp [1, 1, 1, 1, 0, 1, 0] (bodyOf Try.f117)), .blk 0, .code (cp [1, 1, 1, 1, 1] (bodyOf Try.f117))] (FinX Try.prog Try.f117 [] (bl r) []) ⟨[(0, .sl false 1 t0.length ((eInt).f t0)), (1, .sl false 1 t1.length ((eInt).f t1)), (5, bl a.1), (6, bl a.2.1), (7, i64 a.2.2.1), (8, i64 a.2.2.2)], []⟩) (t5 t6 : Bool) (t7 t8 : Int) (r : Bool) (h : Dspec_l6Sum_0 n rec0 t0 t1 t5 t6 t7 t8 = some r) : Wk Try.prog H Y 117 [.code (cp [1, 1, 1, 1, 0, 1, 0, 0, 1, 0, 0, 1, 0] (bodyOf Try.f117)), .code (cp [1, 1, 1, 1, 0, 1, 0, 0, 1, 0, 0, 1, 1] (bodyOf Try.f117)), .blk 1, .code (cp [1, 1, 1, 1, 0, 1, 0, 0, 1, 1] (bodyOf Try.f117)), .lp (cp [1, 1, 1, 1, 0, 1, 0] (bodyOf Try.f117)), .blk 0, .code (cp [1, 1, 1, 1, 1] (bodyOf Try.f117))] (FinX Try.prog Try.f117 [] (bl r) []) ⟨[(0, .sl false 1 t0.length ((eInt).f t0)), (1, .sl false 1 t1.length ((eInt).f t1)), (5, bl t5), (6, bl t6), (7, i64 t7), (8, i64 t8)], []⟩ := by
  unfold Dspec_l6Sum_0 at h
  refine x_frk 3 [] onil h (by kernel_rfl) (fun h => ?_) (fun h => ?_)
  · obtain ⟨v1, hv1, h⟩ := bind_some h
    exact x_to 8 [(2, .val (.cptr (eInt.c v1 ++ (eInt).f ((t0).drop (Int.toNat t8 + 1)))))] (ocons (ix eInt hv1) onil) (Tspec_l6Sum_1 n rec0 t0 t1 hrec0 t5 (decide (v1 < 0)) t7 t8 r h) (by kernel_rfl)
  · exact x_to 8 [] onil (Tspec_l6Sum_1 n rec0 t0 t1 hrec0 t5 false t7 t8 r h) (by kernel_rfl)
def Dspec_l6Sum_2 (_n : Nat) (t5 t6 : Bool) (t7 : Int) : Option Bool :=
  frk t5 (some (decide (t7 ≤ 0))) (frk t6 (some (decide (t7 ≤ 0))) (some false))
theorem Tspec_l6Sum_2 {Y} (n : Nat) (t5 t6 : Bool) (t7 : Int) (r : Bool) (h : Dspec_l6Sum_2 n t5 t6 t7 = some r) : Wk Try.prog H Y 117 [.code (cp [1, 1, 1, 1, 1, 0] (bodyOf Try.f117)), .code (cp [1, 1, 1, 1, 1, 1] (bodyOf Try.f117))] (FinX Try.prog Try.f117 [] (bl r) []) ⟨[(5, bl t5), (6, bl t6), (7, i64 t7)], []⟩ := by
  unfold Dspec_l6Sum_2 at h
  refine x_frk 3 [] onil h (by kernel_rfl) (fun h => ?_) (fun h => ?_)
  · replace h := Option.some.inj h; subst h
    exact x_end 8 [] [] onil onil (by kernel_rfl)
  · refine x_frk 3 [] onil h (by kernel_rfl) (fun h => ?_) (fun h => ?_)
    · replace h := Option.some.inj h; subst h
      exact x_end 5 [] [] onil onil (by kernel_rfl)
    · replace h := Option.some.inj h; subst h
      exact x_end 5 [] [] onil onil (by kernel_rfl)
def Dspec_l6Sum_3 (n : Nat) (t0 : List Int) (t1 : List Int) (rec0 : (Bool × Bool × Int × Int) → Option Bool) (a : (Bool × Bool × Int × Int)) : Option Bool :=
  match a with
  | (t5, t6, t7, t8) => frk (decide (t8 < (t0.length : Int))) (frk t5 ((lget t0 t8).bind fun v0 => Dspec_l6Sum_0 n rec0 t0 t1 (decide (v0 > 0)) t6 t7 t8) (Dspec_l6Sum_0 n rec0 t0 t1 false t6 t7 t8)) (Dspec_l6Sum_2 n t5 t6 t7)
theorem Tspec_l6Sum_3 {Y} (n : Nat) (t0 : List Int) (t1 : List Int) : ∀ (m : Nat) (a : (Bool × Bool × Int × Int)) (r : Bool), loopN (Dspec_l6Sum_3 n t0 t1) m a = some r → Wk Try.prog H Y 117 [.code (cp [1, 1, 1, 1, 0, 1, 0] (bodyOf Try.f117)), .blk 0, .code (cp [1, 1, 1, 1, 1] (bodyOf Try.f117))] (FinX Try.prog Try.f117 [] (bl r) []) ⟨[(0, .sl false 1 t0.length ((eInt).f t0)), (1, .sl false 1 t1.length ((eInt).f t1)), (5, bl a.1), (6, bl a.2.1), (7, i64 a.2.2.1), (8, i64 a.2.2.2)], []⟩ := by
  refine loopN_ind (fun rec0 hrec0 a r h => ?_)
  obtain ⟨t5, t6, t7, t8⟩ := a
  unfold Dspec_l6Sum_3 at h
  refine x_frk 9 [] onil h (by kernel_rfl) (fun h => ?_) (fun h => ?_)
  · refine x_frk 7 [] onil h (by kernel_rfl) (fun h => ?_) (fun h => ?_)
    · obtain ⟨v0, hv0, h⟩ := bind_some h
      exact x_to 9 [(2, .val (.cptr (eInt.c v0 ++ (eInt).f ((t0).drop (Int.toNat t8 + 1)))))] (ocons (ix eInt hv0) onil) (Tspec_l6Sum_0 n rec0 t0 t1 hrec0 (decide (v0 > 0)) t6 t7 t8 r h) (by kernel_rfl)
    · exact x_to 9 [] onil (Tspec_l6Sum_0 n rec0 t0 t1 hrec0 false t6 t7 t8 r h) (by kernel_rfl)
  · exact x_to 2 [] onil (Tspec_l6Sum_2 n t5 t6 t7 r h) (by kernel_rfl)
def Dspec_l6Sum (n : Nat) (a0 : (List Int)) (a1 : (List Int)) : Option Bool :=
  loopN (Dspec_l6Sum_3 n a0 a1) n (true, true, 0, 0)
theorem Tspec_l6Sum {Y} (n : Nat) (a0 : (List Int)) (a1 : (List Int)) (r : Bool) (h : Dspec_l6Sum n a0 a1 = some r) : Big Try.prog H Y (.call 117 [.sl false 1 a0.length ((eInt).f a0), .sl false 1 a1.length ((eInt).f a1)] (lk []) (bl r) (lk [])) := by
  unfold Dspec_l6Sum at h
  refine x_call (fn := Try.f117) (c := bodyOf Try.f117) (bs0 := []) Try.func117 (by kernel_rfl) (by kernel_rfl) ?_
  exact x_to 22 [] onil (Tspec_l6Sum_3 n a0 a1 n (true, true, 0, 0) r h) (by kernel_rfl)
/-! spec.l6Clash3 -/
def Dspec_l6Clash3_0 (n : Nat) (_b3_0 _b3_1 _b3_2 b3_3 _b4_0 _b4_1 _b4_2 b4_3 _b5_0 _b5_1 _b5_2 b5_3 b7_0 _b7_1 _b7_2 b8_0 _b8_1 _b8_2 b9_0 _b9_1 _b9_2 : Int) : Option Bool :=
  (Dspec_l6Sum n [b7_0, b8_0, b9_0] [b3_3, b4_3, b5_3]).bind fun v4 => some v4
theorem Tspec_l6Clash3_0 {Y} (n : Nat) (b3_0 b3_1 b3_2 b3_3 b4_0 b4_1 b4_2 b4_3 b5_0 b5_1 b5_2 b5_3 b7_0 b7_1 b7_2 b8_0 b8_1 b8_2 b9_0 b9_1 b9_2 : Int) (r : Bool) (h : Dspec_l6Clash3_0 n b3_0 b3_1 b3_2 b3_3 b4_0 b4_1 b4_2 b4_3 b5_0 b5_1 b5_2 b5_3 b7_0 b7_1 b7_2 b8_0 b8_1 b8_2 b9_0 b9_1 b9_2 = some r) : Wk Try.prog H Y 91 [.code (cp [1, 1, 1, 1, 1, 0, 1, 0, 0, 1, 0, 0, 1, 0, 0] (bodyOf Try.f91)), .code (cp [1, 1, 1, 1, 1, 0, 1, 0, 0, 1, 0, 0, 1, 0, 1] (bodyOf Try.f91)), .blk 1, .code (cp [1, 1, 1, 1, 1, 0, 1, 0, 0, 1, 1] (bodyOf Try.f91)), .lp (cp [1, 1, 1, 1, 1, 0, 1, 0] (bodyOf Try.f91)), .blk 0, .code (cp [1, 1, 1, 1, 1, 1] (bodyOf Try.f91))] (FinX Try.prog Try.f91 [] (bl r) []) ⟨[(3, .ptr 3 0), (4, .ptr 4 0), (5, .ptr 5 0), (7, .ptr 7 0), (8, .ptr 8 0), (9, .ptr 9 0), (10, i64 0)], [(3, ⟨true, 0, [i64 b3_0, i64 b3_1, i64 b3_2, i64 b3_3]⟩), (4, ⟨true, 0, [i64 b4_0, i64 b4_1, i64 b4_2, i64 b4_3]⟩), (5, ⟨true, 0, [i64 b5_0, i64 b5_1, i64 b5_2, i64 b5_3]⟩), (7, ⟨true, 0, [i64 b7_0, i64 b7_1, i64 b7_2]⟩), (8, ⟨true, 0, [i64 b8_0, i64 b8_1, i64 b8_2]⟩), (9, ⟨true, 0, [i64 b9_0, i64 b9_1, i64 b9_2]⟩)]⟩ := by
  unfold Dspec_l6Clash3_0 at h
  obtain ⟨v4, hv4, h⟩ := bind_some h
  replace h := Option.some.inj h; subst h
  exact x_end 21 [(17, .call [] [(eInt).f [b3_3, b4_3, b5_3], (eInt).f [b7_0, b8_0, b9_0]] (bl v4) [])] [] (ocons (Tspec_l6Sum (Y := Y) n [b7_0, b8_0, b9_0] [b3_3, b4_3, b5_3] _ hv4) (ocons (len_row (L := [b7_0, b8_0, b9_0]) eInt) (ocons (Enc.share eInt eInt sInt [b7_0, b8_0, b9_0]) (ocons (len_row (L := [b3_3, b4_3, b5_3]) eInt) (ocons (Enc.share eInt eInt sInt [b3_3, b4_3, b5_3]) onil))))) onil (by kernel_rfl)
def Dspec_l6Clash3_2 (n : Nat) (_b3_0 _b3_1 _b3_2 b3_3 _b4_0 _b4_1 _b4_2 b4_3 _b5_0 _b5_1 _b5_2 b5_3 _b7_0 b7_1 _b7_2 _b8_0 b8_1 _b8_2 _b9_0 b9_1 _b9_2 : Int) : Option Bool :=
  (Dspec_l6Sum n [b7_1, b8_1, b9_1] [b3_3, b4_3, b5_3]).bind fun v6 => some v6
theorem Tspec_l6Clash3_2 {Y} (n : Nat) (b3_0 b3_1 b3_2 b3_3 b4_0 b4_1 b4_2 b4_3 b5_0 b5_1 b5_2 b5_3 b7_0 b7_1 b7_2 b8_0 b8_1 b8_2 b9_0 b9_1 b9_2 : Int) (r : Bool) (h : Dspec_l6Clash3_2 n b3_0 b3_1 b3_2 b3_3 b4_0 b4_1 b4_2 b4_3 b5_0 b5_1 b5_2 b5_3 b7_0 b7_1 b7_2 b8_0 b8_1 b8_2 b9_0 b9_1 b9_2 = some r) : Wk Try.prog H Y 91 [.code (cp [1, 1, 1, 1, 1, 0, 1, 0, 0, 1, 0, 0, 1, 0, 0] (bodyOf Try.f91)), .code (cp [1, 1, 1, 1, 1, 0, 1, 0, 0, 1, 0, 0, 1, 0, 1] (bodyOf Try.f91)), .blk 1, .code (cp [1, 1, 1, 1, 1, 0, 1, 0, 0, 1, 1] (bodyOf Try.f91)), .lp (cp [1, 1, 1, 1, 1, 0, 1, 0] (bodyOf Try.f91)), .blk 0, .code (cp [1, 1, 1, 1, 1, 1] (bodyOf Try.f91))] (FinX Try.prog Try.f91 [] (bl r) []) ⟨[(3, .ptr 3 0), (4, .ptr 4 0), (5, .ptr 5 0), (7, .ptr 7 0), (8, .ptr 8 0), (9, .ptr 9 0), (10, i64 1)], [(3, ⟨true, 0, [i64 b3_0, i64 b3_1, i64 b3_2, i64 b3_3]⟩), (4, ⟨true, 0, [i64 b4_0, i64 b4_1, i64 b4_2, i64 b4_3]⟩), (5, ⟨true, 0, [i64 b5_0, i64 b5_1, i64 b5_2, i64 b5_3]⟩), (7, ⟨true, 0, [i64 b7_0, i64 b7_1, i64 b7_2]⟩), (8, ⟨true, 0, [i64 b8_0, i64 b8_1, i64 b8_2]⟩), (9, ⟨true, 0, [i64 b9_0, i64 b9_1, i64 b9_2]⟩)]⟩ := by
  unfold Dspec_l6Clash3_2 at h
  obtain ⟨v6, hv6, h⟩ := bind_some h
  replace h := Option.some.inj h; subst h
  exact x_end 21 [(17, .call [] [(eInt).f [b3_3, b4_3, b5_3], (eInt).f [b7_1, b8_1, b9_1]] (bl v6) [])] [] (ocons (Tspec_l6Sum (Y := Y) n [b7_1, b8_1, b9_1] [b3_3, b4_3, b5_3] _ hv6) (ocons (len_row (L := [b7_1, b8_1, b9_1]) eInt) (ocons (Enc.share eInt eInt sInt [b7_1, b8_1, b9_1]) (ocons (len_row (L := [b3_3, b4_3, b5_3]) eInt) (ocons (Enc.share eInt eInt sInt [b3_3, b4_3, b5_3]) onil))))) onil (by kernel_rfl)
def Dspec_l6Clash3_4 (n : Nat) (_b3_0 _b3_1 _b3_2 b3_3 _b4_0 _b4_1 _b4_2 b4_3 _b5_0 _b5_1 _b5_2 b5_3 _b7_0 _b7_1 b7_2 _b8_0 _b8_1 b8_2 _b9_0 _b9_1 b9_2 : Int) : Option Bool :=
  (Dspec_l6Sum n [b7_2, b8_2, b9_2] [b3_3, b4_3, b5_3]).bind fun v8 => some v8
theorem Tspec_l6Clash3_4 {Y} (n : Nat) (b3_0 b3_1 b3_2 b3_3 b4_0 b4_1 b4_2 b4_3 b5_0 b5_1 b5_2 b5_3 b7_0 b7_1 b7_2 b8_0 b8_1 b8_2 b9_0 b9_1 b9_2 : Int) (r : Bool) (h : Dspec_l6Clash3_4 n b3_0 b3_1 b3_2 b3_3 b4_0 b4_1 b4_2 b4_3 b5_0 b5_1 b5_2 b5_3 b7_0 b7_1 b7_2 b8_0 b8_1 b8_2 b9_0 b9_1 b9_2 = some r) : Wk Try.prog H Y 91 [.code (cp [1, 1, 1, 1, 1, 0, 1, 0, 0, 1, 0, 0, 1, 0, 0] (bodyOf Try.f91)), .code (cp [1, 1, 1, 1, 1, 0, 1, 0, 0, 1, 0, 0, 1, 0, 1] (bodyOf Try.f91)), .blk 1, .code (cp [1, 1, 1, 1, 1, 0, 1, 0, 0, 1, 1] (bodyOf Try.f91)), .lp (cp [1, 1, 1, 1, 1, 0, 1, 0] (bodyOf Try.f91)), .blk 0, .code (cp [1, 1, 1, 1, 1, 1] (bodyOf Try.f91))] (FinX Try.prog Try.f91 [] (bl r) []) ⟨[(3, .ptr 3 0), (4, .ptr 4 0), (5, .ptr 5 0), (7, .ptr 7 0), (8, .ptr 8 0), (9, .ptr 9 0), (10, i64 2)], [(3, ⟨true, 0, [i64 b3_0, i64 b3_1, i64 b3_2, i64 b3_3]⟩), (4, ⟨true, 0, [i64 b4_0, i64 b4_1, i64 b4_2, i64 b4_3]⟩), (5, ⟨true, 0, [i64 b5_0, i64 b5_1, i64 b5_2, i64 b5_3]⟩), (7, ⟨true, 0, [i64 b7_0, i64 b7_1, i64 b7_2]⟩), (8, ⟨true, 0, [i64 b8_0, i64 b8_1, i64 b8_2]⟩), (9, ⟨true, 0, [i64 b9_0, i64 b9_1, i64 b9_2]⟩)]⟩ := by
  unfold Dspec_l6Clash3_4 at h
  obtain ⟨v8, hv8, h⟩ := bind_some h
  replace h := Option.some.inj h; subst h
  exact x_end 21 [(17, .call [] [(eInt).f [b3_3, b4_3, b5_3], (eInt).f [b7_2, b8_2, b9_2]] (bl v8) [])] [] (ocons (Tspec_l6Sum (Y := Y) n [b7_2, b8_2, b9_2] [b3_3, b4_3, b5_3] _ hv8) (ocons (len_row (L := [b7_2, b8_2, b9_2]) eInt) (ocons (Enc.share eInt eInt sInt [b7_2, b8_2, b9_2]) (ocons (len_row (L := [b3_3, b4_3, b5_3]) eInt) (ocons (Enc.share eInt eInt sInt [b3_3, b4_3, b5_3]) onil))))) onil (by kernel_rfl)
def Dspec_l6Clash3_5 (n : Nat) (t44 : Bool) (_b3_0 _b3_1 _b3_2 b3_3 _b4_0 _b4_1 _b4_2 b4_3 _b5_0 _b5_1 _b5_2 b5_3 _b7_0 _b7_1 b7_2 _b8_0 _b8_1 b8_2 _b9_0 _b9_1 b9_2 : Int) : Option Bool :=
  frk t44 ((Dspec_l6Sum n [b7_2, b8_2, b9_2] [b3_3, b4_3, b5_3]).bind fun v9 => some v9) (some false)
theorem Tspec_l6Clash3_5 {Y} (n : Nat) (t44 : Bool) (b3_0 b3_1 b3_2 b3_3 b4_0 b4_1 b4_2 b4_3 b5_0 b5_1 b5_2 b5_3 b7_0 b7_1 b7_2 b8_0 b8_1 b8_2 b9_0 b9_1 b9_2 : Int) (r : Bool) (h : Dspec_l6Clash3_5 n t44 b3_0 b3_1 b3_2 b3_3 b4_0 b4_1 b4_2 b4_3 b5_0 b5_1 b5_2 b5_3 b7_0 b7_1 b7_2 b8_0 b8_1 b8_2 b9_0 b9_1 b9_2 = some r) : Wk Try.prog H Y 91 [.code (cp [1, 1, 1, 1, 1, 0, 1, 0, 0, 1, 0, 0, 1] (bodyOf Try.f91)), .blk 1, .code (cp [1, 1, 1, 1, 1, 0, 1, 0, 0, 1, 1] (bodyOf Try.f91)), .lp (cp [1, 1, 1, 1, 1, 0, 1, 0] (bodyOf Try.f91)), .blk 0, .code (cp [1, 1, 1, 1, 1, 1] (bodyOf Try.f91))] (FinX Try.prog Try.f91 [] (bl r) []) ⟨[(3, .ptr 3 0), (4, .ptr 4 0), (5, .ptr 5 0), (7, .ptr 7 0), (8, .ptr 8 0), (9, .ptr 9 0), (10, i64 2), (44, bl t44)], [(3, ⟨true, 0, [i64 b3_0, i64 b3_1, i64 b3_2, i64 b3_3]⟩), (4, ⟨true, 0, [i64 b4_0, i64 b4_1, i64 b4_2, i64 b4_3]⟩), (5, ⟨true, 0, [i64 b5_0, i64 b5_1, i64 b5_2, i64 b5_3]⟩), (7, ⟨true, 0, [i64 b7_0, i64 b7_1, i64 b7_2]⟩), (8, ⟨true, 0, [i64 b8_0, i64 b8_1, i64 b8_2]⟩), (9, ⟨true, 0, [i64 b9_0, i64 b9_1, i64 b9_2]⟩)]⟩ := by
  unfold Dspec_l6Clash3_5 at h
  refine x_frk 0 [] onil h (by kernel_rfl) (fun h => ?_) (fun h => ?_)
  · obtain ⟨v9, hv9, h⟩ := bind_some h
    replace h := Option.some.inj h; subst h
    exact x_end 22 [(17, .call [] [(eInt).f [b3_3, b4_3, b5_3], (eInt).f [b7_2, b8_2, b9_2]] (bl v9) [])] [] (ocons (Tspec_l6Sum (Y := Y) n [b7_2, b8_2, b9_2] [b3_3, b4_3, b5_3] _ hv9) (ocons (len_row (L := [b7_2, b8_2, b9_2]) eInt) (ocons (Enc.share eInt eInt sInt [b7_2, b8_2, b9_2]) (ocons (len_row (L := [b3_3, b4_3, b5_3]) eInt) (ocons (Enc.share eInt eInt sInt [b3_3, b4_3, b5_3]) onil))))) onil (by kernel_rfl)
  · replace h := Option.some.inj h; subst h
    exact x_end 21 [] [] onil onil (by kernel_rfl)
def Dspec_l6Clash3_3 (n : Nat) (t44 : Bool) (b3_0 b3_1 b3_2 b3_3 b4_0 b4_1 b4_2 b4_3 b5_0 b5_1 b5_2 b5_3 b7_0 b7_1 b7_2 b8_0 b8_1 b8_2 b9_0 b9_1 b9_2 : Int) : Option Bool :=
  frk t44 ((Dspec_l6Sum n [b7_1, b8_1, b9_1] [b3_3, b4_3, b5_3]).bind fun v7 => some v7) (frk (b7_2 != 0) (Dspec_l6Clash3_4 n b3_0 b3_1 b3_2 b3_3 b4_0 b4_1 b4_2 b4_3 b5_0 b5_1 b5_2 b5_3 b7_0 b7_1 b7_2 b8_0 b8_1 b8_2 b9_0 b9_1 b9_2) (frk (b8_2 != 0) (Dspec_l6Clash3_4 n b3_0 b3_1 b3_2 b3_3 b4_0 b4_1 b4_2 b4_3 b5_0 b5_1 b5_2 b5_3 b7_0 b7_1 b7_2 b8_0 b8_1 b8_2 b9_0 b9_1 b9_2) (Dspec_l6Clash3_5 n (b9_2 != 0) b3_0 b3_1 b3_2 b3_3 b4_0 b4_1 b4_2 b4_3 b5_0 b5_1 b5_2 b5_3 b7_0 b7_1 b7_2 b8_0 b8_1 b8_2 b9_0 b9_1 b9_2)))
theorem Tspec_l6Clash3_3 {Y} (n : Nat) (t44 : Bool) (b3_0 b3_1 b3_2 b3_3 b4_0 b4_1 b4_2 b4_3 b5_0 b5_1 b5_2 b5_3 b7_0 b7_1 b7_2 b8_0 b8_1 b8_2 b9_0 b9_1 b9_2 : Int) (r : Bool) (h : Dspec_l6Clash3_3 n t44 b3_0 b3_1 b3_2 b3_3 b4_0 b4_1 b4_2 b4_3 b5_0 b5_1 b5_2 b5_3 b7_0 b7_1 b7_2 b8_0 b8_1 b8_2 b9_0 b9_1 b9_2 = some r) : Wk Try.prog H Y 91 [.code (cp [1, 1, 1, 1, 1, 0, 1, 0, 0, 1, 0, 0, 1] (bodyOf Try.f91)), .blk 1, .code (cp [1, 1, 1, 1, 1, 0, 1, 0, 0, 1, 1] (bodyOf Try.f91)), .lp (cp [1, 1, 1, 1, 1, 0, 1, 0] (bodyOf Try.f91)), .blk 0, .code (cp [1, 1, 1, 1, 1, 1] (bodyOf Try.f91))] (FinX Try.prog Try.f91 [] (bl r) []) ⟨[(3, .ptr 3 0), (4, .ptr 4 0), (5, .ptr 5 0), (7, .ptr 7 0), (8, .ptr 8 0), (9, .ptr 9 0), (10, i64 1), (44, bl t44)], [(3, ⟨true, 0, [i64 b3_0, i64 b3_1, i64 b3_2, i64 b3_3]⟩), (4, ⟨true, 0, [i64 b4_0, i64 b4_1, i64 b4_2, i64 b4_3]⟩), (5, ⟨true, 0, [i64 b5_0, i64 b5_1, i64 b5_2, i64 b5_3]⟩), (7, ⟨true, 0, [i64 b7_0, i64 b7_1, i64 b7_2]⟩), (8, ⟨true, 0, [i64 b8_0, i64 b8_1, i64 b8_2]⟩), (9, ⟨true, 0, [i64 b9_0, i64 b9_1, i64 b9_2]⟩)]⟩ := by
  unfold Dspec_l6Clash3_3 at h
  refine x_frk 0 [] onil h (by kernel_rfl) (fun h => ?_) (fun h => ?_)
  · obtain ⟨v7, hv7, h⟩ := bind_some h
    replace h := Option.some.inj h; subst h
    exact x_end 22 [(17, .call [] [(eInt).f [b3_3, b4_3, b5_3], (eInt).f [b7_1, b8_1, b9_1]] (bl v7) [])] [] (ocons (Tspec_l6Sum (Y := Y) n [b7_1, b8_1, b9_1] [b3_3, b4_3, b5_3] _ hv7) (ocons (len_row (L := [b7_1, b8_1, b9_1]) eInt) (ocons (Enc.share eInt eInt sInt [b7_1, b8_1, b9_1]) (ocons (len_row (L := [b3_3, b4_3, b5_3]) eInt) (ocons (Enc.share eInt eInt sInt [b3_3, b4_3, b5_3]) onil))))) onil (by kernel_rfl)
  · refine x_frk 26 [] onil h (by kernel_rfl) (fun h => ?_) (fun h => ?_)
    · exact x_to 14 [] onil (Tspec_l6Clash3_4 n b3_0 b3_1 b3_2 b3_3 b4_0 b4_1 b4_2 b4_3 b5_0 b5_1 b5_2 b5_3 b7_0 b7_1 b7_2 b8_0 b8_1 b8_2 b9_0 b9_1 b9_2 r h) (by kernel_rfl)
    · refine x_frk 6 [] onil h (by kernel_rfl) (fun h => ?_) (fun h => ?_)
      · exact x_to 8 [] onil (Tspec_l6Clash3_4 n b3_0 b3_1 b3_2 b3_3 b4_0 b4_1 b4_2 b4_3 b5_0 b5_1 b5_2 b5_3 b7_0 b7_1 b7_2 b8_0 b8_1 b8_2 b9_0 b9_1 b9_2 r h) (by kernel_rfl)
      · exact x_to 6 [] onil (Tspec_l6Clash3_5 n (b9_2 != 0) b3_0 b3_1 b3_2 b3_3 b4_0 b4_1 b4_2 b4_3 b5_0 b5_1 b5_2 b5_3 b7_0 b7_1 b7_2 b8_0 b8_1 b8_2 b9_0 b9_1 b9_2 r h) (by kernel_rfl)
def Dspec_l6Clash3_1 (n : Nat) (t44 : Bool) (b3_0 b3_1 b3_2 b3_3 b4_0 b4_1 b4_2 b4_3 b5_0 b5_1 b5_2 b5_3 b7_0 b7_1 b7_2 b8_0 b8_1 b8_2 b9_0 b9_1 b9_2 : Int) : Option Bool :=
  frk t44 ((Dspec_l6Sum n [b7_0, b8_0, b9_0] [b3_3, b4_3, b5_3]).bind fun v5 => some v5) (frk (b7_1 != 0) (Dspec_l6Clash3_2 n b3_0 b3_1 b3_2 b3_3 b4_0 b4_1 b4_2 b4_3 b5_0 b5_1 b5_2 b5_3 b7_0 b7_1 b7_2 b8_0 b8_1 b8_2 b9_0 b9_1 b9_2) (frk (b8_1 != 0) (Dspec_l6Clash3_2 n b3_0 b3_1 b3_2 b3_3 b4_0 b4_1 b4_2 b4_3 b5_0 b5_1 b5_2 b5_3 b7_0 b7_1 b7_2 b8_0 b8_1 b8_2 b9_0 b9_1 b9_2) (Dspec_l6Clash3_3 n (b9_1 != 0) b3_0 b3_1 b3_2 b3_3 b4_0 b4_1 b4_2 b4_3 b5_0 b5_1 b5_2 b5_3 b7_0 b7_1 b7_2 b8_0 b8_1 b8_2 b9_0 b9_1 b9_2)))
theorem Tspec_l6Clash3_1 {Y} (n : Nat) (t44 : Bool) (b3_0 b3_1 b3_2 b3_3 b4_0 b4_1 b4_2 b4_3 b5_0 b5_1 b5_2 b5_3 b7_0 b7_1 b7_2 b8_0 b8_1 b8_2 b9_0 b9_1 b9_2 : Int) (r : Bool) (h : Dspec_l6Clash3_1 n t44 b3_0 b3_1 b3_2 b3_3 b4_0 b4_1 b4_2 b4_3 b5_0 b5_1 b5_2 b5_3 b7_0 b7_1 b7_2 b8_0 b8_1 b8_2 b9_0 b9_1 b9_2 = some r) : Wk Try.prog H Y 91 [.code (cp [1, 1, 1, 1, 1, 0, 1, 0, 0, 1, 0, 0, 1] (bodyOf Try.f91)), .blk 1, .code (cp [1, 1, 1, 1, 1, 0, 1, 0, 0, 1, 1] (bodyOf Try.f91)), .lp (cp [1, 1, 1, 1, 1, 0, 1, 0] (bodyOf Try.f91)), .blk 0, .code (cp [1, 1, 1, 1, 1, 1] (bodyOf Try.f91))] (FinX Try.prog Try.f91 [] (bl r) []) ⟨[(3, .ptr 3 0), (4, .ptr 4 0), (5, .ptr 5 0), (7, .ptr 7 0), (8, .ptr 8 0), (9, .ptr 9 0), (10, i64 0), (44, bl t44)], [(3, ⟨true, 0, [i64 b3_0, i64 b3_1, i64 b3_2, i64 b3_3]⟩), (4, ⟨true, 0, [i64 b4_0, i64 b4_1, i64 b4_2, i64 b4_3]⟩), (5, ⟨true, 0, [i64 b5_0, i64 b5_1, i64 b5_2, i64 b5_3]⟩), (7, ⟨true, 0, [i64 b7_0, i64 b7_1, i64 b7_2]⟩), (8, ⟨true, 0, [i64 b8_0, i64 b8_1, i64 b8_2]⟩), (9, ⟨true, 0, [i64 b9_0, i64 b9_1, i64 b9_2]⟩)]⟩ := by
  unfold Dspec_l6Clash3_1 at h
  refine x_frk 0 [] onil h (by kernel_rfl) (fun h => ?_) (fun h => ?_)
  · obtain ⟨v5, hv5, h⟩ := bind_some h
    replace h := Option.some.inj h; subst h
    exact x_end 22 [(17, .call [] [(eInt).f [b3_3, b4_3, b5_3], (eInt).f [b7_0, b8_0, b9_0]] (bl v5) [])] [] (ocons (Tspec_l6Sum (Y := Y) n [b7_0, b8_0, b9_0] [b3_3, b4_3, b5_3] _ hv5) (ocons (len_row (L := [b7_0, b8_0, b9_0]) eInt) (ocons (Enc.share eInt eInt sInt [b7_0, b8_0, b9_0]) (ocons (len_row (L := [b3_3, b4_3, b5_3]) eInt) (ocons (Enc.share eInt eInt sInt [b3_3, b4_3, b5_3]) onil))))) onil (by kernel_rfl)
  · refine x_frk 26 [] onil h (by kernel_rfl) (fun h => ?_) (fun h => ?_)
    · exact x_to 14 [] onil (Tspec_l6Clash3_2 n b3_0 b3_1 b3_2 b3_3 b4_0 b4_1 b4_2 b4_3 b5_0 b5_1 b5_2 b5_3 b7_0 b7_1 b7_2 b8_0 b8_1 b8_2 b9_0 b9_1 b9_2 r h) (by kernel_rfl)
    · refine x_frk 6 [] onil h (by kernel_rfl) (fun h => ?_) (fun h => ?_)
      · exact x_to 8 [] onil (Tspec_l6Clash3_2 n b3_0 b3_1 b3_2 b3_3 b4_0 b4_1 b4_2 b4_3 b5_0 b5_1 b5_2 b5_3 b7_0 b7_1 b7_2 b8_0 b8_1 b8_2 b9_0 b9_1 b9_2 r h) (by kernel_rfl)
      · exact x_to 6 [] onil (Tspec_l6Clash3_3 n (b9_1 != 0) b3_0 b3_1 b3_2 b3_3 b4_0 b4_1 b4_2 b4_3 b5_0 b5_1 b5_2 b5_3 b7_0 b7_1 b7_2 b8_0 b8_1 b8_2 b9_0 b9_1 b9_2 r h) (by kernel_rfl)
def Dspec_l6Clash3 (n : Nat) (a0 : Pl) (a1 : Pl) (a2 : Pl) : Option Bool :=
  (Dspec_l4Det3 a0 a1 a2).bind fun v0 => frk (v0 != 0) (some false) ((Dspec_l4Cross a1 a2).bind fun v1 => (Dspec_l4Cross a2 a0).bind fun v2 => (Dspec_l4Cross a0 a1).bind fun v3 => frk (v1.1 != 0) (Dspec_l6Clash3_0 n a0.A a0.B a0.C a0.D a1.A a1.B a1.C a1.D a2.A a2.B a2.C a2.D v1.1 v1.2.1 v1.2.2 v2.1 v2.2.1 v2.2.2 v3.1 v3.2.1 v3.2.2) (frk (v2.1 != 0) (Dspec_l6Clash3_0 n a0.A a0.B a0.C a0.D a1.A a1.B a1.C a1.D a2.A a2.B a2.C a2.D v1.1 v1.2.1 v1.2.2 v2.1 v2.2.1 v2.2.2 v3.1 v3.2.1 v3.2.2) (Dspec_l6Clash3_1 n (v3.1 != 0) a0.A a0.B a0.C a0.D a1.A a1.B a1.C a1.D a2.A a2.B a2.C a2.D v1.1 v1.2.1 v1.2.2 v2.1 v2.2.1 v2.2.2 v3.1 v3.2.1 v3.2.2)))
theorem Tspec_l6Clash3 {Y} (n : Nat) (a0 : Pl) (a1 : Pl) (a2 : Pl) (r : Bool) (h : Dspec_l6Clash3 n a0 a1 a2 = some r) : Big Try.prog H Y (.call 91 [.agg [i64 a0.A, i64 a0.B, i64 a0.C, i64 a0.D], .agg [i64 a1.A, i64 a1.B, i64 a1.C, i64 a1.D], .agg [i64 a2.A, i64 a2.B, i64 a2.C, i64 a2.D]] (lk []) (bl r) (lk [])) := by
  unfold Dspec_l6Clash3 at h
  refine x_call (fn := Try.f91) (c := bodyOf Try.f91) (bs0 := []) Try.func91 (by kernel_rfl) (by kernel_rfl) ?_
  obtain ⟨v0, hv0, h⟩ := bind_some h
  refine x_frk 16 [(7, .call [] [] (i64 v0) [])] (ocons (Tspec_l4Det3 (Y := Y) a0 a1 a2 _ hv0) onil) h (by kernel_rfl) (fun h => ?_) (fun h => ?_)
  · replace h := Option.some.inj h; subst h
    exact x_end 4 [] [] onil onil (by kernel_rfl)
  · obtain ⟨v1, hv1, h⟩ := bind_some h
    obtain ⟨v2, hv2, h⟩ := bind_some h
    obtain ⟨v3, hv3, h⟩ := bind_some h
    refine x_frk 49 [(2, .call [] [] (.agg [i64 v1.1, i64 v1.2.1, i64 v1.2.2]) []), (4, .call [] [] (.agg [i64 v2.1, i64 v2.2.1, i64 v2.2.2]) []), (4, .call [] [] (.agg [i64 v3.1, i64 v3.2.1, i64 v3.2.2]) [])] (ocons (Tspec_l4Cross (Y := Y) a1 a2 _ hv1) (ocons (Tspec_l4Cross (Y := Y) a2 a0 _ hv2) (ocons (Tspec_l4Cross (Y := Y) a0 a1 _ hv3) onil))) h (by kernel_rfl) (fun h => ?_) (fun h => ?_)
    · exact x_to 14 [] onil (Tspec_l6Clash3_0 n a0.A a0.B a0.C a0.D a1.A a1.B a1.C a1.D a2.A a2.B a2.C a2.D v1.1 v1.2.1 v1.2.2 v2.1 v2.2.1 v2.2.2 v3.1 v3.2.1 v3.2.2 r h) (by kernel_rfl)
    · refine x_frk 6 [] onil h (by kernel_rfl) (fun h => ?_) (fun h => ?_)
      · exact x_to 8 [] onil (Tspec_l6Clash3_0 n a0.A a0.B a0.C a0.D a1.A a1.B a1.C a1.D a2.A a2.B a2.C a2.D v1.1 v1.2.1 v1.2.2 v2.1 v2.2.1 v2.2.2 v3.1 v3.2.1 v3.2.2 r h) (by kernel_rfl)
      · exact x_to 6 [] onil (Tspec_l6Clash3_1 n (v3.1 != 0) a0.A a0.B a0.C a0.D a1.A a1.B a1.C a1.D a2.A a2.B a2.C a2.D v1.1 v1.2.1 v1.2.2 v2.1 v2.2.1 v2.2.2 v3.1 v3.2.1 v3.2.2 r h) (by kernel_rfl)
/-! spec.l6Clash4 -/
def Dspec_l6Clash4 (n : Nat) (a0 : Pl) (a1 : Pl) (a2 : Pl) (a3 : Pl) : Option Bool :=
  (Dspec_l4Det3 a1 a2 a3).bind fun v0 => (Dspec_l4Det3 a0 a2 a3).bind fun v1 => (Dspec_l4Det3 a0 a1 a3).bind fun v2 => (Dspec_l4Det3 a0 a1 a2).bind fun v3 => (Dspec_l6Sum n [v0, w64 (0 - v1), v2, w64 (0 - v3)] [a0.D, a1.D, a2.D, a3.D]).bind fun v4 => some v4
theorem Tspec_l6Clash4 {Y} (n : Nat) (a0 : Pl) (a1 : Pl) (a2 : Pl) (a3 : Pl) (r : Bool) (h : Dspec_l6Clash4 n a0 a1 a2 a3 = some r) : Big Try.prog H Y (.call 92 [.agg [i64 a0.A, i64 a0.B, i64 a0.C, i64 a0.D], .agg [i64 a1.A, i64 a1.B, i64 a1.C, i64 a1.D], .agg [i64 a2.A, i64 a2.B, i64 a2.C, i64 a2.D], .agg [i64 a3.A, i64 a3.B, i64 a3.C, i64 a3.D]] (lk []) (bl r) (lk [])) := by
  unfold Dspec_l6Clash4 at h
  refine x_call (fn := Try.f92) (c := bodyOf Try.f92) (bs0 := []) Try.func92 (by kernel_rfl) (by kernel_rfl) ?_
  obtain ⟨v0, hv0, h⟩ := bind_some h
  obtain ⟨v1, hv1, h⟩ := bind_some h
  obtain ⟨v2, hv2, h⟩ := bind_some h
  obtain ⟨v3, hv3, h⟩ := bind_some h
  obtain ⟨v4, hv4, h⟩ := bind_some h
  replace h := Option.some.inj h; subst h
  exact x_end 46 [(8, .call [] [] (i64 v0) []), (3, .call [] [] (i64 v1) []), (4, .call [] [] (i64 v2) []), (3, .call [] [] (i64 v3) []), (13, .call [] [(eInt).f [a0.D, a1.D, a2.D, a3.D], (eInt).f [v0, w64 (0 - v1), v2, w64 (0 - v3)]] (bl v4) [])] [] (ocons (Tspec_l4Det3 (Y := Y) a1 a2 a3 _ hv0) (ocons (Tspec_l4Det3 (Y := Y) a0 a2 a3 _ hv1) (ocons (Tspec_l4Det3 (Y := Y) a0 a1 a3 _ hv2) (ocons (Tspec_l4Det3 (Y := Y) a0 a1 a2 _ hv3) (ocons (Tspec_l6Sum (Y := Y) n [v0, w64 (0 - v1), v2, w64 (0 - v3)] [a0.D, a1.D, a2.D, a3.D] _ hv4) (ocons (len_row (L := [v0, w64 (0 - v1), v2, w64 (0 - v3)]) eInt) (ocons (Enc.share eInt eInt sInt [v0, w64 (0 - v1), v2, w64 (0 - v3)]) (ocons (len_row (L := [a0.D, a1.D, a2.D, a3.D]) eInt) (ocons (Enc.share eInt eInt sInt [a0.D, a1.D, a2.D, a3.D]) onil))))))))) onil (by kernel_rfl)
/-! spec.l6With -/
def Dspec_l6With_0 (n : Nat) (rec1 : Int → Option Bool) (_rec0 : Int → Option Bool) (t6 : Int) (t0 : List Pl) (t5 b3_0 b3_1 b3_2 b3_3 t7 : Int) (rec2 : Int → Option Bool) (a : Int) : Option Bool :=
  match a with
  | t8 => frk (decide (t8 < t5)) ((lget t0 t6).bind fun v5 => (lget t0 t7).bind fun v6 => (lget t0 t8).bind fun v7 => (Dspec_l6Clash4 n v5 v6 v7 (Pl.mk b3_0 b3_1 b3_2 b3_3)).bind fun v8 => frk v8 (some true) (rec2 (w64 (t8 + 1)))) (rec1 (w64 (t7 + 1)))
theorem Tspec_l6With_0 {Y} (n : Nat) (rec1 : Int → Option Bool) (rec0 : Int → Option Bool) (t6 : Int) (t0 : List Pl) (t5 b3_0 b3_1 b3_2 b3_3 : Int) (hrec1 : ∀ (a : Int) (r : Bool), rec1 a = some r → Wk Try.prog H Y 65 [.code (cp [1, 1, 0, 1, 0, 0, 1, 0, 0, 1, 1, 0] (bodyOf Try.f65)), .blk 2, .blk 1, .code (cp [1, 1, 0, 1, 0, 0, 1, 1] (bodyOf Try.f65)), .lp (cp [1, 1, 0, 1, 0] (bodyOf Try.f65)), .blk 0, .code (cp [1, 1, 1] (bodyOf Try.f65))] (FinX Try.prog Try.f65 [] (bl r) []) ⟨[(0, .sl false 4 t0.length ((ePl).f t0)), (3, .ptr 3 0), (5, i64 t5), (6, i64 t6), (7, i64 a)], [(3, ⟨true, 0, [i64 b3_0, i64 b3_1, i64 b3_2, i64 b3_3]⟩)]⟩) (_hrec0 : ∀ (a : Int) (r : Bool), rec0 a = some r → Wk Try.prog H Y 65 [.code (cp [1, 1, 0, 1, 0] (bodyOf Try.f65)), .blk 0, .code (cp [1, 1, 1] (bodyOf Try.f65))] (FinX Try.prog Try.f65 [] (bl r) []) ⟨[(0, .sl false 4 t0.length ((ePl).f t0)), (3, .ptr 3 0), (5, i64 t5), (6, i64 a)], [(3, ⟨true, 0, [i64 b3_0, i64 b3_1, i64 b3_2, i64 b3_3]⟩)]⟩) (t7 : Int) : ∀ (m : Nat) (a : Int) (r : Bool), loopN (Dspec_l6With_0 n rec1 rec0 t6 t0 t5 b3_0 b3_1 b3_2 b3_3 t7) m a = some r → Wk Try.prog H Y 65 [.code (cp [1, 1, 0, 1, 0, 0, 1, 0, 0, 1, 1, 0, 0, 1, 0, 0, 1, 1, 0] (bodyOf Try.f65)), .blk 4, .blk 3, .code (cp [1, 1, 0, 1, 0, 0, 1, 0, 0, 1, 1, 0, 0, 1, 1] (bodyOf Try.f65)), .lp (cp [1, 1, 0, 1, 0, 0, 1, 0, 0, 1, 1, 0] (bodyOf Try.f65)), .blk 2, .blk 1, .code (cp [1, 1, 0, 1, 0, 0, 1, 1] (bodyOf Try.f65)), .lp (cp [1, 1, 0, 1, 0] (bodyOf Try.f65)), .blk 0, .code (cp [1, 1, 1] (bodyOf Try.f65))] (FinX Try.prog Try.f65 [] (bl r) []) ⟨[(0, .sl false 4 t0.length ((ePl).f t0)), (3, .ptr 3 0), (5, i64 t5), (6, i64 t6), (7, i64 t7), (8, i64 a)], [(3, ⟨true, 0, [i64 b3_0, i64 b3_1, i64 b3_2, i64 b3_3]⟩)]⟩ := by
  refine loopN_ind (fun _rec2 hrec2 a r h => ?_)
  obtain ⟨t8, rfl⟩ : ∃ x, x = a := ⟨a, rfl⟩
  unfold Dspec_l6With_0 at h
  refine x_frk 8 [] onil h (by kernel_rfl) (fun h => ?_) (fun h => ?_)
  · obtain ⟨v5, hv5, h⟩ := bind_some h
    obtain ⟨v6, hv6, h⟩ := bind_some h
    obtain ⟨v7, hv7, h⟩ := bind_some h
    obtain ⟨v8, hv8, h⟩ := bind_some h
    refine x_frk 20 [(2, .val (.cptr (ePl.c v5 ++ (ePl).f ((t0).drop (Int.toNat t6 + 1))))), (3, .val (.cptr (ePl.c v6 ++ (ePl).f ((t0).drop (Int.toNat t7 + 1))))), (3, .val (.cptr (ePl.c v7 ++ (ePl).f ((t0).drop (Int.toNat t8 + 1))))), (2, .call [] [] (bl v8) [])] (ocons (ix ePl hv5) (ocons (ix ePl hv6) (ocons (ix ePl hv7) (ocons (Tspec_l6Clash4 (Y := Y) n v5 v6 v7 (Pl.mk b3_0 b3_1 b3_2 b3_3) _ hv8) onil)))) h (by kernel_rfl) (fun h => ?_) (fun h => ?_)
    · replace h := Option.some.inj h; subst h
      exact x_end 4 [] [] onil onil (by kernel_rfl)
    · exact x_to 8 [] onil (hrec2 (w64 (t8 + 1)) r h) (by kernel_rfl)
  · exact x_to 8 [] onil (hrec1 (w64 (t7 + 1)) r h) (by kernel_rfl)
def Dspec_l6With_1 (n : Nat) (rec0 : Int → Option Bool) (t0 : List Pl) (t5 b3_0 b3_1 b3_2 b3_3 t6 : Int) (rec1 : Int → Option Bool) (a : Int) : Option Bool :=
  match a with
  | t7 => frk (decide (t7 < t5)) ((lget t0 t6).bind fun v2 => (lget t0 t7).bind fun v3 => (Dspec_l6Clash3 n v2 v3 (Pl.mk b3_0 b3_1 b3_2 b3_3)).bind fun v4 => frk v4 (some true) (loopN (Dspec_l6With_0 n rec1 rec0 t6 t0 t5 b3_0 b3_1 b3_2 b3_3 t7) n (w64 (t7 + 1)))) (rec0 (w64 (t6 + 1)))
theorem Tspec_l6With_1 {Y} (n : Nat) (rec0 : Int → Option Bool) (t0 : List Pl) (t5 b3_0 b3_1 b3_2 b3_3 : Int) (hrec0 : ∀ (a : Int) (r : Bool), rec0 a = some r → Wk Try.prog H Y 65 [.code (cp [1, 1, 0, 1, 0] (bodyOf Try.f65)), .blk 0, .code (cp [1, 1, 1] (bodyOf Try.f65))] (FinX Try.prog Try.f65 [] (bl r) []) ⟨[(0, .sl false 4 t0.length ((ePl).f t0)), (3, .ptr 3 0), (5, i64 t5), (6, i64 a)], [(3, ⟨true, 0, [i64 b3_0, i64 b3_1, i64 b3_2, i64 b3_3]⟩)]⟩) (t6 : Int) : ∀ (m : Nat) (a : Int) (r : Bool), loopN (Dspec_l6With_1 n rec0 t0 t5 b3_0 b3_1 b3_2 b3_3 t6) m a = some r → Wk Try.prog H Y 65 [.code (cp [1, 1, 0, 1, 0, 0, 1, 0, 0, 1, 1, 0] (bodyOf Try.f65)), .blk 2, .blk 1, .code (cp [1, 1, 0, 1, 0, 0, 1, 1] (bodyOf Try.f65)), .lp (cp [1, 1, 0, 1, 0] (bodyOf Try.f65)), .blk 0, .code (cp [1, 1, 1] (bodyOf Try.f65))] (FinX Try.prog Try.f65 [] (bl r) []) ⟨[(0, .sl false 4 t0.length ((ePl).f t0)), (3, .ptr 3 0), (5, i64 t5), (6, i64 t6), (7, i64 a)], [(3, ⟨true, 0, [i64 b3_0, i64 b3_1, i64 b3_2, i64 b3_3]⟩)]⟩ := by
  refine loopN_ind (fun rec1 hrec1 a r h => ?_)
  obtain ⟨t7, rfl⟩ : ∃ x, x = a := ⟨a, rfl⟩
  unfold Dspec_l6With_1 at h
  refine x_frk 8 [] onil h (by kernel_rfl) (fun h => ?_) (fun h => ?_)
  · obtain ⟨v2, hv2, h⟩ := bind_some h
    obtain ⟨v3, hv3, h⟩ := bind_some h
    obtain ⟨v4, hv4, h⟩ := bind_some h
    refine x_frk 17 [(2, .val (.cptr (ePl.c v2 ++ (ePl).f ((t0).drop (Int.toNat t6 + 1))))), (3, .val (.cptr (ePl.c v3 ++ (ePl).f ((t0).drop (Int.toNat t7 + 1))))), (2, .call [] [] (bl v4) [])] (ocons (ix ePl hv2) (ocons (ix ePl hv3) (ocons (Tspec_l6Clash3 (Y := Y) n v2 v3 (Pl.mk b3_0 b3_1 b3_2 b3_3) _ hv4) onil))) h (by kernel_rfl) (fun h => ?_) (fun h => ?_)
    · replace h := Option.some.inj h; subst h
      exact x_end 4 [] [] onil onil (by kernel_rfl)
    · exact x_to 8 [] onil (Tspec_l6With_0 n rec1 rec0 t6 t0 t5 b3_0 b3_1 b3_2 b3_3 hrec1 hrec0 t7 n (w64 (t7 + 1)) r h) (by kernel_rfl)
  · exact x_to 8 [] onil (hrec0 (w64 (t6 + 1)) r h) (by kernel_rfl)
def Dspec_l6With_2 (n : Nat) (t0 : List Pl) (t5 b3_0 b3_1 b3_2 b3_3 : Int) (rec0 : Int → Option Bool) (a : Int) : Option Bool :=
  match a with
  | t6 => frk (decide (t6 < t5)) ((lget t0 t6).bind fun v0 => (Dspec_l6Clash2 v0 (Pl.mk b3_0 b3_1 b3_2 b3_3)).bind fun v1 => frk v1 (some true) (loopN (Dspec_l6With_1 n rec0 t0 t5 b3_0 b3_1 b3_2 b3_3 t6) n (w64 (t6 + 1)))) (some false)
theorem Tspec_l6With_2 {Y} (n : Nat) (t0 : List Pl) (t5 b3_0 b3_1 b3_2 b3_3 : Int) : ∀ (m : Nat) (a : Int) (r : Bool), loopN (Dspec_l6With_2 n t0 t5 b3_0 b3_1 b3_2 b3_3) m a = some r → Wk Try.prog H Y 65 [.code (cp [1, 1, 0, 1, 0] (bodyOf Try.f65)), .blk 0, .code (cp [1, 1, 1] (bodyOf Try.f65))] (FinX Try.prog Try.f65 [] (bl r) []) ⟨[(0, .sl false 4 t0.length ((ePl).f t0)), (3, .ptr 3 0), (5, i64 t5), (6, i64 a)], [(3, ⟨true, 0, [i64 b3_0, i64 b3_1, i64 b3_2, i64 b3_3]⟩)]⟩ := by
  refine loopN_ind (fun rec0 hrec0 a r h => ?_)
  obtain ⟨t6, rfl⟩ : ∃ x, x = a := ⟨a, rfl⟩
  unfold Dspec_l6With_2 at h
  refine x_frk 8 [] onil h (by kernel_rfl) (fun h => ?_) (fun h => ?_)
  · obtain ⟨v0, hv0, h⟩ := bind_some h
    obtain ⟨v1, hv1, h⟩ := bind_some h
    refine x_frk 13 [(2, .val (.cptr (ePl.c v0 ++ (ePl).f ((t0).drop (Int.toNat t6 + 1))))), (2, .call [] [] (bl v1) [])] (ocons (ix ePl hv0) (ocons (Tspec_l6Clash2 (Y := Y) v0 (Pl.mk b3_0 b3_1 b3_2 b3_3) _ hv1) onil)) h (by kernel_rfl) (fun h => ?_) (fun h => ?_)
    · replace h := Option.some.inj h; subst h
      exact x_end 4 [] [] onil onil (by kernel_rfl)
    · exact x_to 8 [] onil (Tspec_l6With_1 n rec0 t0 t5 b3_0 b3_1 b3_2 b3_3 hrec0 t6 n (w64 (t6 + 1)) r h) (by kernel_rfl)
  · replace h := Option.some.inj h; subst h
    exact x_end 5 [] [] onil onil (by kernel_rfl)
def Dspec_l6With (n : Nat) (a0 : (List Pl)) (a1 : Pl) : Option Bool :=
  loopN (Dspec_l6With_2 n a0 (a0.length : Int) a1.A a1.B a1.C a1.D) n 0
theorem Tspec_l6With {Y} (n : Nat) (a0 : (List Pl)) (a1 : Pl) (r : Bool) (h : Dspec_l6With n a0 a1 = some r) : Big Try.prog H Y (.call 65 [.sl false 4 a0.length ((ePl).f a0), .agg [i64 a1.A, i64 a1.B, i64 a1.C, i64 a1.D]] (lk []) (bl r) (lk [])) := by
  unfold Dspec_l6With at h
  refine x_call (fn := Try.f65) (c := bodyOf Try.f65) (bs0 := []) Try.func65 (by kernel_rfl) (by kernel_rfl) ?_
  exact x_to 17 [] onil (Tspec_l6With_2 n a0 (a0.length : Int) a1.A a1.B a1.C a1.D n 0 r h) (by kernel_rfl)
/-! spec.l3Flip -/
def Dspec_l3Flip (a0 : Pl) : Option Pl :=
  some (Pl.mk (w64 (0 - a0.A)) (w64 (0 - a0.B)) (w64 (0 - a0.C)) (w64 (0 - a0.D)))
theorem Tspec_l3Flip {Y} (a0 : Pl) (r : Pl) (h : Dspec_l3Flip a0 = some r) : Big Try.prog H Y (.call 48 [.agg [i64 a0.A, i64 a0.B, i64 a0.C, i64 a0.D]] (lk []) (.agg [i64 r.A, i64 r.B, i64 r.C, i64 r.D]) (lk [])) := by
  unfold Dspec_l3Flip at h
  refine x_call (fn := Try.f48) (c := bodyOf Try.f48) (bs0 := []) Try.func48 (by kernel_rfl) (by kernel_rfl) ?_
  replace h := Option.some.inj h; subst h
  exact x_end 22 [] [] onil onil (by kernel_rfl)
/-! spec.l8Path -/
def Dspec_l8Path (a0 : (List Pl)) (a1 : Pl) : Option (List Pl) :=
  chk (apB 32 (0 + a0.length)) (chk (apB 32 (([] ++ a0).length + 1)) (some (([] ++ a0) ++ [a1])))
theorem Tspec_l8Path {Y} (a0 : (List Pl)) (a1 : Pl) (r : (List Pl)) (h : Dspec_l8Path a0 a1 = some r) : Big Try.prog H Y (.call 47 [.sl false 4 a0.length ((ePl).f a0), .agg [i64 a1.A, i64 a1.B, i64 a1.C, i64 a1.D]] (lk []) (.sl true 4 r.length ((ePl).f r)) (lk [])) := by
  unfold Dspec_l8Path at h
  refine x_call (fn := Try.f47) (c := bodyOf Try.f47) (bs0 := []) Try.func47 (by kernel_rfl) (by kernel_rfl) ?_
  obtain ⟨c0, h⟩ := chk_some h
  obtain ⟨c1, h⟩ := chk_some h
  replace h := Option.some.inj h; subst h
  exact x_end 15 [(4, .app false (List.length ([] ++ a0)) ((ePl).f ([] ++ a0))), (2, .app false (List.length (([] ++ a0) ++ [a1])) ((ePl).f (([] ++ a0) ++ [a1])))] [] (ocons (len_row' (L := []) ePl) (ocons (app_one (L := []) (M := a0) ePl c0) (ocons (app_new (L := []) (M := a0) ePl) (ocons (app_m (L := []) (M := a0) ePl rfl) (ocons (len_row' (L := a0) ePl) (ocons (len_row' (L := ([] ++ a0)) ePl) (ocons (app_one (L := ([] ++ a0)) (M := [a1]) ePl c1) (ocons (app_new (L := ([] ++ a0)) (M := [a1]) ePl) (ocons (app_m (L := ([] ++ a0)) (M := [a1]) ePl rfl) (ocons (len_row' (L := [a1]) ePl) (ocons (Enc.noOwn ePl (fun _ => rfl) [a1]) onil))))))))))) (ocons (len_row (L := (([] ++ a0) ++ [a1])) ePl) onil) (by kernel_rfl)
/-! spec.l8Look -/
def Dspec_l8Look_0 (_n : Nat) (self : (Sol × (List Pl)) → Option Bool) (t1 : List Pl) (t42 _b2_0 : Bool) (b2_1 b2_2 b2_3 b2_4 : Int) (b2_5 : List Sol) : Option Bool :=
  frk t42 (some false) ((lget b2_5 0).bind fun v5 => (Dspec_l8Path t1 (Pl.mk b2_1 b2_2 b2_3 b2_4)).bind fun v6 => (self (v5, v6)).bind fun v7 => frk v7 ((lget b2_5 1).bind fun v8 => (Dspec_l3Flip (Pl.mk b2_1 b2_2 b2_3 b2_4)).bind fun v9 => (Dspec_l8Path t1 v9).bind fun v10 => (self (v8, v10)).bind fun v11 => some v11) (some false))
theorem Tspec_l8Look_0 {Y} (n : Nat) (self : (Sol × (List Pl)) → Option Bool) (hself : ∀ (a : (Sol × (List Pl))) (r : Bool), self a = some r → Big Try.prog H Y (.call 45 [.agg [bl a.1.inn, i64 a.1.pl.A, i64 a.1.pl.B, i64 a.1.pl.C, i64 a.1.pl.D, .sl false 6 a.1.kids.length ((eSol false).f a.1.kids)], .sl false 4 a.2.length ((ePl).f a.2)] (lk []) (bl r) (lk []))) (t1 : List Pl) (t42 b2_0 : Bool) (b2_1 b2_2 b2_3 b2_4 : Int) (b2_5 : List Sol) (r : Bool) (h : Dspec_l8Look_0 n self t1 t42 b2_0 b2_1 b2_2 b2_3 b2_4 b2_5 = some r) : Wk Try.prog H Y 45 [.code (cp [1, 1, 0, 1] (bodyOf Try.f45)), .code (cp [1, 1, 1] (bodyOf Try.f45))] (FinX Try.prog Try.f45 [] (bl r) []) ⟨[(1, .sl false 4 t1.length ((ePl).f t1)), (2, .ptr 2 0), (42, bl t42)], [(2, ⟨true, 0, [bl b2_0, i64 b2_1, i64 b2_2, i64 b2_3, i64 b2_4, .sl false 6 b2_5.length ((eSol false).f b2_5)]⟩)]⟩ := by
  unfold Dspec_l8Look_0 at h
  refine x_frk 0 [] onil h (by kernel_rfl) (fun h => ?_) (fun h => ?_)
  · replace h := Option.some.inj h; subst h
    exact x_end 4 [] [] onil onil (by kernel_rfl)
  · obtain ⟨v5, hv5, h⟩ := bind_some h
    obtain ⟨v6, hv6, h⟩ := bind_some h
    obtain ⟨v7, hv7, h⟩ := bind_some h
    refine x_frk 13 [(2, .val (.cptr ((eSol false).c v5 ++ (eSol false).f ((b2_5).drop (Int.toNat 0 + 1))))), (4, .call [] [] (.sl false 4 v6.length ((ePl).f v6)) []), (0, .call [] [] (bl v7) [])] (ocons (ix (eSol false) hv5) (ocons (shSl (L := v6) ePl ePl sPl (Tspec_l8Path (Y := Y) t1 (Pl.mk b2_1 b2_2 b2_3 b2_4) _ hv6)) (ocons (hself (v5, v6) _ hv7) onil))) h (by kernel_rfl) (fun h => ?_) (fun h => ?_)
    · obtain ⟨v8, hv8, h⟩ := bind_some h
      obtain ⟨v9, hv9, h⟩ := bind_some h
      obtain ⟨v10, hv10, h⟩ := bind_some h
      obtain ⟨v11, hv11, h⟩ := bind_some h
      replace h := Option.some.inj h; subst h
      exact x_end 13 [(2, .val (.cptr ((eSol false).c v8 ++ (eSol false).f ((b2_5).drop (Int.toNat 1 + 1))))), (4, .call [] [] (.agg [i64 v9.A, i64 v9.B, i64 v9.C, i64 v9.D]) []), (0, .call [] [] (.sl false 4 v10.length ((ePl).f v10)) []), (0, .call [] [] (bl v11) [])] [] (ocons (ix (eSol false) hv8) (ocons (Tspec_l3Flip (Y := Y) (Pl.mk b2_1 b2_2 b2_3 b2_4) _ hv9) (ocons (shSl (L := v10) ePl ePl sPl (Tspec_l8Path (Y := Y) t1 v9 _ hv10)) (ocons (hself (v8, v10) _ hv11) onil)))) onil (by kernel_rfl)
    · replace h := Option.some.inj h; subst h
      exact x_end 13 [] [] onil onil (by kernel_rfl)
def Dspec_l8Look_b (n : Nat) (self : (Sol × (List Pl)) → Option Bool) (a : (Sol × (List Pl))) : Option Bool :=
  match a with
  | (a0, a1) => (Dspec_l8Leaf a0).bind fun v0 => frk v0 (some (a0.pl.A == 0 && (a0.pl.B == 0 && (a0.pl.C == 0 && (a0.pl.D == 0 && true))))) (frk ((a0.kids.length : Int) != 2) (some false) (frk a0.inn (some false) ((Dspec_PlaneOk n a0.pl).bind fun v1 => frk (!v1) (some false) (frk ((a1.length : Int) == 24) (some false) ((Dspec_l6With n a1 a0.pl).bind fun v2 => frk v2 (some false) ((Dspec_l3Flip a0.pl).bind fun v3 => (Dspec_l6With n a1 v3).bind fun v4 => Dspec_l8Look_0 n self a1 v4 a0.inn a0.pl.A a0.pl.B a0.pl.C a0.pl.D a0.kids))))))
def Dspec_l8Look (n : Nat) (a0 : Sol) (a1 : (List Pl)) : Option Bool := loopN (Dspec_l8Look_b n) n (a0, a1)
theorem Tspec_l8Look_b {Y} (n : Nat) : ∀ (m : Nat) (a : (Sol × (List Pl))) (r : Bool), loopN (Dspec_l8Look_b n) m a = some r → ∀ (_ : Unit), Big Try.prog H Y (.call 45 [.agg [bl a.1.inn, i64 a.1.pl.A, i64 a.1.pl.B, i64 a.1.pl.C, i64 a.1.pl.D, .sl false 6 a.1.kids.length ((eSol false).f a.1.kids)], .sl false 4 a.2.length ((ePl).f a.2)] (lk []) (bl r) (lk [])) := by
  refine loopN_ind (fun self hs a r h => ?_)
  have hself : ∀ (a : (Sol × (List Pl))) (r : Bool), self a = some r → Big Try.prog H Y (.call 45 [.agg [bl a.1.inn, i64 a.1.pl.A, i64 a.1.pl.B, i64 a.1.pl.C, i64 a.1.pl.D, .sl false 6 a.1.kids.length ((eSol false).f a.1.kids)], .sl false 4 a.2.length ((ePl).f a.2)] (lk []) (bl r) (lk [])) := fun a r h => hs a r h ()
  intro _
  obtain ⟨a0, a1⟩ := a
  unfold Dspec_l8Look_b at h
  refine x_call (fn := Try.f45) (c := bodyOf Try.f45) (bs0 := []) Try.func45 (by kernel_rfl) (by kernel_rfl) ?_
  obtain ⟨v0, hv0, h⟩ := bind_some h
  refine x_frk 11 [(3, .call [] [] (bl v0) [])] (ocons (Tspec_l8Leaf (Y := Y) a0 _ hv0) onil) h (by kernel_rfl) (fun h => ?_) (fun h => ?_)
  · replace h := Option.some.inj h; subst h
    exact x_end 8 [] [] onil onil (by kernel_rfl)
  · refine x_frk 9 [] onil h (by kernel_rfl) (fun h => ?_) (fun h => ?_)
    · replace h := Option.some.inj h; subst h
      exact x_end 33 [] [] onil onil (by kernel_rfl)
    · refine x_frk 4 [] onil h (by kernel_rfl) (fun h => ?_) (fun h => ?_)
      · replace h := Option.some.inj h; subst h
        exact x_end 29 [] [] onil onil (by kernel_rfl)
      · obtain ⟨v1, hv1, h⟩ := bind_some h
        refine x_frk 6 [(2, .call [] [] (bl v1) [])] (ocons (Tspec_PlaneOk (Y := Y) n a0.pl _ hv1) onil) h (by kernel_rfl) (fun h => ?_) (fun h => ?_)
        · replace h := Option.some.inj h; subst h
          exact x_end 23 [] [] onil onil (by kernel_rfl)
        · refine x_frk 5 [] onil h (by kernel_rfl) (fun h => ?_) (fun h => ?_)
          · replace h := Option.some.inj h; subst h
            exact x_end 18 [] [] onil onil (by kernel_rfl)
          · obtain ⟨v2, hv2, h⟩ := bind_some h
            refine x_frk 6 [(3, .call [] [] (bl v2) [])] (ocons (Tspec_l6With (Y := Y) n a1 a0.pl _ hv2) onil) h (by kernel_rfl) (fun h => ?_) (fun h => ?_)
            · replace h := Option.some.inj h; subst h
              exact x_end 12 [] [] onil onil (by kernel_rfl)
            · obtain ⟨v3, hv3, h⟩ := bind_some h
              obtain ⟨v4, hv4, h⟩ := bind_some h
              exact x_to 7 [(3, .call [] [] (.agg [i64 v3.A, i64 v3.B, i64 v3.C, i64 v3.D]) []), (0, .call [] [] (bl v4) [])] (ocons (Tspec_l3Flip (Y := Y) a0.pl _ hv3) (ocons (Tspec_l6With (Y := Y) n a1 v3 _ hv4) onil)) (Tspec_l8Look_0 n self hself a1 v4 a0.inn a0.pl.A a0.pl.B a0.pl.C a0.pl.D a0.kids r h) (by kernel_rfl)
theorem Tspec_l8Look {Y} (n : Nat) (a0 : Sol) (a1 : (List Pl)) (r : Bool) (h : Dspec_l8Look n a0 a1 = some r) : Big Try.prog H Y (.call 45 [.agg [bl a0.inn, i64 a0.pl.A, i64 a0.pl.B, i64 a0.pl.C, i64 a0.pl.D, .sl false 6 a0.kids.length ((eSol false).f a0.kids)], .sl false 4 a1.length ((ePl).f a1)] (lk []) (bl r) (lk [])) := Tspec_l8Look_b n n (a0, a1) r h ()
/-! spec.SolidOk -/
def Dspec_SolidOk (n : Nat) (a0 : Sol) : Option Bool :=
  (Dspec_l8Count n a0 301).bind fun v0 => frk (decide (v0 ≤ 300)) ((Dspec_l8Look n a0 []).bind fun v1 => some v1) (some false)
theorem Tspec_SolidOk {Y} (n : Nat) (a0 : Sol) (r : Bool) (h : Dspec_SolidOk n a0 = some r) : Big Try.prog H Y (.call 19 [.agg [bl a0.inn, i64 a0.pl.A, i64 a0.pl.B, i64 a0.pl.C, i64 a0.pl.D, .sl false 6 a0.kids.length ((eSol false).f a0.kids)]] (lk []) (bl r) (lk [])) := by
  unfold Dspec_SolidOk at h
  refine x_call (fn := Try.f19) (c := bodyOf Try.f19) (bs0 := []) Try.func19 (by kernel_rfl) (by kernel_rfl) ?_
  obtain ⟨v0, hv0, h⟩ := bind_some h
  refine x_frk 11 [(3, .call [] [] (i64 v0) [])] (ocons (Tspec_l8Count (Y := Y) n a0 301 _ hv0) onil) h (by kernel_rfl) (fun h => ?_) (fun h => ?_)
  · obtain ⟨v1, hv1, h⟩ := bind_some h
    replace h := Option.some.inj h; subst h
    exact x_end 6 [(2, .call [] [(ePl).f []] (bl v1) [])] [] (ocons (Tspec_l8Look (Y := Y) n a0 [] _ hv1) (ocons (len_row (L := []) ePl) (ocons (Enc.share ePl ePl sPl []) onil))) onil (by kernel_rfl)
  · replace h := Option.some.inj h; subst h
    exact x_end 6 [] [] onil onil (by kernel_rfl)
/-! spec.l8Cells -/
def Dspec_l8Cells_b (_n : Nat) (self : (Sol × Bool × (List Pl)) → Option (List (List Pl))) (a : (Sol × Bool × (List Pl))) : Option (List (List Pl)) :=
  match a with
  | (a0, a1, a2) => (Dspec_l8Leaf a0).bind fun v0 => frk v0 (frk (a0.inn == a1) (chk (apB 32 (0 + a2.length)) (some [([] ++ a2)])) (some [])) ((lget a0.kids 0).bind fun v2 => (Dspec_l8Path a2 a0.pl).bind fun v3 => (self (v2, a1, v3)).bind fun v4 => (lget a0.kids 1).bind fun v5 => (Dspec_l3Flip a0.pl).bind fun v6 => (Dspec_l8Path a2 v6).bind fun v7 => (self (v5, a1, v7)).bind fun v8 => chk (apB 24 (v4.length + v8.length)) (some (v4 ++ v8)))
def Dspec_l8Cells (n : Nat) (a0 : Sol) (a1 : Bool) (a2 : (List Pl)) : Option (List (List Pl)) := loopN (Dspec_l8Cells_b n) n (a0, a1, a2)
theorem Tspec_l8Cells_b {Y} (n : Nat) : ∀ (m : Nat) (a : (Sol × Bool × (List Pl))) (r : (List (List Pl))), loopN (Dspec_l8Cells_b n) m a = some r → ∀ (_ : Unit), Big Try.prog H Y (.call 20 [.agg [bl a.1.inn, i64 a.1.pl.A, i64 a.1.pl.B, i64 a.1.pl.C, i64 a.1.pl.D, .sl false 6 a.1.kids.length ((eSol false).f a.1.kids)], bl a.2.1, .sl false 4 a.2.2.length ((ePl).f a.2.2)] (lk []) (.sl true 1 r.length ((ePls true).f r)) (lk [])) := by
  refine loopN_ind (fun self hs a r h => ?_)
  have hself : ∀ (a : (Sol × Bool × (List Pl))) (r : (List (List Pl))), self a = some r → Big Try.prog H Y (.call 20 [.agg [bl a.1.inn, i64 a.1.pl.A, i64 a.1.pl.B, i64 a.1.pl.C, i64 a.1.pl.D, .sl false 6 a.1.kids.length ((eSol false).f a.1.kids)], bl a.2.1, .sl false 4 a.2.2.length ((ePl).f a.2.2)] (lk []) (.sl true 1 r.length ((ePls true).f r)) (lk [])) := fun a r h => hs a r h ()
  intro _
  obtain ⟨a0, a1, a2⟩ := a
  unfold Dspec_l8Cells_b at h
  refine x_call (fn := Try.f20) (c := bodyOf Try.f20) (bs0 := []) Try.func20 (by kernel_rfl) (by kernel_rfl) ?_
  obtain ⟨v0, hv0, h⟩ := bind_some h
  refine x_frk 11 [(3, .call [] [] (bl v0) [])] (ocons (Tspec_l8Leaf (Y := Y) a0 _ hv0) onil) h (by kernel_rfl) (fun h => ?_) (fun h => ?_)
  · refine x_frk 8 [] onil h (by kernel_rfl) (fun h => ?_) (fun h => ?_)
    · obtain ⟨c1, h⟩ := chk_some h
      replace h := Option.some.inj h; subst h
      exact x_end 8 [(2, .app false (List.length ([] ++ a2)) ((ePl).f ([] ++ a2)))] [] (ocons (len_row' (L := []) ePl) (ocons (app_one (L := []) (M := a2) ePl c1) (ocons (app_new (L := []) (M := a2) ePl) (ocons (app_m (L := []) (M := a2) ePl rfl) (ocons (len_row' (L := a2) ePl) (ocons (len_row (L := ([] ++ a2)) ePl) onil)))))) (ocons (len_row (L := [([] ++ a2)]) (ePls true)) onil) (by kernel_rfl)
    · replace h := Option.some.inj h; subst h
      exact x_end 6 [] [] onil (ocons (len_row (L := []) (ePls true)) onil) (by kernel_rfl)
  · obtain ⟨v2, hv2, h⟩ := bind_some h
    obtain ⟨v3, hv3, h⟩ := bind_some h
    obtain ⟨v4, hv4, h⟩ := bind_some h
    obtain ⟨v5, hv5, h⟩ := bind_some h
    obtain ⟨v6, hv6, h⟩ := bind_some h
    obtain ⟨v7, hv7, h⟩ := bind_some h
    obtain ⟨v8, hv8, h⟩ := bind_some h
    obtain ⟨c9, h⟩ := chk_some h
    replace h := Option.some.inj h; subst h
    exact x_end 32 [(2, .val (.cptr ((eSol false).c v2 ++ (eSol false).f ((a0.kids).drop (Int.toNat 0 + 1))))), (5, .call [] [] (.sl false 4 v3.length ((ePl).f v3)) []), (0, .call [] [] (.sl true 1 v4.length ((ePls true).f v4)) []), (4, .val (.cptr ((eSol false).c v5 ++ (eSol false).f ((a0.kids).drop (Int.toNat 1 + 1))))), (5, .call [] [] (.agg [i64 v6.A, i64 v6.B, i64 v6.C, i64 v6.D]) []), (0, .call [] [] (.sl false 4 v7.length ((ePl).f v7)) []), (0, .call [] [] (.sl true 1 v8.length ((ePls true).f v8)) []), (0, .app true (List.length (v4 ++ v8)) ((ePls true).f (v4 ++ v8)))] [] (ocons (ix (eSol false) hv2) (ocons (shSl (L := v3) ePl ePl sPl (Tspec_l8Path (Y := Y) a2 a0.pl _ hv3)) (ocons (hself (v2, a1, v3) _ hv4) (ocons (ix (eSol false) hv5) (ocons (Tspec_l3Flip (Y := Y) a0.pl _ hv6) (ocons (shSl (L := v7) ePl ePl sPl (Tspec_l8Path (Y := Y) a2 v6 _ hv7)) (ocons (hself (v5, a1, v7) _ hv8) (ocons (len_row' (L := v4) (ePls true)) (ocons (app_one (L := v4) (M := v8) (ePls true) c9) (ocons (app_new (L := v4) (M := v8) (ePls true)) (ocons (app_m (L := v4) (M := v8) (ePls true) rfl) (ocons (len_row' (L := v8) (ePls true)) onil)))))))))))) (ocons (len_row (L := (v4 ++ v8)) (ePls true)) onil) (by kernel_rfl)
theorem Tspec_l8Cells {Y} (n : Nat) (a0 : Sol) (a1 : Bool) (a2 : (List Pl)) (r : (List (List Pl))) (h : Dspec_l8Cells n a0 a1 a2 = some r) : Big Try.prog H Y (.call 20 [.agg [bl a0.inn, i64 a0.pl.A, i64 a0.pl.B, i64 a0.pl.C, i64 a0.pl.D, .sl false 6 a0.kids.length ((eSol false).f a0.kids)], bl a1, .sl false 4 a2.length ((ePl).f a2)] (lk []) (.sl true 1 r.length ((ePls true).f r)) (lk [])) := Tspec_l8Cells_b n n (a0, a1, a2) r h ()
/-! spec.l6Right -/
def Dspec_l6Right_0 (n : Nat) (t0 : List Pl) (rec0 : Int → Option Bool) (a : Int) : Option Bool :=
  match a with
  | t3 => frk (decide (t3 < (t0.length : Int))) ((lget t0 t3).bind fun v0 => (Dspec_PlaneOk n v0).bind fun v1 => frk (!v1) (some false) (rec0 (w64 (t3 + 1)))) (some (decide ((t0.length : Int) ≤ 24)))
theorem Tspec_l6Right_0 {Y} (n : Nat) (t0 : List Pl) : ∀ (m : Nat) (a : Int) (r : Bool), loopN (Dspec_l6Right_0 n t0) m a = some r → Wk Try.prog H Y 49 [.code (cp [1, 0, 1, 0] (bodyOf Try.f49)), .blk 0, .code (cp [1, 1] (bodyOf Try.f49))] (FinX Try.prog Try.f49 [] (bl r) []) ⟨[(0, .sl false 4 t0.length ((ePl).f t0)), (3, i64 a)], []⟩ := by
  refine loopN_ind (fun _rec0 hrec0 a r h => ?_)
  obtain ⟨t3, rfl⟩ : ∃ x, x = a := ⟨a, rfl⟩
  unfold Dspec_l6Right_0 at h
  refine x_frk 9 [] onil h (by kernel_rfl) (fun h => ?_) (fun h => ?_)
  · obtain ⟨v0, hv0, h⟩ := bind_some h
    obtain ⟨v1, hv1, h⟩ := bind_some h
    refine x_frk 12 [(2, .val (.cptr (ePl.c v0 ++ (ePl).f ((t0).drop (Int.toNat t3 + 1))))), (1, .call [] [] (bl v1) [])] (ocons (ix ePl hv0) (ocons (Tspec_PlaneOk (Y := Y) n v0 _ hv1) onil)) h (by kernel_rfl) (fun h => ?_) (fun h => ?_)
    · replace h := Option.some.inj h; subst h
      exact x_end 4 [] [] onil onil (by kernel_rfl)
    · exact x_to 8 [] onil (hrec0 (w64 (t3 + 1)) r h) (by kernel_rfl)
  · replace h := Option.some.inj h; subst h
    exact x_end 8 [] [] onil onil (by kernel_rfl)
def Dspec_l6Right (n : Nat) (a0 : (List Pl)) : Option Bool :=
  loopN (Dspec_l6Right_0 n a0) n 0
theorem Tspec_l6Right {Y} (n : Nat) (a0 : (List Pl)) (r : Bool) (h : Dspec_l6Right n a0 = some r) : Big Try.prog H Y (.call 49 [.sl false 4 a0.length ((ePl).f a0)] (lk []) (bl r) (lk [])) := by
  unfold Dspec_l6Right at h
  refine x_call (fn := Try.f49) (c := bodyOf Try.f49) (bs0 := []) Try.func49 (by kernel_rfl) (by kernel_rfl) ?_
  exact x_to 10 [] onil (Tspec_l6Right_0 n a0 n 0 r h) (by kernel_rfl)
/-! spec.l6Open -/
def Dspec_l6Open_0 (n : Nat) (t0 : List Pl) (rec0 : Int → Option Bool) (a : Int) : Option Bool :=
  match a with
  | t3 => frk (decide (t3 < (t0.length : Int))) ((lsl t0 0 t3).bind fun v0 => (lget t0 t3).bind fun v1 => (Dspec_l6With n v0 v1).bind fun v2 => frk v2 (some false) (rec0 (w64 (t3 + 1)))) (some true)
theorem Tspec_l6Open_0 {Y} (n : Nat) (t0 : List Pl) : ∀ (m : Nat) (a : Int) (r : Bool), loopN (Dspec_l6Open_0 n t0) m a = some r → Wk Try.prog H Y 50 [.code (cp [1, 0, 1, 0] (bodyOf Try.f50)), .blk 0, .code (cp [1, 1] (bodyOf Try.f50))] (FinX Try.prog Try.f50 [] (bl r) []) ⟨[(0, .sl false 4 t0.length ((ePl).f t0)), (3, i64 a)], []⟩ := by
  refine loopN_ind (fun _rec0 hrec0 a r h => ?_)
  obtain ⟨t3, rfl⟩ : ∃ x, x = a := ⟨a, rfl⟩
  unfold Dspec_l6Open_0 at h
  refine x_frk 9 [] onil h (by kernel_rfl) (fun h => ?_) (fun h => ?_)
  · obtain ⟨v0, hv0, h⟩ := bind_some h
    obtain ⟨v1, hv1, h⟩ := bind_some h
    obtain ⟨v2, hv2, h⟩ := bind_some h
    refine x_frk 14 [(2, .val (.sl false 4 v0.length ((ePl).f v0))), (2, .val (.cptr (ePl.c v1 ++ (ePl).f ((t0).drop (Int.toNat t3 + 1))))), (1, .call [] [] (bl v2) [])] (ocons (slF ePl hv0) (ocons (ix ePl hv1) (ocons (Tspec_l6With (Y := Y) n v0 v1 _ hv2) onil))) h (by kernel_rfl) (fun h => ?_) (fun h => ?_)
    · replace h := Option.some.inj h; subst h
      exact x_end 4 [] [] onil onil (by kernel_rfl)
    · exact x_to 8 [] onil (hrec0 (w64 (t3 + 1)) r h) (by kernel_rfl)
  · replace h := Option.some.inj h; subst h
    exact x_end 5 [] [] onil onil (by kernel_rfl)
def Dspec_l6Open (n : Nat) (a0 : (List Pl)) : Option Bool :=
  loopN (Dspec_l6Open_0 n a0) n 1
theorem Tspec_l6Open {Y} (n : Nat) (a0 : (List Pl)) (r : Bool) (h : Dspec_l6Open n a0 = some r) : Big Try.prog H Y (.call 50 [.sl false 4 a0.length ((ePl).f a0)] (lk []) (bl r) (lk [])) := by
  unfold Dspec_l6Open at h
  refine x_call (fn := Try.f50) (c := bodyOf Try.f50) (bs0 := []) Try.func50 (by kernel_rfl) (by kernel_rfl) ?_
  exact x_to 10 [] onil (Tspec_l6Open_0 n a0 n 1 r h) (by kernel_rfl)
/-! spec.l8Node -/
def Dspec_l8Nodeo1o2 (a0 : Pl) (a1 : Sol) (a2 : Sol) : Option Sol :=
  some (Sol.mk false a0 [a1, a2])
theorem Tspec_l8Nodeo1o2 {Y} (a0 : Pl) (a1 : Sol) (a2 : Sol) (r : Sol) (h : Dspec_l8Nodeo1o2 a0 a1 a2 = some r) : Big Try.prog H Y (.call 55 [.agg [i64 a0.A, i64 a0.B, i64 a0.C, i64 a0.D], .agg [bl a1.inn, i64 a1.pl.A, i64 a1.pl.B, i64 a1.pl.C, i64 a1.pl.D, .sl true 6 a1.kids.length ((eSol true).f a1.kids)], .agg [bl a2.inn, i64 a2.pl.A, i64 a2.pl.B, i64 a2.pl.C, i64 a2.pl.D, .sl true 6 a2.kids.length ((eSol true).f a2.kids)]] (lk []) (.agg [bl r.inn, i64 r.pl.A, i64 r.pl.B, i64 r.pl.C, i64 r.pl.D, .sl true 6 r.kids.length ((eSol true).f r.kids)]) (lk [])) := by
  unfold Dspec_l8Nodeo1o2 at h
  refine x_call (fn := Try.f55) (c := bodyOf Try.f55) (bs0 := []) Try.func55 (by kernel_rfl) (by kernel_rfl) ?_
  replace h := Option.some.inj h; subst h
  exact x_end 17 [(8, .fixb 10 ⟨true, 6, (eSol true).f [a1, a2]⟩)] [] (ocons (boxSol true true [a1, a2]) onil) (ocons (len_row (L := [a1, a2]) (eSol true)) onil) (by kernel_rfl)
/-! spec.l9Convex -/
def Dspec_l9Convex_0 (_n : Nat) (self : ((List Pl) × (List Pl)) → Option Sol) (rec0 : Int → Option Sol) (t0 : List Pl) (t1 : List Pl) (_b4_0 : Bool) (_b4_1 _b4_2 _b4_3 _b4_4 t5 : Int) (t28 : Bool) : Option Sol :=
  frk t28 ((lget t0 t5).bind fun v5 => (lsl t0 (w64 (t5 + 1)) (t0.length : Int)).bind fun v6 => (lget t0 t5).bind fun v7 => (Dspec_l8Path t1 v7).bind fun v8 => (self (v6, v8)).bind fun v9 => (Dspec_Leaf false).bind fun v10 => (Dspec_l8Nodeo1o2 v5 v9 v10).bind fun v11 => some v11) (rec0 (w64 (t5 + 1)))
theorem Tspec_l9Convex_0 {Y} (n : Nat) (self : ((List Pl) × (List Pl)) → Option Sol) (rec0 : Int → Option Sol) (t0 : List Pl) (t1 : List Pl) (b4_0 : Bool) (b4_1 b4_2 b4_3 b4_4 : Int) (hself : ∀ (a : ((List Pl) × (List Pl))) (r : Sol), self a = some r → Big Try.prog H Y (.call 51 [.sl false 4 a.1.length ((ePl).f a.1), .sl false 4 a.2.length ((ePl).f a.2)] (lk []) (.agg [bl r.inn, i64 r.pl.A, i64 r.pl.B, i64 r.pl.C, i64 r.pl.D, .sl true 6 r.kids.length ((eSol true).f r.kids)]) (lk []))) (hrec0 : ∀ (a : Int) (r : Sol), rec0 a = some r → Wk Try.prog H Y 51 [.code (cp [1, 0, 1, 0] (bodyOf Try.f51)), .blk 0, .code (cp [1, 1] (bodyOf Try.f51))] (FinX Try.prog Try.f51 [] (.agg [bl r.inn, i64 r.pl.A, i64 r.pl.B, i64 r.pl.C, i64 r.pl.D, .sl true 6 r.kids.length ((eSol true).f r.kids)]) []) ⟨[(0, .sl false 4 t0.length ((ePl).f t0)), (1, .sl false 4 t1.length ((ePl).f t1)), (4, .ptr 4 0), (5, i64 a)], [(4, ⟨true, 0, [bl b4_0, i64 b4_1, i64 b4_2, i64 b4_3, i64 b4_4, .nil]⟩)]⟩) (t5 : Int) (t28 : Bool) (r : Sol) (h : Dspec_l9Convex_0 n self rec0 t0 t1 b4_0 b4_1 b4_2 b4_3 b4_4 t5 t28 = some r) : Wk Try.prog H Y 51 [.code (cp [1, 0, 1, 0, 0, 1, 0, 0, 1] (bodyOf Try.f51)), .blk 1, .code (cp [1, 0, 1, 0, 0, 1, 1] (bodyOf Try.f51)), .lp (cp [1, 0, 1, 0] (bodyOf Try.f51)), .blk 0, .code (cp [1, 1] (bodyOf Try.f51))] (FinX Try.prog Try.f51 [] (.agg [bl r.inn, i64 r.pl.A, i64 r.pl.B, i64 r.pl.C, i64 r.pl.D, .sl true 6 r.kids.length ((eSol true).f r.kids)]) []) ⟨[(0, .sl false 4 t0.length ((ePl).f t0)), (1, .sl false 4 t1.length ((ePl).f t1)), (4, .ptr 4 0), (5, i64 t5), (28, bl t28)], [(4, ⟨true, 0, [bl b4_0, i64 b4_1, i64 b4_2, i64 b4_3, i64 b4_4, .nil]⟩)]⟩ := by
  unfold Dspec_l9Convex_0 at h
  refine x_frk 0 [] onil h (by kernel_rfl) (fun h => ?_) (fun h => ?_)
  · obtain ⟨v5, hv5, h⟩ := bind_some h
    obtain ⟨v6, hv6, h⟩ := bind_some h
    obtain ⟨v7, hv7, h⟩ := bind_some h
    obtain ⟨v8, hv8, h⟩ := bind_some h
    obtain ⟨v9, hv9, h⟩ := bind_some h
    obtain ⟨v10, hv10, h⟩ := bind_some h
    obtain ⟨v11, hv11, h⟩ := bind_some h
    replace h := Option.some.inj h; subst h
    exact x_end 21 [(2, .val (.cptr (ePl.c v5 ++ (ePl).f ((t0).drop (Int.toNat t5 + 1))))), (4, .val (.sl false 4 v6.length ((ePl).f v6))), (3, .val (.cptr (ePl.c v7 ++ (ePl).f ((t0).drop (Int.toNat t5 + 1))))), (1, .call [] [] (.sl false 4 v8.length ((ePl).f v8)) []), (0, .call [] [] (.agg [bl v9.inn, i64 v9.pl.A, i64 v9.pl.B, i64 v9.pl.C, i64 v9.pl.D, .sl true 6 v9.kids.length ((eSol true).f v9.kids)]) []), (0, .call [] [] (.agg [bl v10.inn, i64 v10.pl.A, i64 v10.pl.B, i64 v10.pl.C, i64 v10.pl.D, .sl true 6 v10.kids.length ((eSol true).f v10.kids)]) []), (0, .call [] [] (.agg [bl v11.inn, i64 v11.pl.A, i64 v11.pl.B, i64 v11.pl.C, i64 v11.pl.D, .sl true 6 v11.kids.length ((eSol true).f v11.kids)]) [])] [] (ocons (ix ePl hv5) (ocons (slF ePl hv6) (ocons (ix ePl hv7) (ocons (shSl (L := v8) ePl ePl sPl (Tspec_l8Path (Y := Y) t1 v7 _ hv8)) (ocons (hself (v6, v8) _ hv9) (ocons (Tspec_Leaf (Y := Y) false _ hv10) (ocons (Tspec_l8Nodeo1o2 (Y := Y) v5 v9 v10 _ hv11) onil))))))) onil (by kernel_rfl)
  · exact x_to 8 [] onil (hrec0 (w64 (t5 + 1)) r h) (by kernel_rfl)
def Dspec_l9Convex_1 (_n : Nat) (_self : ((List Pl) × (List Pl)) → Option Sol) (_b4_0 : Bool) (_b4_1 _b4_2 _b4_3 _b4_4 : Int) : Option Sol :=
  (Dspec_Leaf true).bind fun v12 => some v12
theorem Tspec_l9Convex_1 {Y} (n : Nat) (self : ((List Pl) × (List Pl)) → Option Sol) (_hself : ∀ (a : ((List Pl) × (List Pl))) (r : Sol), self a = some r → Big Try.prog H Y (.call 51 [.sl false 4 a.1.length ((ePl).f a.1), .sl false 4 a.2.length ((ePl).f a.2)] (lk []) (.agg [bl r.inn, i64 r.pl.A, i64 r.pl.B, i64 r.pl.C, i64 r.pl.D, .sl true 6 r.kids.length ((eSol true).f r.kids)]) (lk []))) (b4_0 : Bool) (b4_1 b4_2 b4_3 b4_4 : Int) (r : Sol) (h : Dspec_l9Convex_1 n self b4_0 b4_1 b4_2 b4_3 b4_4 = some r) : Wk Try.prog H Y 51 [.code (cp [1, 1, 0] (bodyOf Try.f51)), .code (cp [1, 1, 1] (bodyOf Try.f51))] (FinX Try.prog Try.f51 [] (.agg [bl r.inn, i64 r.pl.A, i64 r.pl.B, i64 r.pl.C, i64 r.pl.D, .sl true 6 r.kids.length ((eSol true).f r.kids)]) []) ⟨[(4, .ptr 4 0)], [(4, ⟨true, 0, [bl b4_0, i64 b4_1, i64 b4_2, i64 b4_3, i64 b4_4, .nil]⟩)]⟩ := by
  unfold Dspec_l9Convex_1 at h
  obtain ⟨v12, hv12, h⟩ := bind_some h
  replace h := Option.some.inj h; subst h
  exact x_end 4 [(0, .call [] [] (.agg [bl v12.inn, i64 v12.pl.A, i64 v12.pl.B, i64 v12.pl.C, i64 v12.pl.D, .sl true 6 v12.kids.length ((eSol true).f v12.kids)]) [])] [] (ocons (Tspec_Leaf (Y := Y) true _ hv12) onil) onil (by kernel_rfl)
def Dspec_l9Convex_2 (n : Nat) (self : ((List Pl) × (List Pl)) → Option Sol) (t0 : List Pl) (t1 : List Pl) (b4_0 : Bool) (b4_1 b4_2 b4_3 b4_4 : Int) (rec0 : Int → Option Sol) (a : Int) : Option Sol :=
  match a with
  | t5 => frk (decide (t5 < (t0.length : Int))) ((lget t0 t5).bind fun v0 => (Dspec_l3Flip v0).bind fun v1 => (Dspec_l6With n t1 v1).bind fun v2 => frk (!v2) ((lget t0 t5).bind fun v3 => (Dspec_l6With n t1 v3).bind fun v4 => Dspec_l9Convex_0 n self rec0 t0 t1 b4_0 b4_1 b4_2 b4_3 b4_4 t5 (!v4)) (rec0 (w64 (t5 + 1)))) (Dspec_l9Convex_1 n self b4_0 b4_1 b4_2 b4_3 b4_4)
theorem Tspec_l9Convex_2 {Y} (n : Nat) (self : ((List Pl) × (List Pl)) → Option Sol) (hself : ∀ (a : ((List Pl) × (List Pl))) (r : Sol), self a = some r → Big Try.prog H Y (.call 51 [.sl false 4 a.1.length ((ePl).f a.1), .sl false 4 a.2.length ((ePl).f a.2)] (lk []) (.agg [bl r.inn, i64 r.pl.A, i64 r.pl.B, i64 r.pl.C, i64 r.pl.D, .sl true 6 r.kids.length ((eSol true).f r.kids)]) (lk []))) (t0 : List Pl) (t1 : List Pl) (b4_0 : Bool) (b4_1 b4_2 b4_3 b4_4 : Int) : ∀ (m : Nat) (a : Int) (r : Sol), loopN (Dspec_l9Convex_2 n self t0 t1 b4_0 b4_1 b4_2 b4_3 b4_4) m a = some r → Wk Try.prog H Y 51 [.code (cp [1, 0, 1, 0] (bodyOf Try.f51)), .blk 0, .code (cp [1, 1] (bodyOf Try.f51))] (FinX Try.prog Try.f51 [] (.agg [bl r.inn, i64 r.pl.A, i64 r.pl.B, i64 r.pl.C, i64 r.pl.D, .sl true 6 r.kids.length ((eSol true).f r.kids)]) []) ⟨[(0, .sl false 4 t0.length ((ePl).f t0)), (1, .sl false 4 t1.length ((ePl).f t1)), (4, .ptr 4 0), (5, i64 a)], [(4, ⟨true, 0, [bl b4_0, i64 b4_1, i64 b4_2, i64 b4_3, i64 b4_4, .nil]⟩)]⟩ := by
  refine loopN_ind (fun rec0 hrec0 a r h => ?_)
  obtain ⟨t5, rfl⟩ : ∃ x, x = a := ⟨a, rfl⟩
  unfold Dspec_l9Convex_2 at h
  refine x_frk 9 [] onil h (by kernel_rfl) (fun h => ?_) (fun h => ?_)
  · obtain ⟨v0, hv0, h⟩ := bind_some h
    obtain ⟨v1, hv1, h⟩ := bind_some h
    obtain ⟨v2, hv2, h⟩ := bind_some h
    refine x_frk 14 [(3, .val (.cptr (ePl.c v0 ++ (ePl).f ((t0).drop (Int.toNat t5 + 1))))), (1, .call [] [] (.agg [i64 v1.A, i64 v1.B, i64 v1.C, i64 v1.D]) []), (0, .call [] [] (bl v2) [])] (ocons (ix ePl hv0) (ocons (Tspec_l3Flip (Y := Y) v0 _ hv1) (ocons (Tspec_l6With (Y := Y) n t1 v1 _ hv2) onil))) h (by kernel_rfl) (fun h => ?_) (fun h => ?_)
    · obtain ⟨v3, hv3, h⟩ := bind_some h
      obtain ⟨v4, hv4, h⟩ := bind_some h
      exact x_to 9 [(3, .val (.cptr (ePl.c v3 ++ (ePl).f ((t0).drop (Int.toNat t5 + 1))))), (1, .call [] [] (bl v4) [])] (ocons (ix ePl hv3) (ocons (Tspec_l6With (Y := Y) n t1 v3 _ hv4) onil)) (Tspec_l9Convex_0 n self rec0 t0 t1 b4_0 b4_1 b4_2 b4_3 b4_4 hself hrec0 t5 (!v4) r h) (by kernel_rfl)
    · exact x_to 18 [] onil (hrec0 (w64 (t5 + 1)) r h) (by kernel_rfl)
  · exact x_to 2 [] onil (Tspec_l9Convex_1 n self hself b4_0 b4_1 b4_2 b4_3 b4_4 r h) (by kernel_rfl)
def Dspec_l9Convex_b (n : Nat) (self : ((List Pl) × (List Pl)) → Option Sol) (a : ((List Pl) × (List Pl))) : Option Sol :=
  match a with
  | (a0, a1) => loopN (Dspec_l9Convex_2 n self a0 a1 false 0 0 0 0) n 0
def Dspec_l9Convex (n : Nat) (a0 : (List Pl)) (a1 : (List Pl)) : Option Sol := loopN (Dspec_l9Convex_b n) n (a0, a1)
theorem Tspec_l9Convex_b {Y} (n : Nat) : ∀ (m : Nat) (a : ((List Pl) × (List Pl))) (r : Sol), loopN (Dspec_l9Convex_b n) m a = some r → ∀ (_ : Unit), Big Try.prog H Y (.call 51 [.sl false 4 a.1.length ((ePl).f a.1), .sl false 4 a.2.length ((ePl).f a.2)] (lk []) (.agg [bl r.inn, i64 r.pl.A, i64 r.pl.B, i64 r.pl.C, i64 r.pl.D, .sl true 6 r.kids.length ((eSol true).f r.kids)]) (lk [])) := by
  refine loopN_ind (fun self hs a r h => ?_)
  have hself : ∀ (a : ((List Pl) × (List Pl))) (r : Sol), self a = some r → Big Try.prog H Y (.call 51 [.sl false 4 a.1.length ((ePl).f a.1), .sl false 4 a.2.length ((ePl).f a.2)] (lk []) (.agg [bl r.inn, i64 r.pl.A, i64 r.pl.B, i64 r.pl.C, i64 r.pl.D, .sl true 6 r.kids.length ((eSol true).f r.kids)]) (lk [])) := fun a r h => hs a r h ()
  intro _
  obtain ⟨a0, a1⟩ := a
  unfold Dspec_l9Convex_b at h
  refine x_call (fn := Try.f51) (c := bodyOf Try.f51) (bs0 := []) Try.func51 (by kernel_rfl) (by kernel_rfl) ?_
  exact x_to 10 [] onil (Tspec_l9Convex_2 n self hself a0 a1 false 0 0 0 0 n 0 r h) (by kernel_rfl)
theorem Tspec_l9Convex {Y} (n : Nat) (a0 : (List Pl)) (a1 : (List Pl)) (r : Sol) (h : Dspec_l9Convex n a0 a1 = some r) : Big Try.prog H Y (.call 51 [.sl false 4 a0.length ((ePl).f a0), .sl false 4 a1.length ((ePl).f a1)] (lk []) (.agg [bl r.inn, i64 r.pl.A, i64 r.pl.B, i64 r.pl.C, i64 r.pl.D, .sl true 6 r.kids.length ((eSol true).f r.kids)]) (lk [])) := Tspec_l9Convex_b n n (a0, a1) r h ()
/-! spec.Convex -/
def Dspec_Convex (n : Nat) (a0 : (List Pl)) : Option (Sol × Int) :=
  (Dspec_l6Right n a0).bind fun v0 => frk (!v0) (some ((Sol.mk false (Pl.mk 0 0 0 0) []), 1)) ((Dspec_l6Open n a0).bind fun v1 => frk (!v1) ((Dspec_Leaf false).bind fun v2 => some (v2, 2)) ((Dspec_l9Convex n a0 []).bind fun v3 => some (v3, 0)))
theorem Tspec_Convex {Y} (n : Nat) (a0 : (List Pl)) (r : (Sol × Int)) (h : Dspec_Convex n a0 = some r) : Big Try.prog H Y (.call 21 [.sl false 4 a0.length ((ePl).f a0)] (lk []) (.tup [.agg [bl r.1.inn, i64 r.1.pl.A, i64 r.1.pl.B, i64 r.1.pl.C, i64 r.1.pl.D, .sl true 6 r.1.kids.length ((eSol true).f r.1.kids)], i64 r.2]) (lk [])) := by
  unfold Dspec_Convex at h
  refine x_call (fn := Try.f21) (c := bodyOf Try.f21) (bs0 := []) Try.func21 (by kernel_rfl) (by kernel_rfl) ?_
  obtain ⟨v0, hv0, h⟩ := bind_some h
  refine x_frk 12 [(3, .call [] [] (bl v0) [])] (ocons (Tspec_l6Right (Y := Y) n a0 _ hv0) onil) h (by kernel_rfl) (fun h => ?_) (fun h => ?_)
  · replace h := Option.some.inj h; subst h
    exact x_end 6 [] [(true, 6)] onil onil (by kernel_rfl)
  · obtain ⟨v1, hv1, h⟩ := bind_some h
    refine x_frk 8 [(1, .call [] [] (bl v1) [])] (ocons (Tspec_l6Open (Y := Y) n a0 _ hv1) onil) h (by kernel_rfl) (fun h => ?_) (fun h => ?_)
    · obtain ⟨v2, hv2, h⟩ := bind_some h
      replace h := Option.some.inj h; subst h
      exact x_end 6 [(0, .call [] [] (.agg [bl v2.inn, i64 v2.pl.A, i64 v2.pl.B, i64 v2.pl.C, i64 v2.pl.D, .sl true 6 v2.kids.length ((eSol true).f v2.kids)]) [])] [] (ocons (Tspec_Leaf (Y := Y) false _ hv2) onil) onil (by kernel_rfl)
    · obtain ⟨v3, hv3, h⟩ := bind_some h
      replace h := Option.some.inj h; subst h
      exact x_end 9 [(2, .call [] [(ePl).f []] (.agg [bl v3.inn, i64 v3.pl.A, i64 v3.pl.B, i64 v3.pl.C, i64 v3.pl.D, .sl true 6 v3.kids.length ((eSol true).f v3.kids)]) [])] [] (ocons (Tspec_l9Convex (Y := Y) n a0 [] _ hv3) (ocons (len_row (L := []) ePl) (ocons (Enc.share ePl ePl sPl []) (ocons (show hasSh (.agg [bl v3.inn, i64 v3.pl.A, i64 v3.pl.B, i64 v3.pl.C, i64 v3.pl.D, .sl true 6 v3.kids.length ((eSol true).f v3.kids)]) = false by simp [hasSh, hasShL, nSh, nShI, nShB, nShP, nShT, nShN, nShPs]) onil)))) onil (by kernel_rfl)
/-! spec.l11In -/
def Dspec_l11In (a0 : Int) (a1 a2 : Bool) : Option Bool :=
  frk (a0 == 1) (frk a1 (some a2) (some false)) (frk (a0 == 2) (frk a1 (some true) (some a2)) (frk (a0 == 3) (frk a1 (some (!a2)) (some false)) (some (!(a1 == a2)))))
theorem Tspec_l11In {Y} (a0 : Int) (a1 a2 r : Bool) (h : Dspec_l11In a0 a1 a2 = some r) : Big Try.prog H Y (.call 106 [i64 a0, bl a1, bl a2] (lk []) (bl r) (lk [])) := by
  unfold Dspec_l11In at h
  refine x_call (fn := Try.f106) (c := bodyOf Try.f106) (bs0 := []) Try.func106 (by kernel_rfl) (by kernel_rfl) ?_
  refine x_frk 15 [] onil h (by kernel_rfl) (fun h => ?_) (fun h => ?_)
  · refine x_frk 4 [] onil h (by kernel_rfl) (fun h => ?_) (fun h => ?_)
    · replace h := Option.some.inj h; subst h
      exact x_end 4 [] [] onil onil (by kernel_rfl)
    · replace h := Option.some.inj h; subst h
      exact x_end 4 [] [] onil onil (by kernel_rfl)
  · refine x_frk 5 [] onil h (by kernel_rfl) (fun h => ?_) (fun h => ?_)
    · refine x_frk 4 [] onil h (by kernel_rfl) (fun h => ?_) (fun h => ?_)
      · replace h := Option.some.inj h; subst h
        exact x_end 4 [] [] onil onil (by kernel_rfl)
      · replace h := Option.some.inj h; subst h
        exact x_end 4 [] [] onil onil (by kernel_rfl)
    · refine x_frk 5 [] onil h (by kernel_rfl) (fun h => ?_) (fun h => ?_)
      · refine x_frk 4 [] onil h (by kernel_rfl) (fun h => ?_) (fun h => ?_)
        · replace h := Option.some.inj h; subst h
          exact x_end 5 [] [] onil onil (by kernel_rfl)
        · replace h := Option.some.inj h; subst h
          exact x_end 5 [] [] onil onil (by kernel_rfl)
      · replace h := Option.some.inj h; subst h
        exact x_end 9 [] [] onil onil (by kernel_rfl)
/-! spec.l11Node -/
def Dspec_l11Nodeo1o2_0 (t19 : Bool) (b3_0 b3_1 b3_2 b3_3 : Int) (b4_0 : Bool) (b4_1 b4_2 b4_3 b4_4 : Int) (b4_5 : List Sol) (b5_0 : Bool) (b5_1 b5_2 b5_3 b5_4 : Int) (b5_5 : List Sol) (_b6_0 : Bool) (_b6_1 _b6_2 _b6_3 _b6_4 : Int) : Option Sol :=
  frk t19 ((Dspec_Leaf b4_0).bind fun v2 => some v2) ((Dspec_l8Nodeo1o2 (Pl.mk b3_0 b3_1 b3_2 b3_3) (Sol.mk b4_0 (Pl.mk b4_1 b4_2 b4_3 b4_4) b4_5) (Sol.mk b5_0 (Pl.mk b5_1 b5_2 b5_3 b5_4) b5_5)).bind fun v3 => some v3)
theorem Tspec_l11Nodeo1o2_0 {Y} (t19 : Bool) (b3_0 b3_1 b3_2 b3_3 : Int) (b4_0 : Bool) (b4_1 b4_2 b4_3 b4_4 : Int) (b4_5 : List Sol) (b5_0 : Bool) (b5_1 b5_2 b5_3 b5_4 : Int) (b5_5 : List Sol) (b6_0 : Bool) (b6_1 b6_2 b6_3 b6_4 : Int) (r : Sol) (h : Dspec_l11Nodeo1o2_0 t19 b3_0 b3_1 b3_2 b3_3 b4_0 b4_1 b4_2 b4_3 b4_4 b4_5 b5_0 b5_1 b5_2 b5_3 b5_4 b5_5 b6_0 b6_1 b6_2 b6_3 b6_4 = some r) : Wk Try.prog H Y 82 [.code (cp [1, 0, 1] (bodyOf Try.f82)), .code (cp [1, 1] (bodyOf Try.f82))] (FinX Try.prog Try.f82 [] (.agg [bl r.inn, i64 r.pl.A, i64 r.pl.B, i64 r.pl.C, i64 r.pl.D, .sl true 6 r.kids.length ((eSol true).f r.kids)]) []) ⟨[(3, .ptr 3 0), (4, .ptr 4 0), (5, .ptr 5 0), (6, .ptr 6 0), (19, bl t19)], [(3, ⟨true, 0, [i64 b3_0, i64 b3_1, i64 b3_2, i64 b3_3]⟩), (4, ⟨true, 0, [bl b4_0, i64 b4_1, i64 b4_2, i64 b4_3, i64 b4_4, .sl true 6 b4_5.length ((eSol true).f b4_5)]⟩), (5, ⟨true, 0, [bl b5_0, i64 b5_1, i64 b5_2, i64 b5_3, i64 b5_4, .sl true 6 b5_5.length ((eSol true).f b5_5)]⟩), (6, ⟨true, 0, [bl b6_0, i64 b6_1, i64 b6_2, i64 b6_3, i64 b6_4, .nil]⟩)]⟩ := by
  unfold Dspec_l11Nodeo1o2_0 at h
  refine x_frk 0 [] onil h (by kernel_rfl) (fun h => ?_) (fun h => ?_)
  · obtain ⟨v2, hv2, h⟩ := bind_some h
    replace h := Option.some.inj h; subst h
    exact x_end 7 [(2, .call [] [] (.agg [bl v2.inn, i64 v2.pl.A, i64 v2.pl.B, i64 v2.pl.C, i64 v2.pl.D, .sl true 6 v2.kids.length ((eSol true).f v2.kids)]) [])] [] (ocons (Tspec_Leaf (Y := Y) b4_0 _ hv2) onil) onil (by kernel_rfl)
  · obtain ⟨v3, hv3, h⟩ := bind_some h
    replace h := Option.some.inj h; subst h
    exact x_end 9 [(3, .call [] [] (.agg [bl v3.inn, i64 v3.pl.A, i64 v3.pl.B, i64 v3.pl.C, i64 v3.pl.D, .sl true 6 v3.kids.length ((eSol true).f v3.kids)]) [])] [] (ocons (Tspec_l8Nodeo1o2 (Y := Y) (Pl.mk b3_0 b3_1 b3_2 b3_3) (Sol.mk b4_0 (Pl.mk b4_1 b4_2 b4_3 b4_4) b4_5) (Sol.mk b5_0 (Pl.mk b5_1 b5_2 b5_3 b5_4) b5_5) _ hv3) onil) onil (by kernel_rfl)
def Dspec_l11Nodeo1o2_1 (b3_0 b3_1 b3_2 b3_3 : Int) (b4_0 : Bool) (b4_1 b4_2 b4_3 b4_4 : Int) (b4_5 : List Sol) (b5_0 : Bool) (b5_1 b5_2 b5_3 b5_4 : Int) (b5_5 : List Sol) (_b6_0 : Bool) (_b6_1 _b6_2 _b6_3 _b6_4 : Int) : Option Sol :=
  (Dspec_l8Nodeo1o2 (Pl.mk b3_0 b3_1 b3_2 b3_3) (Sol.mk b4_0 (Pl.mk b4_1 b4_2 b4_3 b4_4) b4_5) (Sol.mk b5_0 (Pl.mk b5_1 b5_2 b5_3 b5_4) b5_5)).bind fun v4 => some v4
theorem Tspec_l11Nodeo1o2_1 {Y} (b3_0 b3_1 b3_2 b3_3 : Int) (b4_0 : Bool) (b4_1 b4_2 b4_3 b4_4 : Int) (b4_5 : List Sol) (b5_0 : Bool) (b5_1 b5_2 b5_3 b5_4 : Int) (b5_5 : List Sol) (b6_0 : Bool) (b6_1 b6_2 b6_3 b6_4 : Int) (r : Sol) (h : Dspec_l11Nodeo1o2_1 b3_0 b3_1 b3_2 b3_3 b4_0 b4_1 b4_2 b4_3 b4_4 b4_5 b5_0 b5_1 b5_2 b5_3 b5_4 b5_5 b6_0 b6_1 b6_2 b6_3 b6_4 = some r) : Wk Try.prog H Y 82 [.code (cp [1, 1, 0] (bodyOf Try.f82)), .code (cp [1, 1, 1] (bodyOf Try.f82))] (FinX Try.prog Try.f82 [] (.agg [bl r.inn, i64 r.pl.A, i64 r.pl.B, i64 r.pl.C, i64 r.pl.D, .sl true 6 r.kids.length ((eSol true).f r.kids)]) []) ⟨[(3, .ptr 3 0), (4, .ptr 4 0), (5, .ptr 5 0), (6, .ptr 6 0)], [(3, ⟨true, 0, [i64 b3_0, i64 b3_1, i64 b3_2, i64 b3_3]⟩), (4, ⟨true, 0, [bl b4_0, i64 b4_1, i64 b4_2, i64 b4_3, i64 b4_4, .sl true 6 b4_5.length ((eSol true).f b4_5)]⟩), (5, ⟨true, 0, [bl b5_0, i64 b5_1, i64 b5_2, i64 b5_3, i64 b5_4, .sl true 6 b5_5.length ((eSol true).f b5_5)]⟩), (6, ⟨true, 0, [bl b6_0, i64 b6_1, i64 b6_2, i64 b6_3, i64 b6_4, .nil]⟩)]⟩ := by
  unfold Dspec_l11Nodeo1o2_1 at h
  obtain ⟨v4, hv4, h⟩ := bind_some h
  replace h := Option.some.inj h; subst h
  exact x_end 7 [(3, .call [] [] (.agg [bl v4.inn, i64 v4.pl.A, i64 v4.pl.B, i64 v4.pl.C, i64 v4.pl.D, .sl true 6 v4.kids.length ((eSol true).f v4.kids)]) [])] [] (ocons (Tspec_l8Nodeo1o2 (Y := Y) (Pl.mk b3_0 b3_1 b3_2 b3_3) (Sol.mk b4_0 (Pl.mk b4_1 b4_2 b4_3 b4_4) b4_5) (Sol.mk b5_0 (Pl.mk b5_1 b5_2 b5_3 b5_4) b5_5) _ hv4) onil) onil (by kernel_rfl)
def Dspec_l11Nodeo1o2 (a0 : Pl) (a1 : Sol) (a2 : Sol) : Option Sol :=
  (Dspec_l8Leaf a1).bind fun v0 => frk v0 ((Dspec_l8Leaf a2).bind fun v1 => frk v1 (Dspec_l11Nodeo1o2_0 (a1.inn == a2.inn) a0.A a0.B a0.C a0.D a1.inn a1.pl.A a1.pl.B a1.pl.C a1.pl.D a1.kids a2.inn a2.pl.A a2.pl.B a2.pl.C a2.pl.D a2.kids false 0 0 0 0) (Dspec_l11Nodeo1o2_1 a0.A a0.B a0.C a0.D a1.inn a1.pl.A a1.pl.B a1.pl.C a1.pl.D a1.kids a2.inn a2.pl.A a2.pl.B a2.pl.C a2.pl.D a2.kids false 0 0 0 0)) (Dspec_l11Nodeo1o2_1 a0.A a0.B a0.C a0.D a1.inn a1.pl.A a1.pl.B a1.pl.C a1.pl.D a1.kids a2.inn a2.pl.A a2.pl.B a2.pl.C a2.pl.D a2.kids false 0 0 0 0)
theorem Tspec_l11Nodeo1o2 {Y} (a0 : Pl) (a1 : Sol) (a2 : Sol) (r : Sol) (h : Dspec_l11Nodeo1o2 a0 a1 a2 = some r) : Big Try.prog H Y (.call 82 [.agg [i64 a0.A, i64 a0.B, i64 a0.C, i64 a0.D], .agg [bl a1.inn, i64 a1.pl.A, i64 a1.pl.B, i64 a1.pl.C, i64 a1.pl.D, .sl true 6 a1.kids.length ((eSol true).f a1.kids)], .agg [bl a2.inn, i64 a2.pl.A, i64 a2.pl.B, i64 a2.pl.C, i64 a2.pl.D, .sl true 6 a2.kids.length ((eSol true).f a2.kids)]] (lk []) (.agg [bl r.inn, i64 r.pl.A, i64 r.pl.B, i64 r.pl.C, i64 r.pl.D, .sl true 6 r.kids.length ((eSol true).f r.kids)]) (lk [])) := by
  unfold Dspec_l11Nodeo1o2 at h
  refine x_call (fn := Try.f82) (c := bodyOf Try.f82) (bs0 := []) Try.func82 (by kernel_rfl) (by kernel_rfl) ?_
  obtain ⟨v0, hv0, h⟩ := bind_some h
  refine x_frk 13 [(4, .rows [(eSol false).f a1.kids]), (0, .call [] [] (bl v0) [])] (ocons (Enc.share (eSol true) (eSol false) (sSol true) a1.kids) (ocons (Tspec_l8Leaf (Y := Y) a1 _ hv0) onil)) h (by kernel_rfl) (fun h => ?_) (fun h => ?_)
  · obtain ⟨v1, hv1, h⟩ := bind_some h
    refine x_frk 4 [(0, .rows [(eSol false).f a2.kids]), (0, .call [] [] (bl v1) [])] (ocons (Enc.share (eSol true) (eSol false) (sSol true) a2.kids) (ocons (Tspec_l8Leaf (Y := Y) a2 _ hv1) onil)) h (by kernel_rfl) (fun h => ?_) (fun h => ?_)
    · exact x_to 7 [] onil (Tspec_l11Nodeo1o2_0 (a1.inn == a2.inn) a0.A a0.B a0.C a0.D a1.inn a1.pl.A a1.pl.B a1.pl.C a1.pl.D a1.kids a2.inn a2.pl.A a2.pl.B a2.pl.C a2.pl.D a2.kids false 0 0 0 0 r h) (by kernel_rfl)
    · exact x_to 10 [] onil (Tspec_l11Nodeo1o2_1 a0.A a0.B a0.C a0.D a1.inn a1.pl.A a1.pl.B a1.pl.C a1.pl.D a1.kids a2.inn a2.pl.A a2.pl.B a2.pl.C a2.pl.D a2.kids false 0 0 0 0 r h) (by kernel_rfl)
  · exact x_to 14 [] onil (Tspec_l11Nodeo1o2_1 a0.A a0.B a0.C a0.D a1.inn a1.pl.A a1.pl.B a1.pl.C a1.pl.D a1.kids a2.inn a2.pl.A a2.pl.B a2.pl.C a2.pl.D a2.kids false 0 0 0 0 r h) (by kernel_rfl)
/-! spec.l11Take -/
def Dspec_l11Take_2 (_n : Nat) (_self1 : ((Int × Bool) × Bool × Sol × (List Pl)) → Option (Sol × (Int × Bool))) (_b8_0 : Bool) (_b8_1 _b8_2 _b8_3 _b8_4 b1000_0 : Int) (b1000_1 : Bool) : Option (Sol × (Int × Bool)) :=
  (Dspec_Leaf false).bind fun v10 => some (v10, (b1000_0, b1000_1))
theorem Tspec_l11Take_2 {Y} (n : Nat) (self1 : ((Int × Bool) × Bool × Sol × (List Pl)) → Option (Sol × (Int × Bool))) (_hself1 : ∀ (a : ((Int × Bool) × Bool × Sol × (List Pl))) (r : (Sol × (Int × Bool))), self1 a = some r → Big Try.prog H Y (.call 81 [.ptr 1000 0, bl a.2.1, .agg [bl a.2.2.1.inn, i64 a.2.2.1.pl.A, i64 a.2.2.1.pl.B, i64 a.2.2.1.pl.C, i64 a.2.2.1.pl.D, .sl false 6 a.2.2.1.kids.length ((eSol false).f a.2.2.1.kids)], .sl false 4 a.2.2.2.length ((ePl).f a.2.2.2)] (lk [(1000, ⟨true, 0, [i64 a.1.1, bl a.1.2]⟩)]) (.agg [bl r.1.inn, i64 r.1.pl.A, i64 r.1.pl.B, i64 r.1.pl.C, i64 r.1.pl.D, .sl true 6 r.1.kids.length ((eSol true).f r.1.kids)]) (lk [(1000, ⟨true, 0, [i64 r.2.1, bl r.2.2]⟩)]))) (b8_0 : Bool) (b8_1 b8_2 b8_3 b8_4 b1000_0 : Int) (b1000_1 : Bool) (r : (Sol × (Int × Bool))) (h : Dspec_l11Take_2 n self1 b8_0 b8_1 b8_2 b8_3 b8_4 b1000_0 b1000_1 = some r) : Wk Try.prog H Y 81 [.code (cp [1, 1, 1, 1, 0, 0, 1, 1, 1, 1, 1, 0, 1, 0] (bodyOf Try.f81)), .code (cp [1, 1, 1, 1, 0, 0, 1, 1, 1, 1, 1, 0, 1, 1] (bodyOf Try.f81)), .blk 0, .code (cp [1, 1, 1, 1, 1] (bodyOf Try.f81))] (FinX Try.prog Try.f81 [(1000, ⟨true, 0, [.bad, .bad]⟩)] (.agg [bl r.1.inn, i64 r.1.pl.A, i64 r.1.pl.B, i64 r.1.pl.C, i64 r.1.pl.D, .sl true 6 r.1.kids.length ((eSol true).f r.1.kids)]) [(1000, ⟨true, 0, [i64 r.2.1, bl r.2.2]⟩)]) ⟨[(8, .ptr 8 0)], [(8, ⟨true, 0, [bl b8_0, i64 b8_1, i64 b8_2, i64 b8_3, i64 b8_4, .nil]⟩), (1000, ⟨true, 0, [i64 b1000_0, bl b1000_1]⟩)]⟩ := by
  unfold Dspec_l11Take_2 at h
  obtain ⟨v10, hv10, h⟩ := bind_some h
  replace h := Option.some.inj h; subst h
  exact x_end 4 [(0, .call [] [] (.agg [bl v10.inn, i64 v10.pl.A, i64 v10.pl.B, i64 v10.pl.C, i64 v10.pl.D, .sl true 6 v10.kids.length ((eSol true).f v10.kids)]) [])] [] (ocons (Tspec_Leaf (Y := Y) false _ hv10) onil) onil (by kernel_rfl)
def Dspec_l11Take_3 (_n : Nat) (self1 : ((Int × Bool) × Bool × Sol × (List Pl)) → Option (Sol × (Int × Bool))) (t1 : Bool) (t3 : List Pl) (t62 _b6_0 : Bool) (b6_1 b6_2 b6_3 b6_4 : Int) (b6_5 : List Sol) (_b8_0 : Bool) (_b8_1 _b8_2 _b8_3 _b8_4 b1000_0 : Int) (b1000_1 : Bool) : Option (Sol × (Int × Bool)) :=
  frk t62 ((Dspec_Leaf false).bind fun v11 => some (v11, (b1000_0, true))) ((lget b6_5 0).bind fun v12 => (Dspec_l8Path t3 (Pl.mk b6_1 b6_2 b6_3 b6_4)).bind fun v13 => (self1 ((b1000_0, b1000_1), t1, v12, v13)).bind fun v14 => (lget b6_5 1).bind fun v15 => (Dspec_l3Flip (Pl.mk b6_1 b6_2 b6_3 b6_4)).bind fun v16 => (Dspec_l8Path t3 v16).bind fun v17 => (self1 (v14.2, t1, v15, v17)).bind fun v18 => (Dspec_l11Nodeo1o2 (Pl.mk b6_1 b6_2 b6_3 b6_4) v14.1 v18.1).bind fun v19 => some (v19, v18.2))
theorem Tspec_l11Take_3 {Y} (n : Nat) (self1 : ((Int × Bool) × Bool × Sol × (List Pl)) → Option (Sol × (Int × Bool))) (hself1 : ∀ (a : ((Int × Bool) × Bool × Sol × (List Pl))) (r : (Sol × (Int × Bool))), self1 a = some r → Big Try.prog H Y (.call 81 [.ptr 1000 0, bl a.2.1, .agg [bl a.2.2.1.inn, i64 a.2.2.1.pl.A, i64 a.2.2.1.pl.B, i64 a.2.2.1.pl.C, i64 a.2.2.1.pl.D, .sl false 6 a.2.2.1.kids.length ((eSol false).f a.2.2.1.kids)], .sl false 4 a.2.2.2.length ((ePl).f a.2.2.2)] (lk [(1000, ⟨true, 0, [i64 a.1.1, bl a.1.2]⟩)]) (.agg [bl r.1.inn, i64 r.1.pl.A, i64 r.1.pl.B, i64 r.1.pl.C, i64 r.1.pl.D, .sl true 6 r.1.kids.length ((eSol true).f r.1.kids)]) (lk [(1000, ⟨true, 0, [i64 r.2.1, bl r.2.2]⟩)]))) (t1 : Bool) (t3 : List Pl) (t62 b6_0 : Bool) (b6_1 b6_2 b6_3 b6_4 : Int) (b6_5 : List Sol) (b8_0 : Bool) (b8_1 b8_2 b8_3 b8_4 b1000_0 : Int) (b1000_1 : Bool) (r : (Sol × (Int × Bool))) (h : Dspec_l11Take_3 n self1 t1 t3 t62 b6_0 b6_1 b6_2 b6_3 b6_4 b6_5 b8_0 b8_1 b8_2 b8_3 b8_4 b1000_0 b1000_1 = some r) : Wk Try.prog H Y 81 [.code (cp [1, 1, 1, 1, 0, 0, 1, 1, 1, 1, 1] (bodyOf Try.f81)), .blk 0, .code (cp [1, 1, 1, 1, 1] (bodyOf Try.f81))] (FinX Try.prog Try.f81 [(1000, ⟨true, 0, [.bad, .bad]⟩)] (.agg [bl r.1.inn, i64 r.1.pl.A, i64 r.1.pl.B, i64 r.1.pl.C, i64 r.1.pl.D, .sl true 6 r.1.kids.length ((eSol true).f r.1.kids)]) [(1000, ⟨true, 0, [i64 r.2.1, bl r.2.2]⟩)]) ⟨[(0, .ptr 1000 0), (1, bl t1), (3, .sl false 4 t3.length ((ePl).f t3)), (6, .ptr 6 0), (8, .ptr 8 0), (62, bl t62)], [(6, ⟨true, 0, [bl b6_0, i64 b6_1, i64 b6_2, i64 b6_3, i64 b6_4, .sl false 6 b6_5.length ((eSol false).f b6_5)]⟩), (8, ⟨true, 0, [bl b8_0, i64 b8_1, i64 b8_2, i64 b8_3, i64 b8_4, .nil]⟩), (1000, ⟨true, 0, [i64 b1000_0, bl b1000_1]⟩)]⟩ := by
  unfold Dspec_l11Take_3 at h
  refine x_frk 0 [] onil h (by kernel_rfl) (fun h => ?_) (fun h => ?_)
  · obtain ⟨v11, hv11, h⟩ := bind_some h
    replace h := Option.some.inj h; subst h
    exact x_end 12 [(4, .call [] [] (.agg [bl v11.inn, i64 v11.pl.A, i64 v11.pl.B, i64 v11.pl.C, i64 v11.pl.D, .sl true 6 v11.kids.length ((eSol true).f v11.kids)]) [])] [] (ocons (Tspec_Leaf (Y := Y) false _ hv11) onil) onil (by kernel_rfl)
  · obtain ⟨v12, hv12, h⟩ := bind_some h
    obtain ⟨v13, hv13, h⟩ := bind_some h
    obtain ⟨v14, hv14, h⟩ := bind_some h
    obtain ⟨v15, hv15, h⟩ := bind_some h
    obtain ⟨v16, hv16, h⟩ := bind_some h
    obtain ⟨v17, hv17, h⟩ := bind_some h
    obtain ⟨v18, hv18, h⟩ := bind_some h
    obtain ⟨v19, hv19, h⟩ := bind_some h
    replace h := Option.some.inj h; subst h
    exact x_end 38 [(4, .val (.cptr ((eSol false).c v12 ++ (eSol false).f ((b6_5).drop (Int.toNat 0 + 1))))), (4, .call [] [] (.sl false 4 v13.length ((ePl).f v13)) []), (0, .call [] [] (.agg [bl v14.1.inn, i64 v14.1.pl.A, i64 v14.1.pl.B, i64 v14.1.pl.C, i64 v14.1.pl.D, .sl true 6 v14.1.kids.length ((eSol true).f v14.1.kids)]) [(1000, ⟨true, 0, [i64 v14.2.1, bl v14.2.2]⟩)]), (9, .val (.cptr ((eSol false).c v15 ++ (eSol false).f ((b6_5).drop (Int.toNat 1 + 1))))), (4, .call [] [] (.agg [i64 v16.A, i64 v16.B, i64 v16.C, i64 v16.D]) []), (0, .call [] [] (.sl false 4 v17.length ((ePl).f v17)) []), (0, .call [] [] (.agg [bl v18.1.inn, i64 v18.1.pl.A, i64 v18.1.pl.B, i64 v18.1.pl.C, i64 v18.1.pl.D, .sl true 6 v18.1.kids.length ((eSol true).f v18.1.kids)]) [(1000, ⟨true, 0, [i64 v18.2.1, bl v18.2.2]⟩)]), (0, .call [] [] (.agg [bl v19.inn, i64 v19.pl.A, i64 v19.pl.B, i64 v19.pl.C, i64 v19.pl.D, .sl true 6 v19.kids.length ((eSol true).f v19.kids)]) [])] [] (ocons (ix (eSol false) hv12) (ocons (shSl (L := v13) ePl ePl sPl (Tspec_l8Path (Y := Y) t3 (Pl.mk b6_1 b6_2 b6_3 b6_4) _ hv13)) (ocons (hself1 ((b1000_0, b1000_1), t1, v12, v13) _ hv14) (ocons (ix (eSol false) hv15) (ocons (Tspec_l3Flip (Y := Y) (Pl.mk b6_1 b6_2 b6_3 b6_4) _ hv16) (ocons (shSl (L := v17) ePl ePl sPl (Tspec_l8Path (Y := Y) t3 v16 _ hv17)) (ocons (hself1 (v14.2, t1, v15, v17) _ hv18) (ocons (Tspec_l11Nodeo1o2 (Y := Y) (Pl.mk b6_1 b6_2 b6_3 b6_4) v14.1 v18.1 _ hv19) onil)))))))) onil (by kernel_rfl)
def Dspec_l11Take_1 (n : Nat) (self1 : ((Int × Bool) × Bool × Sol × (List Pl)) → Option (Sol × (Int × Bool))) (t1 : Bool) (t3 : List Pl) (t48 b6_0 : Bool) (b6_1 b6_2 b6_3 b6_4 : Int) (b6_5 : List Sol) (b8_0 : Bool) (b8_1 b8_2 b8_3 b8_4 b1000_0 : Int) (b1000_1 : Bool) : Option (Sol × (Int × Bool)) :=
  frk t48 ((lget b6_5 1).bind fun v8 => (self1 ((b1000_0, b1000_1), t1, v8, t3)).bind fun v9 => some v9) (frk b1000_1 (Dspec_l11Take_2 n self1 b8_0 b8_1 b8_2 b8_3 b8_4 b1000_0 true) (Dspec_l11Take_3 n self1 t1 t3 ((t3.length : Int) == 24) b6_0 b6_1 b6_2 b6_3 b6_4 b6_5 b8_0 b8_1 b8_2 b8_3 b8_4 b1000_0 b1000_1))
theorem Tspec_l11Take_1 {Y} (n : Nat) (self1 : ((Int × Bool) × Bool × Sol × (List Pl)) → Option (Sol × (Int × Bool))) (hself1 : ∀ (a : ((Int × Bool) × Bool × Sol × (List Pl))) (r : (Sol × (Int × Bool))), self1 a = some r → Big Try.prog H Y (.call 81 [.ptr 1000 0, bl a.2.1, .agg [bl a.2.2.1.inn, i64 a.2.2.1.pl.A, i64 a.2.2.1.pl.B, i64 a.2.2.1.pl.C, i64 a.2.2.1.pl.D, .sl false 6 a.2.2.1.kids.length ((eSol false).f a.2.2.1.kids)], .sl false 4 a.2.2.2.length ((ePl).f a.2.2.2)] (lk [(1000, ⟨true, 0, [i64 a.1.1, bl a.1.2]⟩)]) (.agg [bl r.1.inn, i64 r.1.pl.A, i64 r.1.pl.B, i64 r.1.pl.C, i64 r.1.pl.D, .sl true 6 r.1.kids.length ((eSol true).f r.1.kids)]) (lk [(1000, ⟨true, 0, [i64 r.2.1, bl r.2.2]⟩)]))) (t1 : Bool) (t3 : List Pl) (t48 b6_0 : Bool) (b6_1 b6_2 b6_3 b6_4 : Int) (b6_5 : List Sol) (b8_0 : Bool) (b8_1 b8_2 b8_3 b8_4 b1000_0 : Int) (b1000_1 : Bool) (r : (Sol × (Int × Bool))) (h : Dspec_l11Take_1 n self1 t1 t3 t48 b6_0 b6_1 b6_2 b6_3 b6_4 b6_5 b8_0 b8_1 b8_2 b8_3 b8_4 b1000_0 b1000_1 = some r) : Wk Try.prog H Y 81 [.code (cp [1, 1, 1, 1, 0, 0, 1, 1, 1] (bodyOf Try.f81)), .blk 0, .code (cp [1, 1, 1, 1, 1] (bodyOf Try.f81))] (FinX Try.prog Try.f81 [(1000, ⟨true, 0, [.bad, .bad]⟩)] (.agg [bl r.1.inn, i64 r.1.pl.A, i64 r.1.pl.B, i64 r.1.pl.C, i64 r.1.pl.D, .sl true 6 r.1.kids.length ((eSol true).f r.1.kids)]) [(1000, ⟨true, 0, [i64 r.2.1, bl r.2.2]⟩)]) ⟨[(0, .ptr 1000 0), (1, bl t1), (3, .sl false 4 t3.length ((ePl).f t3)), (6, .ptr 6 0), (8, .ptr 8 0), (48, bl t48)], [(6, ⟨true, 0, [bl b6_0, i64 b6_1, i64 b6_2, i64 b6_3, i64 b6_4, .sl false 6 b6_5.length ((eSol false).f b6_5)]⟩), (8, ⟨true, 0, [bl b8_0, i64 b8_1, i64 b8_2, i64 b8_3, i64 b8_4, .nil]⟩), (1000, ⟨true, 0, [i64 b1000_0, bl b1000_1]⟩)]⟩ := by
  unfold Dspec_l11Take_1 at h
  refine x_frk 0 [] onil h (by kernel_rfl) (fun h => ?_) (fun h => ?_)
  · obtain ⟨v8, hv8, h⟩ := bind_some h
    obtain ⟨v9, hv9, h⟩ := bind_some h
    replace h := Option.some.inj h; subst h
    exact x_end 12 [(4, .val (.cptr ((eSol false).c v8 ++ (eSol false).f ((b6_5).drop (Int.toNat 1 + 1))))), (2, .call [] [] (.agg [bl v9.1.inn, i64 v9.1.pl.A, i64 v9.1.pl.B, i64 v9.1.pl.C, i64 v9.1.pl.D, .sl true 6 v9.1.kids.length ((eSol true).f v9.1.kids)]) [(1000, ⟨true, 0, [i64 v9.2.1, bl v9.2.2]⟩)])] [] (ocons (ix (eSol false) hv8) (ocons (hself1 ((b1000_0, b1000_1), t1, v8, t3) _ hv9) onil)) onil (by kernel_rfl)
  · refine x_frk 7 [] onil h (by kernel_rfl) (fun h => ?_) (fun h => ?_)
    · exact x_to 15 [] onil (Tspec_l11Take_2 n self1 hself1 b8_0 b8_1 b8_2 b8_3 b8_4 b1000_0 true r h) (by kernel_rfl)
    · exact x_to 6 [] onil (Tspec_l11Take_3 n self1 hself1 t1 t3 ((t3.length : Int) == 24) b6_0 b6_1 b6_2 b6_3 b6_4 b6_5 b8_0 b8_1 b8_2 b8_3 b8_4 b1000_0 b1000_1 r h) (by kernel_rfl)
def Dspec_l11Take_4 (n : Nat) (self1 : ((Int × Bool) × Bool × Sol × (List Pl)) → Option (Sol × (Int × Bool))) (t1 : Bool) (t3 : List Pl) (b6_0 : Bool) (b6_1 b6_2 b6_3 b6_4 : Int) (b6_5 : List Sol) (b8_0 : Bool) (b8_1 b8_2 b8_3 b8_4 b1000_0 : Int) (b1000_1 : Bool) : Option (Sol × (Int × Bool)) :=
  frk b1000_1 (Dspec_l11Take_2 n self1 b8_0 b8_1 b8_2 b8_3 b8_4 b1000_0 true) (Dspec_l11Take_3 n self1 t1 t3 ((t3.length : Int) == 24) b6_0 b6_1 b6_2 b6_3 b6_4 b6_5 b8_0 b8_1 b8_2 b8_3 b8_4 b1000_0 b1000_1)
theorem Tspec_l11Take_4 {Y} (n : Nat) (self1 : ((Int × Bool) × Bool × Sol × (List Pl)) → Option (Sol × (Int × Bool))) (hself1 : ∀ (a : ((Int × Bool) × Bool × Sol × (List Pl))) (r : (Sol × (Int × Bool))), self1 a = some r → Big Try.prog H Y (.call 81 [.ptr 1000 0, bl a.2.1, .agg [bl a.2.2.1.inn, i64 a.2.2.1.pl.A, i64 a.2.2.1.pl.B, i64 a.2.2.1.pl.C, i64 a.2.2.1.pl.D, .sl false 6 a.2.2.1.kids.length ((eSol false).f a.2.2.1.kids)], .sl false 4 a.2.2.2.length ((ePl).f a.2.2.2)] (lk [(1000, ⟨true, 0, [i64 a.1.1, bl a.1.2]⟩)]) (.agg [bl r.1.inn, i64 r.1.pl.A, i64 r.1.pl.B, i64 r.1.pl.C, i64 r.1.pl.D, .sl true 6 r.1.kids.length ((eSol true).f r.1.kids)]) (lk [(1000, ⟨true, 0, [i64 r.2.1, bl r.2.2]⟩)]))) (t1 : Bool) (t3 : List Pl) (b6_0 : Bool) (b6_1 b6_2 b6_3 b6_4 : Int) (b6_5 : List Sol) (b8_0 : Bool) (b8_1 b8_2 b8_3 b8_4 b1000_0 : Int) (b1000_1 : Bool) (r : (Sol × (Int × Bool))) (h : Dspec_l11Take_4 n self1 t1 t3 b6_0 b6_1 b6_2 b6_3 b6_4 b6_5 b8_0 b8_1 b8_2 b8_3 b8_4 b1000_0 b1000_1 = some r) : Wk Try.prog H Y 81 [.code (cp [1, 1, 1, 1, 0, 0, 1, 1, 1, 1, 0] (bodyOf Try.f81)), .code (cp [1, 1, 1, 1, 0, 0, 1, 1, 1, 1, 1] (bodyOf Try.f81)), .blk 0, .code (cp [1, 1, 1, 1, 1] (bodyOf Try.f81))] (FinX Try.prog Try.f81 [(1000, ⟨true, 0, [.bad, .bad]⟩)] (.agg [bl r.1.inn, i64 r.1.pl.A, i64 r.1.pl.B, i64 r.1.pl.C, i64 r.1.pl.D, .sl true 6 r.1.kids.length ((eSol true).f r.1.kids)]) [(1000, ⟨true, 0, [i64 r.2.1, bl r.2.2]⟩)]) ⟨[(0, .ptr 1000 0), (1, bl t1), (3, .sl false 4 t3.length ((ePl).f t3)), (6, .ptr 6 0), (8, .ptr 8 0)], [(6, ⟨true, 0, [bl b6_0, i64 b6_1, i64 b6_2, i64 b6_3, i64 b6_4, .sl false 6 b6_5.length ((eSol false).f b6_5)]⟩), (8, ⟨true, 0, [bl b8_0, i64 b8_1, i64 b8_2, i64 b8_3, i64 b8_4, .nil]⟩), (1000, ⟨true, 0, [i64 b1000_0, bl b1000_1]⟩)]⟩ := by
  unfold Dspec_l11Take_4 at h
  refine x_frk 6 [] onil h (by kernel_rfl) (fun h => ?_) (fun h => ?_)
  · exact x_to 15 [] onil (Tspec_l11Take_2 n self1 hself1 b8_0 b8_1 b8_2 b8_3 b8_4 b1000_0 true r h) (by kernel_rfl)
  · exact x_to 6 [] onil (Tspec_l11Take_3 n self1 hself1 t1 t3 ((t3.length : Int) == 24) b6_0 b6_1 b6_2 b6_3 b6_4 b6_5 b8_0 b8_1 b8_2 b8_3 b8_4 b1000_0 b1000_1 r h) (by kernel_rfl)
def Dspec_l11Take_0 (n : Nat) (self1 : ((Int × Bool) × Bool × Sol × (List Pl)) → Option (Sol × (Int × Bool))) (t1 : Bool) (t3 : List Pl) (t9 t10 t34 b6_0 : Bool) (b6_1 b6_2 b6_3 b6_4 : Int) (b6_5 : List Sol) (b8_0 : Bool) (b8_1 b8_2 b8_3 b8_4 b1000_0 : Int) (b1000_1 : Bool) : Option (Sol × (Int × Bool)) :=
  frk t34 ((lget b6_5 0).bind fun v6 => (self1 ((b1000_0, b1000_1), t1, v6, t3)).bind fun v7 => some v7) (frk t10 (Dspec_l11Take_1 n self1 t1 t3 (!t9) b6_0 b6_1 b6_2 b6_3 b6_4 b6_5 b8_0 b8_1 b8_2 b8_3 b8_4 b1000_0 b1000_1) (Dspec_l11Take_4 n self1 t1 t3 b6_0 b6_1 b6_2 b6_3 b6_4 b6_5 b8_0 b8_1 b8_2 b8_3 b8_4 b1000_0 b1000_1))
theorem Tspec_l11Take_0 {Y} (n : Nat) (self1 : ((Int × Bool) × Bool × Sol × (List Pl)) → Option (Sol × (Int × Bool))) (hself1 : ∀ (a : ((Int × Bool) × Bool × Sol × (List Pl))) (r : (Sol × (Int × Bool))), self1 a = some r → Big Try.prog H Y (.call 81 [.ptr 1000 0, bl a.2.1, .agg [bl a.2.2.1.inn, i64 a.2.2.1.pl.A, i64 a.2.2.1.pl.B, i64 a.2.2.1.pl.C, i64 a.2.2.1.pl.D, .sl false 6 a.2.2.1.kids.length ((eSol false).f a.2.2.1.kids)], .sl false 4 a.2.2.2.length ((ePl).f a.2.2.2)] (lk [(1000, ⟨true, 0, [i64 a.1.1, bl a.1.2]⟩)]) (.agg [bl r.1.inn, i64 r.1.pl.A, i64 r.1.pl.B, i64 r.1.pl.C, i64 r.1.pl.D, .sl true 6 r.1.kids.length ((eSol true).f r.1.kids)]) (lk [(1000, ⟨true, 0, [i64 r.2.1, bl r.2.2]⟩)]))) (t1 : Bool) (t3 : List Pl) (t9 t10 t34 b6_0 : Bool) (b6_1 b6_2 b6_3 b6_4 : Int) (b6_5 : List Sol) (b8_0 : Bool) (b8_1 b8_2 b8_3 b8_4 b1000_0 : Int) (b1000_1 : Bool) (r : (Sol × (Int × Bool))) (h : Dspec_l11Take_0 n self1 t1 t3 t9 t10 t34 b6_0 b6_1 b6_2 b6_3 b6_4 b6_5 b8_0 b8_1 b8_2 b8_3 b8_4 b1000_0 b1000_1 = some r) : Wk Try.prog H Y 81 [.code (cp [1, 1, 1, 1, 0, 0, 1] (bodyOf Try.f81)), .blk 0, .code (cp [1, 1, 1, 1, 1] (bodyOf Try.f81))] (FinX Try.prog Try.f81 [(1000, ⟨true, 0, [.bad, .bad]⟩)] (.agg [bl r.1.inn, i64 r.1.pl.A, i64 r.1.pl.B, i64 r.1.pl.C, i64 r.1.pl.D, .sl true 6 r.1.kids.length ((eSol true).f r.1.kids)]) [(1000, ⟨true, 0, [i64 r.2.1, bl r.2.2]⟩)]) ⟨[(0, .ptr 1000 0), (1, bl t1), (3, .sl false 4 t3.length ((ePl).f t3)), (6, .ptr 6 0), (8, .ptr 8 0), (9, bl t9), (10, bl t10), (34, bl t34)], [(6, ⟨true, 0, [bl b6_0, i64 b6_1, i64 b6_2, i64 b6_3, i64 b6_4, .sl false 6 b6_5.length ((eSol false).f b6_5)]⟩), (8, ⟨true, 0, [bl b8_0, i64 b8_1, i64 b8_2, i64 b8_3, i64 b8_4, .nil]⟩), (1000, ⟨true, 0, [i64 b1000_0, bl b1000_1]⟩)]⟩ := by
  unfold Dspec_l11Take_0 at h
  refine x_frk 0 [] onil h (by kernel_rfl) (fun h => ?_) (fun h => ?_)
  · obtain ⟨v6, hv6, h⟩ := bind_some h
    obtain ⟨v7, hv7, h⟩ := bind_some h
    replace h := Option.some.inj h; subst h
    exact x_end 12 [(4, .val (.cptr ((eSol false).c v6 ++ (eSol false).f ((b6_5).drop (Int.toNat 0 + 1))))), (2, .call [] [] (.agg [bl v7.1.inn, i64 v7.1.pl.A, i64 v7.1.pl.B, i64 v7.1.pl.C, i64 v7.1.pl.D, .sl true 6 v7.1.kids.length ((eSol true).f v7.1.kids)]) [(1000, ⟨true, 0, [i64 v7.2.1, bl v7.2.2]⟩)])] [] (ocons (ix (eSol false) hv6) (ocons (hself1 ((b1000_0, b1000_1), t1, v6, t3) _ hv7) onil)) onil (by kernel_rfl)
  · refine x_frk 4 [] onil h (by kernel_rfl) (fun h => ?_) (fun h => ?_)
    · exact x_to 5 [] onil (Tspec_l11Take_1 n self1 hself1 t1 t3 (!t9) b6_0 b6_1 b6_2 b6_3 b6_4 b6_5 b8_0 b8_1 b8_2 b8_3 b8_4 b1000_0 b1000_1 r h) (by kernel_rfl)
    · exact x_to 7 [] onil (Tspec_l11Take_4 n self1 hself1 t1 t3 b6_0 b6_1 b6_2 b6_3 b6_4 b6_5 b8_0 b8_1 b8_2 b8_3 b8_4 b1000_0 b1000_1 r h) (by kernel_rfl)
def Dspec_l11Take_5 (n : Nat) (self1 : ((Int × Bool) × Bool × Sol × (List Pl)) → Option (Sol × (Int × Bool))) (t1 : Bool) (t3 : List Pl) (t9 t10 b6_0 : Bool) (b6_1 b6_2 b6_3 b6_4 : Int) (b6_5 : List Sol) (b8_0 : Bool) (b8_1 b8_2 b8_3 b8_4 b1000_0 : Int) (b1000_1 : Bool) : Option (Sol × (Int × Bool)) :=
  frk t10 (Dspec_l11Take_1 n self1 t1 t3 (!t9) b6_0 b6_1 b6_2 b6_3 b6_4 b6_5 b8_0 b8_1 b8_2 b8_3 b8_4 b1000_0 b1000_1) (Dspec_l11Take_4 n self1 t1 t3 b6_0 b6_1 b6_2 b6_3 b6_4 b6_5 b8_0 b8_1 b8_2 b8_3 b8_4 b1000_0 b1000_1)
theorem Tspec_l11Take_5 {Y} (n : Nat) (self1 : ((Int × Bool) × Bool × Sol × (List Pl)) → Option (Sol × (Int × Bool))) (hself1 : ∀ (a : ((Int × Bool) × Bool × Sol × (List Pl))) (r : (Sol × (Int × Bool))), self1 a = some r → Big Try.prog H Y (.call 81 [.ptr 1000 0, bl a.2.1, .agg [bl a.2.2.1.inn, i64 a.2.2.1.pl.A, i64 a.2.2.1.pl.B, i64 a.2.2.1.pl.C, i64 a.2.2.1.pl.D, .sl false 6 a.2.2.1.kids.length ((eSol false).f a.2.2.1.kids)], .sl false 4 a.2.2.2.length ((ePl).f a.2.2.2)] (lk [(1000, ⟨true, 0, [i64 a.1.1, bl a.1.2]⟩)]) (.agg [bl r.1.inn, i64 r.1.pl.A, i64 r.1.pl.B, i64 r.1.pl.C, i64 r.1.pl.D, .sl true 6 r.1.kids.length ((eSol true).f r.1.kids)]) (lk [(1000, ⟨true, 0, [i64 r.2.1, bl r.2.2]⟩)]))) (t1 : Bool) (t3 : List Pl) (t9 t10 b6_0 : Bool) (b6_1 b6_2 b6_3 b6_4 : Int) (b6_5 : List Sol) (b8_0 : Bool) (b8_1 b8_2 b8_3 b8_4 b1000_0 : Int) (b1000_1 : Bool) (r : (Sol × (Int × Bool))) (h : Dspec_l11Take_5 n self1 t1 t3 t9 t10 b6_0 b6_1 b6_2 b6_3 b6_4 b6_5 b8_0 b8_1 b8_2 b8_3 b8_4 b1000_0 b1000_1 = some r) : Wk Try.prog H Y 81 [.code (cp [1, 1, 1, 1, 0, 0, 1, 1, 0] (bodyOf Try.f81)), .code (cp [1, 1, 1, 1, 0, 0, 1, 1, 1] (bodyOf Try.f81)), .blk 0, .code (cp [1, 1, 1, 1, 1] (bodyOf Try.f81))] (FinX Try.prog Try.f81 [(1000, ⟨true, 0, [.bad, .bad]⟩)] (.agg [bl r.1.inn, i64 r.1.pl.A, i64 r.1.pl.B, i64 r.1.pl.C, i64 r.1.pl.D, .sl true 6 r.1.kids.length ((eSol true).f r.1.kids)]) [(1000, ⟨true, 0, [i64 r.2.1, bl r.2.2]⟩)]) ⟨[(0, .ptr 1000 0), (1, bl t1), (3, .sl false 4 t3.length ((ePl).f t3)), (6, .ptr 6 0), (8, .ptr 8 0), (9, bl t9), (10, bl t10)], [(6, ⟨true, 0, [bl b6_0, i64 b6_1, i64 b6_2, i64 b6_3, i64 b6_4, .sl false 6 b6_5.length ((eSol false).f b6_5)]⟩), (8, ⟨true, 0, [bl b8_0, i64 b8_1, i64 b8_2, i64 b8_3, i64 b8_4, .nil]⟩), (1000, ⟨true, 0, [i64 b1000_0, bl b1000_1]⟩)]⟩ := by
  unfold Dspec_l11Take_5 at h
  refine x_frk 3 [] onil h (by kernel_rfl) (fun h => ?_) (fun h => ?_)
  · exact x_to 5 [] onil (Tspec_l11Take_1 n self1 hself1 t1 t3 (!t9) b6_0 b6_1 b6_2 b6_3 b6_4 b6_5 b8_0 b8_1 b8_2 b8_3 b8_4 b1000_0 b1000_1 r h) (by kernel_rfl)
  · exact x_to 7 [] onil (Tspec_l11Take_4 n self1 hself1 t1 t3 b6_0 b6_1 b6_2 b6_3 b6_4 b6_5 b8_0 b8_1 b8_2 b8_3 b8_4 b1000_0 b1000_1 r h) (by kernel_rfl)
def Dspec_l11Take_b (n : Nat) (self1 : ((Int × Bool) × Bool × Sol × (List Pl)) → Option (Sol × (Int × Bool))) (a : ((Int × Bool) × Bool × Sol × (List Pl))) : Option (Sol × (Int × Bool)) :=
  match a with
  | (a0, a1, a2, a3) => (Dspec_l8Leaf a2).bind fun v0 => frk v0 ((Dspec_l11In a0.1 a1 a2.inn).bind fun v1 => (Dspec_Leaf v1).bind fun v2 => some (v2, a0)) ((Dspec_l6With n a3 a2.pl).bind fun v3 => (Dspec_l3Flip a2.pl).bind fun v4 => (Dspec_l6With n a3 v4).bind fun v5 => frk (!v3) (Dspec_l11Take_0 n self1 a1 a3 (!v3) (!v5) (!(!v5)) a2.inn a2.pl.A a2.pl.B a2.pl.C a2.pl.D a2.kids false 0 0 0 0 a0.1 a0.2) (Dspec_l11Take_5 n self1 a1 a3 (!v3) (!v5) a2.inn a2.pl.A a2.pl.B a2.pl.C a2.pl.D a2.kids false 0 0 0 0 a0.1 a0.2))
def Dspec_l11Take (n : Nat) (a0 : (Int × Bool)) (a1 : Bool) (a2 : Sol) (a3 : (List Pl)) : Option (Sol × (Int × Bool)) := loopN (Dspec_l11Take_b n) n (a0, a1, a2, a3)
theorem Tspec_l11Take_b {Y} (n : Nat) : ∀ (m : Nat) (a : ((Int × Bool) × Bool × Sol × (List Pl))) (r : (Sol × (Int × Bool))), loopN (Dspec_l11Take_b n) m a = some r → ∀ (_ : Unit), Big Try.prog H Y (.call 81 [.ptr 1000 0, bl a.2.1, .agg [bl a.2.2.1.inn, i64 a.2.2.1.pl.A, i64 a.2.2.1.pl.B, i64 a.2.2.1.pl.C, i64 a.2.2.1.pl.D, .sl false 6 a.2.2.1.kids.length ((eSol false).f a.2.2.1.kids)], .sl false 4 a.2.2.2.length ((ePl).f a.2.2.2)] (lk [(1000, ⟨true, 0, [i64 a.1.1, bl a.1.2]⟩)]) (.agg [bl r.1.inn, i64 r.1.pl.A, i64 r.1.pl.B, i64 r.1.pl.C, i64 r.1.pl.D, .sl true 6 r.1.kids.length ((eSol true).f r.1.kids)]) (lk [(1000, ⟨true, 0, [i64 r.2.1, bl r.2.2]⟩)])) := by
  refine loopN_ind (fun self1 hs a r h => ?_)
  have hself1 : ∀ (a : ((Int × Bool) × Bool × Sol × (List Pl))) (r : (Sol × (Int × Bool))), self1 a = some r → Big Try.prog H Y (.call 81 [.ptr 1000 0, bl a.2.1, .agg [bl a.2.2.1.inn, i64 a.2.2.1.pl.A, i64 a.2.2.1.pl.B, i64 a.2.2.1.pl.C, i64 a.2.2.1.pl.D, .sl false 6 a.2.2.1.kids.length ((eSol false).f a.2.2.1.kids)], .sl false 4 a.2.2.2.length ((ePl).f a.2.2.2)] (lk [(1000, ⟨true, 0, [i64 a.1.1, bl a.1.2]⟩)]) (.agg [bl r.1.inn, i64 r.1.pl.A, i64 r.1.pl.B, i64 r.1.pl.C, i64 r.1.pl.D, .sl true 6 r.1.kids.length ((eSol true).f r.1.kids)]) (lk [(1000, ⟨true, 0, [i64 r.2.1, bl r.2.2]⟩)])) := fun a r h => hs a r h ()
  intro _
  obtain ⟨a0, a1, a2, a3⟩ := a
  unfold Dspec_l11Take_b at h
  refine x_call (fn := Try.f81) (c := bodyOf Try.f81) (bs0 := [(1000, ⟨true, 0, [.bad, .bad]⟩)]) Try.func81 (by kernel_rfl) (by kernel_rfl) ?_
  obtain ⟨v0, hv0, h⟩ := bind_some h
  refine x_frk 11 [(3, .call [] [] (bl v0) [])] (ocons (Tspec_l8Leaf (Y := Y) a2 _ hv0) onil) h (by kernel_rfl) (fun h => ?_) (fun h => ?_)
  · obtain ⟨v1, hv1, h⟩ := bind_some h
    obtain ⟨v2, hv2, h⟩ := bind_some h
    replace h := Option.some.inj h; subst h
    exact x_end 13 [(7, .call [] [] (bl v1) []), (0, .call [] [] (.agg [bl v2.inn, i64 v2.pl.A, i64 v2.pl.B, i64 v2.pl.C, i64 v2.pl.D, .sl true 6 v2.kids.length ((eSol true).f v2.kids)]) [])] [] (ocons (Tspec_l11In (Y := Y) a0.1 a1 a2.inn _ hv1) (ocons (Tspec_Leaf (Y := Y) v1 _ hv2) onil)) onil (by kernel_rfl)
  · obtain ⟨v3, hv3, h⟩ := bind_some h
    obtain ⟨v4, hv4, h⟩ := bind_some h
    obtain ⟨v5, hv5, h⟩ := bind_some h
    refine x_frk 26 [(3, .call [] [] (bl v3) []), (5, .call [] [] (.agg [i64 v4.A, i64 v4.B, i64 v4.C, i64 v4.D]) []), (0, .call [] [] (bl v5) [])] (ocons (Tspec_l6With (Y := Y) n a3 a2.pl _ hv3) (ocons (Tspec_l3Flip (Y := Y) a2.pl _ hv4) (ocons (Tspec_l6With (Y := Y) n a3 v4 _ hv5) onil))) h (by kernel_rfl) (fun h => ?_) (fun h => ?_)
    · exact x_to 5 [] onil (Tspec_l11Take_0 n self1 hself1 a1 a3 (!v3) (!v5) (!(!v5)) a2.inn a2.pl.A a2.pl.B a2.pl.C a2.pl.D a2.kids false 0 0 0 0 a0.1 a0.2 r h) (by kernel_rfl)
    · exact x_to 7 [] onil (Tspec_l11Take_5 n self1 hself1 a1 a3 (!v3) (!v5) a2.inn a2.pl.A a2.pl.B a2.pl.C a2.pl.D a2.kids false 0 0 0 0 a0.1 a0.2 r h) (by kernel_rfl)
theorem Tspec_l11Take {Y} (n : Nat) (a0 : (Int × Bool)) (a1 : Bool) (a2 : Sol) (a3 : (List Pl)) (r : (Sol × (Int × Bool))) (h : Dspec_l11Take n a0 a1 a2 a3 = some r) : Big Try.prog H Y (.call 81 [.ptr 1000 0, bl a1, .agg [bl a2.inn, i64 a2.pl.A, i64 a2.pl.B, i64 a2.pl.C, i64 a2.pl.D, .sl false 6 a2.kids.length ((eSol false).f a2.kids)], .sl false 4 a3.length ((ePl).f a3)] (lk [(1000, ⟨true, 0, [i64 a0.1, bl a0.2]⟩)]) (.agg [bl r.1.inn, i64 r.1.pl.A, i64 r.1.pl.B, i64 r.1.pl.C, i64 r.1.pl.D, .sl true 6 r.1.kids.length ((eSol true).f r.1.kids)]) (lk [(1000, ⟨true, 0, [i64 r.2.1, bl r.2.2]⟩)])) := Tspec_l11Take_b n n (a0, a1, a2, a3) r h ()
/-! spec.l11Both -/
def Dspec_l11Both_b (n : Nat) (self : ((Int × Bool) × Sol × Sol × (List Pl)) → Option (Sol × (Int × Bool))) (a : ((Int × Bool) × Sol × Sol × (List Pl))) : Option (Sol × (Int × Bool)) :=
  match a with
  | (a0, a1, a2, a3) => (Dspec_l8Leaf a1).bind fun v0 => frk v0 ((Dspec_l11Take n a0 a1.inn a2 a3).bind fun v1 => some v1) ((lget a1.kids 0).bind fun v2 => (Dspec_l8Path a3 a1.pl).bind fun v3 => (self (a0, v2, a2, v3)).bind fun v4 => (lget a1.kids 1).bind fun v5 => (Dspec_l3Flip a1.pl).bind fun v6 => (Dspec_l8Path a3 v6).bind fun v7 => (self (v4.2, v5, a2, v7)).bind fun v8 => (Dspec_l11Nodeo1o2 a1.pl v4.1 v8.1).bind fun v9 => some (v9, v8.2))
def Dspec_l11Both (n : Nat) (a0 : (Int × Bool)) (a1 : Sol) (a2 : Sol) (a3 : (List Pl)) : Option (Sol × (Int × Bool)) := loopN (Dspec_l11Both_b n) n (a0, a1, a2, a3)
theorem Tspec_l11Both_b {Y} (n : Nat) : ∀ (m : Nat) (a : ((Int × Bool) × Sol × Sol × (List Pl))) (r : (Sol × (Int × Bool))), loopN (Dspec_l11Both_b n) m a = some r → ∀ (_ : Unit), Big Try.prog H Y (.call 53 [.ptr 1000 0, .agg [bl a.2.1.inn, i64 a.2.1.pl.A, i64 a.2.1.pl.B, i64 a.2.1.pl.C, i64 a.2.1.pl.D, .sl false 6 a.2.1.kids.length ((eSol false).f a.2.1.kids)], .agg [bl a.2.2.1.inn, i64 a.2.2.1.pl.A, i64 a.2.2.1.pl.B, i64 a.2.2.1.pl.C, i64 a.2.2.1.pl.D, .sl false 6 a.2.2.1.kids.length ((eSol false).f a.2.2.1.kids)], .sl false 4 a.2.2.2.length ((ePl).f a.2.2.2)] (lk [(1000, ⟨true, 0, [i64 a.1.1, bl a.1.2]⟩)]) (.agg [bl r.1.inn, i64 r.1.pl.A, i64 r.1.pl.B, i64 r.1.pl.C, i64 r.1.pl.D, .sl true 6 r.1.kids.length ((eSol true).f r.1.kids)]) (lk [(1000, ⟨true, 0, [i64 r.2.1, bl r.2.2]⟩)])) := by
  refine loopN_ind (fun self hs a r h => ?_)
  have hself : ∀ (a : ((Int × Bool) × Sol × Sol × (List Pl))) (r : (Sol × (Int × Bool))), self a = some r → Big Try.prog H Y (.call 53 [.ptr 1000 0, .agg [bl a.2.1.inn, i64 a.2.1.pl.A, i64 a.2.1.pl.B, i64 a.2.1.pl.C, i64 a.2.1.pl.D, .sl false 6 a.2.1.kids.length ((eSol false).f a.2.1.kids)], .agg [bl a.2.2.1.inn, i64 a.2.2.1.pl.A, i64 a.2.2.1.pl.B, i64 a.2.2.1.pl.C, i64 a.2.2.1.pl.D, .sl false 6 a.2.2.1.kids.length ((eSol false).f a.2.2.1.kids)], .sl false 4 a.2.2.2.length ((ePl).f a.2.2.2)] (lk [(1000, ⟨true, 0, [i64 a.1.1, bl a.1.2]⟩)]) (.agg [bl r.1.inn, i64 r.1.pl.A, i64 r.1.pl.B, i64 r.1.pl.C, i64 r.1.pl.D, .sl true 6 r.1.kids.length ((eSol true).f r.1.kids)]) (lk [(1000, ⟨true, 0, [i64 r.2.1, bl r.2.2]⟩)])) := fun a r h => hs a r h ()
  intro _
  obtain ⟨a0, a1, a2, a3⟩ := a
  unfold Dspec_l11Both_b at h
  refine x_call (fn := Try.f53) (c := bodyOf Try.f53) (bs0 := [(1000, ⟨true, 0, [.bad, .bad]⟩)]) Try.func53 (by kernel_rfl) (by kernel_rfl) ?_
  obtain ⟨v0, hv0, h⟩ := bind_some h
  refine x_frk 12 [(4, .call [] [] (bl v0) [])] (ocons (Tspec_l8Leaf (Y := Y) a1 _ hv0) onil) h (by kernel_rfl) (fun h => ?_) (fun h => ?_)
  · obtain ⟨v1, hv1, h⟩ := bind_some h
    replace h := Option.some.inj h; subst h
    exact x_end 10 [(5, .call [] [] (.agg [bl v1.1.inn, i64 v1.1.pl.A, i64 v1.1.pl.B, i64 v1.1.pl.C, i64 v1.1.pl.D, .sl true 6 v1.1.kids.length ((eSol true).f v1.1.kids)]) [(1000, ⟨true, 0, [i64 v1.2.1, bl v1.2.2]⟩)])] [] (ocons (Tspec_l11Take (Y := Y) n a0 a1.inn a2 a3 _ hv1) onil) onil (by kernel_rfl)
  · obtain ⟨v2, hv2, h⟩ := bind_some h
    obtain ⟨v3, hv3, h⟩ := bind_some h
    obtain ⟨v4, hv4, h⟩ := bind_some h
    obtain ⟨v5, hv5, h⟩ := bind_some h
    obtain ⟨v6, hv6, h⟩ := bind_some h
    obtain ⟨v7, hv7, h⟩ := bind_some h
    obtain ⟨v8, hv8, h⟩ := bind_some h
    obtain ⟨v9, hv9, h⟩ := bind_some h
    replace h := Option.some.inj h; subst h
    exact x_end 37 [(3, .val (.cptr ((eSol false).c v2 ++ (eSol false).f ((a1.kids).drop (Int.toNat 0 + 1))))), (5, .call [] [] (.sl false 4 v3.length ((ePl).f v3)) []), (0, .call [] [] (.agg [bl v4.1.inn, i64 v4.1.pl.A, i64 v4.1.pl.B, i64 v4.1.pl.C, i64 v4.1.pl.D, .sl true 6 v4.1.kids.length ((eSol true).f v4.1.kids)]) [(1000, ⟨true, 0, [i64 v4.2.1, bl v4.2.2]⟩)]), (8, .val (.cptr ((eSol false).c v5 ++ (eSol false).f ((a1.kids).drop (Int.toNat 1 + 1))))), (5, .call [] [] (.agg [i64 v6.A, i64 v6.B, i64 v6.C, i64 v6.D]) []), (0, .call [] [] (.sl false 4 v7.length ((ePl).f v7)) []), (0, .call [] [] (.agg [bl v8.1.inn, i64 v8.1.pl.A, i64 v8.1.pl.B, i64 v8.1.pl.C, i64 v8.1.pl.D, .sl true 6 v8.1.kids.length ((eSol true).f v8.1.kids)]) [(1000, ⟨true, 0, [i64 v8.2.1, bl v8.2.2]⟩)]), (0, .call [] [] (.agg [bl v9.inn, i64 v9.pl.A, i64 v9.pl.B, i64 v9.pl.C, i64 v9.pl.D, .sl true 6 v9.kids.length ((eSol true).f v9.kids)]) [])] [] (ocons (ix (eSol false) hv2) (ocons (shSl (L := v3) ePl ePl sPl (Tspec_l8Path (Y := Y) a3 a1.pl _ hv3)) (ocons (hself (a0, v2, a2, v3) _ hv4) (ocons (ix (eSol false) hv5) (ocons (Tspec_l3Flip (Y := Y) a1.pl _ hv6) (ocons (shSl (L := v7) ePl ePl sPl (Tspec_l8Path (Y := Y) a3 v6 _ hv7)) (ocons (hself (v4.2, v5, a2, v7) _ hv8) (ocons (Tspec_l11Nodeo1o2 (Y := Y) a1.pl v4.1 v8.1 _ hv9) onil)))))))) onil (by kernel_rfl)
theorem Tspec_l11Both {Y} (n : Nat) (a0 : (Int × Bool)) (a1 : Sol) (a2 : Sol) (a3 : (List Pl)) (r : (Sol × (Int × Bool))) (h : Dspec_l11Both n a0 a1 a2 a3 = some r) : Big Try.prog H Y (.call 53 [.ptr 1000 0, .agg [bl a1.inn, i64 a1.pl.A, i64 a1.pl.B, i64 a1.pl.C, i64 a1.pl.D, .sl false 6 a1.kids.length ((eSol false).f a1.kids)], .agg [bl a2.inn, i64 a2.pl.A, i64 a2.pl.B, i64 a2.pl.C, i64 a2.pl.D, .sl false 6 a2.kids.length ((eSol false).f a2.kids)], .sl false 4 a3.length ((ePl).f a3)] (lk [(1000, ⟨true, 0, [i64 a0.1, bl a0.2]⟩)]) (.agg [bl r.1.inn, i64 r.1.pl.A, i64 r.1.pl.B, i64 r.1.pl.C, i64 r.1.pl.D, .sl true 6 r.1.kids.length ((eSol true).f r.1.kids)]) (lk [(1000, ⟨true, 0, [i64 r.2.1, bl r.2.2]⟩)])) := Tspec_l11Both_b n n (a0, a1, a2, a3) r h ()
/-! spec.Put -/
def Dspec_Put_0 (_n : Nat) (_b6_0 : Bool) (_b6_1 _b6_2 _b6_3 _b6_4 : Int) : Option (Sol × Bool) :=
  (Dspec_Leaf false).bind fun v1 => some (v1, false)
theorem Tspec_Put_0 {Y} (n : Nat) (b6_0 : Bool) (b6_1 b6_2 b6_3 b6_4 : Int) (r : (Sol × Bool)) (h : Dspec_Put_0 n b6_0 b6_1 b6_2 b6_3 b6_4 = some r) : Wk Try.prog H Y 22 [.code (cp [1, 0, 1, 0, 0] (bodyOf Try.f22)), .code (cp [1, 0, 1, 0, 1] (bodyOf Try.f22)), .code (cp [1, 1] (bodyOf Try.f22))] (FinX Try.prog Try.f22 [] (.tup [.agg [bl r.1.inn, i64 r.1.pl.A, i64 r.1.pl.B, i64 r.1.pl.C, i64 r.1.pl.D, .sl true 6 r.1.kids.length ((eSol true).f r.1.kids)], bl r.2]) []) ⟨[(6, .ptr 6 0)], [(6, ⟨true, 0, [bl b6_0, i64 b6_1, i64 b6_2, i64 b6_3, i64 b6_4, .nil]⟩)]⟩ := by
  unfold Dspec_Put_0 at h
  obtain ⟨v1, hv1, h⟩ := bind_some h
  replace h := Option.some.inj h; subst h
  exact x_end 5 [(0, .call [] [] (.agg [bl v1.inn, i64 v1.pl.A, i64 v1.pl.B, i64 v1.pl.C, i64 v1.pl.D, .sl true 6 v1.kids.length ((eSol true).f v1.kids)]) [])] [] (ocons (Tspec_Leaf (Y := Y) false _ hv1) onil) onil (by kernel_rfl)
def Dspec_Put_2 (_n : Nat) (_b6_0 : Bool) (_b6_1 _b6_2 _b6_3 _b6_4 : Int) : Option (Sol × Bool) :=
  (Dspec_Leaf false).bind fun v6 => some (v6, false)
theorem Tspec_Put_2 {Y} (n : Nat) (b6_0 : Bool) (b6_1 b6_2 b6_3 b6_4 : Int) (r : (Sol × Bool)) (h : Dspec_Put_2 n b6_0 b6_1 b6_2 b6_3 b6_4 = some r) : Wk Try.prog H Y 22 [.code (cp [1, 1, 1, 1, 0, 1, 0, 0] (bodyOf Try.f22)), .code (cp [1, 1, 1, 1, 0, 1, 0, 1] (bodyOf Try.f22)), .code (cp [1, 1, 1, 1, 1] (bodyOf Try.f22))] (FinX Try.prog Try.f22 [] (.tup [.agg [bl r.1.inn, i64 r.1.pl.A, i64 r.1.pl.B, i64 r.1.pl.C, i64 r.1.pl.D, .sl true 6 r.1.kids.length ((eSol true).f r.1.kids)], bl r.2]) []) ⟨[(6, .ptr 6 0)], [(6, ⟨true, 0, [bl b6_0, i64 b6_1, i64 b6_2, i64 b6_3, i64 b6_4, .nil]⟩)]⟩ := by
  unfold Dspec_Put_2 at h
  obtain ⟨v6, hv6, h⟩ := bind_some h
  replace h := Option.some.inj h; subst h
  exact x_end 5 [(0, .call [] [] (.agg [bl v6.inn, i64 v6.pl.A, i64 v6.pl.B, i64 v6.pl.C, i64 v6.pl.D, .sl true 6 v6.kids.length ((eSol true).f v6.kids)]) [])] [] (ocons (Tspec_Leaf (Y := Y) false _ hv6) onil) onil (by kernel_rfl)
def Dspec_Put_3 (_n : Nat) (t40 _b6_0 : Bool) (_b6_1 _b6_2 _b6_3 _b6_4 : Int) (b9_0 : Bool) (b9_1 b9_2 b9_3 b9_4 : Int) (b9_5 : List Sol) : Option (Sol × Bool) :=
  frk t40 ((Dspec_Leaf false).bind fun v8 => some (v8, false)) (some ((Sol.mk b9_0 (Pl.mk b9_1 b9_2 b9_3 b9_4) b9_5), true))
theorem Tspec_Put_3 {Y} (n : Nat) (t40 b6_0 : Bool) (b6_1 b6_2 b6_3 b6_4 : Int) (b9_0 : Bool) (b9_1 b9_2 b9_3 b9_4 : Int) (b9_5 : List Sol) (r : (Sol × Bool)) (h : Dspec_Put_3 n t40 b6_0 b6_1 b6_2 b6_3 b6_4 b9_0 b9_1 b9_2 b9_3 b9_4 b9_5 = some r) : Wk Try.prog H Y 22 [.code (cp [1, 1, 1, 1, 0, 1] (bodyOf Try.f22)), .code (cp [1, 1, 1, 1, 1] (bodyOf Try.f22))] (FinX Try.prog Try.f22 [] (.tup [.agg [bl r.1.inn, i64 r.1.pl.A, i64 r.1.pl.B, i64 r.1.pl.C, i64 r.1.pl.D, .sl true 6 r.1.kids.length ((eSol true).f r.1.kids)], bl r.2]) []) ⟨[(6, .ptr 6 0), (9, .ptr 9 0), (40, bl t40)], [(6, ⟨true, 0, [bl b6_0, i64 b6_1, i64 b6_2, i64 b6_3, i64 b6_4, .nil]⟩), (9, ⟨true, 0, [bl b9_0, i64 b9_1, i64 b9_2, i64 b9_3, i64 b9_4, .sl true 6 b9_5.length ((eSol true).f b9_5)]⟩)]⟩ := by
  unfold Dspec_Put_3 at h
  refine x_frk 0 [] onil h (by kernel_rfl) (fun h => ?_) (fun h => ?_)
  · obtain ⟨v8, hv8, h⟩ := bind_some h
    replace h := Option.some.inj h; subst h
    exact x_end 6 [(0, .call [] [] (.agg [bl v8.inn, i64 v8.pl.A, i64 v8.pl.B, i64 v8.pl.C, i64 v8.pl.D, .sl true 6 v8.kids.length ((eSol true).f v8.kids)]) [])] [] (ocons (Tspec_Leaf (Y := Y) false _ hv8) onil) onil (by kernel_rfl)
  · replace h := Option.some.inj h; subst h
    exact x_end 7 [] [] onil onil (by kernel_rfl)
def Dspec_Put_1 (n : Nat) (t2 : Int) (t22 b3_0 : Bool) (b3_1 b3_2 b3_3 b3_4 : Int) (b3_5 : List Sol) (b4_0 : Bool) (b4_1 b4_2 b4_3 b4_4 : Int) (b4_5 : List Sol) (b6_0 : Bool) (b6_1 b6_2 b6_3 b6_4 : Int) : Option (Sol × Bool) :=
  frk t22 ((Dspec_Leaf false).bind fun v4 => some (v4, false)) ((Dspec_l11Both n (t2, false) (Sol.mk b3_0 (Pl.mk b3_1 b3_2 b3_3 b3_4) b3_5) (Sol.mk b4_0 (Pl.mk b4_1 b4_2 b4_3 b4_4) b4_5) []).bind fun v5 => frk v5.2.2 (Dspec_Put_2 n b6_0 b6_1 b6_2 b6_3 b6_4) ((Dspec_l8Count n v5.1 301).bind fun v7 => Dspec_Put_3 n (decide (v7 > 300)) b6_0 b6_1 b6_2 b6_3 b6_4 v5.1.inn v5.1.pl.A v5.1.pl.B v5.1.pl.C v5.1.pl.D v5.1.kids))
theorem Tspec_Put_1 {Y} (n : Nat) (t2 : Int) (t22 b3_0 : Bool) (b3_1 b3_2 b3_3 b3_4 : Int) (b3_5 : List Sol) (b4_0 : Bool) (b4_1 b4_2 b4_3 b4_4 : Int) (b4_5 : List Sol) (b6_0 : Bool) (b6_1 b6_2 b6_3 b6_4 : Int) (r : (Sol × Bool)) (h : Dspec_Put_1 n t2 t22 b3_0 b3_1 b3_2 b3_3 b3_4 b3_5 b4_0 b4_1 b4_2 b4_3 b4_4 b4_5 b6_0 b6_1 b6_2 b6_3 b6_4 = some r) : Wk Try.prog H Y 22 [.code (cp [1, 0, 1] (bodyOf Try.f22)), .code (cp [1, 1] (bodyOf Try.f22))] (FinX Try.prog Try.f22 [] (.tup [.agg [bl r.1.inn, i64 r.1.pl.A, i64 r.1.pl.B, i64 r.1.pl.C, i64 r.1.pl.D, .sl true 6 r.1.kids.length ((eSol true).f r.1.kids)], bl r.2]) []) ⟨[(2, i64 t2), (3, .ptr 3 0), (4, .ptr 4 0), (6, .ptr 6 0), (22, bl t22)], [(3, ⟨true, 0, [bl b3_0, i64 b3_1, i64 b3_2, i64 b3_3, i64 b3_4, .sl false 6 b3_5.length ((eSol false).f b3_5)]⟩), (4, ⟨true, 0, [bl b4_0, i64 b4_1, i64 b4_2, i64 b4_3, i64 b4_4, .sl false 6 b4_5.length ((eSol false).f b4_5)]⟩), (6, ⟨true, 0, [bl b6_0, i64 b6_1, i64 b6_2, i64 b6_3, i64 b6_4, .nil]⟩)]⟩ := by
  unfold Dspec_Put_1 at h
  refine x_frk 0 [] onil h (by kernel_rfl) (fun h => ?_) (fun h => ?_)
  · obtain ⟨v4, hv4, h⟩ := bind_some h
    replace h := Option.some.inj h; subst h
    exact x_end 6 [(0, .call [] [] (.agg [bl v4.inn, i64 v4.pl.A, i64 v4.pl.B, i64 v4.pl.C, i64 v4.pl.D, .sl true 6 v4.kids.length ((eSol true).f v4.kids)]) [])] [] (ocons (Tspec_Leaf (Y := Y) false _ hv4) onil) onil (by kernel_rfl)
  · obtain ⟨v5, hv5, h⟩ := bind_some h
    refine x_frk 26 [(8, .call [] [(ePl).f []] (.agg [bl v5.1.inn, i64 v5.1.pl.A, i64 v5.1.pl.B, i64 v5.1.pl.C, i64 v5.1.pl.D, .sl true 6 v5.1.kids.length ((eSol true).f v5.1.kids)]) [(1000, ⟨true, 0, [i64 v5.2.1, bl v5.2.2]⟩)])] (ocons (Tspec_l11Both (Y := Y) n (t2, false) (Sol.mk b3_0 (Pl.mk b3_1 b3_2 b3_3 b3_4) b3_5) (Sol.mk b4_0 (Pl.mk b4_1 b4_2 b4_3 b4_4) b4_5) [] _ hv5) (ocons (len_row (L := []) ePl) (ocons (Enc.share ePl ePl sPl []) (ocons (show hasSh (.agg [bl v5.1.inn, i64 v5.1.pl.A, i64 v5.1.pl.B, i64 v5.1.pl.C, i64 v5.1.pl.D, .sl true 6 v5.1.kids.length ((eSol true).f v5.1.kids)]) = false by simp [hasSh, hasShL, nSh, nShI, nShB, nShP, nShT, nShN, nShPs]) onil)))) h (by kernel_rfl) (fun h => ?_) (fun h => ?_)
    · exact x_to 7 [] onil (Tspec_Put_2 n b6_0 b6_1 b6_2 b6_3 b6_4 r h) (by kernel_rfl)
    · obtain ⟨v7, hv7, h⟩ := bind_some h
      exact x_to 5 [(0, .rows [(eSol false).f v5.1.kids]), (0, .call [] [] (i64 v7) [])] (ocons (Enc.share (eSol true) (eSol false) (sSol true) v5.1.kids) (ocons (Tspec_l8Count (Y := Y) n v5.1 301 _ hv7) onil)) (Tspec_Put_3 n (decide (v7 > 300)) b6_0 b6_1 b6_2 b6_3 b6_4 v5.1.inn v5.1.pl.A v5.1.pl.B v5.1.pl.C v5.1.pl.D v5.1.kids r h) (by kernel_rfl)
def Dspec_Put (n : Nat) (a0 : Sol) (a1 : Sol) (a2 : Int) : Option (Sol × Bool) :=
  (Dspec_SolidOk n a0).bind fun v0 => frk (!v0) (Dspec_Put_0 n false 0 0 0 0) ((Dspec_SolidOk n a1).bind fun v2 => frk (!v2) (Dspec_Put_0 n false 0 0 0 0) ((Dspec_l1In a2 1 4).bind fun v3 => Dspec_Put_1 n a2 (!v3) a0.inn a0.pl.A a0.pl.B a0.pl.C a0.pl.D a0.kids a1.inn a1.pl.A a1.pl.B a1.pl.C a1.pl.D a1.kids false 0 0 0 0))
theorem Tspec_Put {Y} (n : Nat) (a0 : Sol) (a1 : Sol) (a2 : Int) (r : (Sol × Bool)) (h : Dspec_Put n a0 a1 a2 = some r) : Big Try.prog H Y (.call 22 [.agg [bl a0.inn, i64 a0.pl.A, i64 a0.pl.B, i64 a0.pl.C, i64 a0.pl.D, .sl false 6 a0.kids.length ((eSol false).f a0.kids)], .agg [bl a1.inn, i64 a1.pl.A, i64 a1.pl.B, i64 a1.pl.C, i64 a1.pl.D, .sl false 6 a1.kids.length ((eSol false).f a1.kids)], i64 a2] (lk []) (.tup [.agg [bl r.1.inn, i64 r.1.pl.A, i64 r.1.pl.B, i64 r.1.pl.C, i64 r.1.pl.D, .sl true 6 r.1.kids.length ((eSol true).f r.1.kids)], bl r.2]) (lk [])) := by
  unfold Dspec_Put at h
  refine x_call (fn := Try.f22) (c := bodyOf Try.f22) (bs0 := []) Try.func22 (by kernel_rfl) (by kernel_rfl) ?_
  obtain ⟨v0, hv0, h⟩ := bind_some h
  refine x_frk 14 [(5, .call [] [] (bl v0) [])] (ocons (Tspec_SolidOk (Y := Y) n a0 _ hv0) onil) h (by kernel_rfl) (fun h => ?_) (fun h => ?_)
  · exact x_to 12 [] onil (Tspec_Put_0 n false 0 0 0 0 r h) (by kernel_rfl)
  · obtain ⟨v2, hv2, h⟩ := bind_some h
    refine x_frk 5 [(1, .call [] [] (bl v2) [])] (ocons (Tspec_SolidOk (Y := Y) n a1 _ hv2) onil) h (by kernel_rfl) (fun h => ?_) (fun h => ?_)
    · exact x_to 7 [] onil (Tspec_Put_0 n false 0 0 0 0 r h) (by kernel_rfl)
    · obtain ⟨v3, hv3, h⟩ := bind_some h
      exact x_to 5 [(1, .call [] [] (bl v3) [])] (ocons (Tspec_l1In (Y := Y) a2 1 4 _ hv3) onil) (Tspec_Put_1 n a2 (!v3) a0.inn a0.pl.A a0.pl.B a0.pl.C a0.pl.D a0.kids a1.inn a1.pl.A a1.pl.B a1.pl.C a1.pl.D a1.kids false 0 0 0 0 r h) (by kernel_rfl)
/-! spec.SameTree -/
def Dspec_SameTree_1 (_n : Nat) (self1 : (Sol × Sol) → Option Bool) (_b2_0 : Bool) (_b2_1 _b2_2 _b2_3 _b2_4 : Int) (b2_5 : List Sol) (_b3_0 : Bool) (_b3_1 _b3_2 _b3_3 _b3_4 : Int) (b3_5 : List Sol) (rec0 : Int → Option Bool) (a : Int) : Option Bool :=
  match a with
  | t5 => frk (decide (t5 < (b2_5.length : Int))) ((lget b2_5 t5).bind fun v0 => (lget b3_5 t5).bind fun v1 => (self1 (v0, v1)).bind fun v2 => frk (!v2) (some false) (rec0 (w64 (t5 + 1)))) (some true)
theorem Tspec_SameTree_1 {Y} (n : Nat) (self1 : (Sol × Sol) → Option Bool) (hself1 : ∀ (a : (Sol × Sol)) (r : Bool), self1 a = some r → Big Try.prog H Y (.call 54 [.agg [bl a.1.inn, i64 a.1.pl.A, i64 a.1.pl.B, i64 a.1.pl.C, i64 a.1.pl.D, .sl false 6 a.1.kids.length ((eSol false).f a.1.kids)], .agg [bl a.2.inn, i64 a.2.pl.A, i64 a.2.pl.B, i64 a.2.pl.C, i64 a.2.pl.D, .sl false 6 a.2.kids.length ((eSol false).f a.2.kids)]] (lk []) (bl r) (lk []))) (b2_0 : Bool) (b2_1 b2_2 b2_3 b2_4 : Int) (b2_5 : List Sol) (b3_0 : Bool) (b3_1 b3_2 b3_3 b3_4 : Int) (b3_5 : List Sol) : ∀ (m : Nat) (a : Int) (r : Bool), loopN (Dspec_SameTree_1 n self1 b2_0 b2_1 b2_2 b2_3 b2_4 b2_5 b3_0 b3_1 b3_2 b3_3 b3_4 b3_5) m a = some r → Wk Try.prog H Y 54 [.code (cp [1, 1, 0, 1, 0] (bodyOf Try.f54)), .blk 0, .code (cp [1, 1, 1] (bodyOf Try.f54))] (FinX Try.prog Try.f54 [] (bl r) []) ⟨[(2, .ptr 2 0), (3, .ptr 3 0), (5, i64 a)], [(2, ⟨true, 0, [bl b2_0, i64 b2_1, i64 b2_2, i64 b2_3, i64 b2_4, .sl false 6 b2_5.length ((eSol false).f b2_5)]⟩), (3, ⟨true, 0, [bl b3_0, i64 b3_1, i64 b3_2, i64 b3_3, i64 b3_4, .sl false 6 b3_5.length ((eSol false).f b3_5)]⟩)]⟩ := by
  refine loopN_ind (fun _rec0 hrec0 a r h => ?_)
  obtain ⟨t5, rfl⟩ : ∃ x, x = a := ⟨a, rfl⟩
  unfold Dspec_SameTree_1 at h
  refine x_frk 10 [] onil h (by kernel_rfl) (fun h => ?_) (fun h => ?_)
  · obtain ⟨v0, hv0, h⟩ := bind_some h
    obtain ⟨v1, hv1, h⟩ := bind_some h
    obtain ⟨v2, hv2, h⟩ := bind_some h
    refine x_frk 18 [(3, .val (.cptr ((eSol false).c v0 ++ (eSol false).f ((b2_5).drop (Int.toNat t5 + 1))))), (4, .val (.cptr ((eSol false).c v1 ++ (eSol false).f ((b3_5).drop (Int.toNat t5 + 1))))), (1, .call [] [] (bl v2) [])] (ocons (ix (eSol false) hv0) (ocons (ix (eSol false) hv1) (ocons (hself1 (v0, v1) _ hv2) onil))) h (by kernel_rfl) (fun h => ?_) (fun h => ?_)
    · replace h := Option.some.inj h; subst h
      exact x_end 4 [] [] onil onil (by kernel_rfl)
    · exact x_to 8 [] onil (hrec0 (w64 (t5 + 1)) r h) (by kernel_rfl)
  · replace h := Option.some.inj h; subst h
    exact x_end 5 [] [] onil onil (by kernel_rfl)
def Dspec_SameTree_0 (n : Nat) (self1 : (Sol × Sol) → Option Bool) (t26 b2_0 : Bool) (b2_1 b2_2 b2_3 b2_4 : Int) (b2_5 : List Sol) (b3_0 : Bool) (b3_1 b3_2 b3_3 b3_4 : Int) (b3_5 : List Sol) : Option Bool :=
  frk t26 (some false) (loopN (Dspec_SameTree_1 n self1 b2_0 b2_1 b2_2 b2_3 b2_4 b2_5 b3_0 b3_1 b3_2 b3_3 b3_4 b3_5) n 0)
theorem Tspec_SameTree_0 {Y} (n : Nat) (self1 : (Sol × Sol) → Option Bool) (hself1 : ∀ (a : (Sol × Sol)) (r : Bool), self1 a = some r → Big Try.prog H Y (.call 54 [.agg [bl a.1.inn, i64 a.1.pl.A, i64 a.1.pl.B, i64 a.1.pl.C, i64 a.1.pl.D, .sl false 6 a.1.kids.length ((eSol false).f a.1.kids)], .agg [bl a.2.inn, i64 a.2.pl.A, i64 a.2.pl.B, i64 a.2.pl.C, i64 a.2.pl.D, .sl false 6 a.2.kids.length ((eSol false).f a.2.kids)]] (lk []) (bl r) (lk []))) (t26 b2_0 : Bool) (b2_1 b2_2 b2_3 b2_4 : Int) (b2_5 : List Sol) (b3_0 : Bool) (b3_1 b3_2 b3_3 b3_4 : Int) (b3_5 : List Sol) (r : Bool) (h : Dspec_SameTree_0 n self1 t26 b2_0 b2_1 b2_2 b2_3 b2_4 b2_5 b3_0 b3_1 b3_2 b3_3 b3_4 b3_5 = some r) : Wk Try.prog H Y 54 [.code (cp [1, 0, 1] (bodyOf Try.f54)), .code (cp [1, 1] (bodyOf Try.f54))] (FinX Try.prog Try.f54 [] (bl r) []) ⟨[(2, .ptr 2 0), (3, .ptr 3 0), (26, bl t26)], [(2, ⟨true, 0, [bl b2_0, i64 b2_1, i64 b2_2, i64 b2_3, i64 b2_4, .sl false 6 b2_5.length ((eSol false).f b2_5)]⟩), (3, ⟨true, 0, [bl b3_0, i64 b3_1, i64 b3_2, i64 b3_3, i64 b3_4, .sl false 6 b3_5.length ((eSol false).f b3_5)]⟩)]⟩ := by
  unfold Dspec_SameTree_0 at h
  refine x_frk 0 [] onil h (by kernel_rfl) (fun h => ?_) (fun h => ?_)
  · replace h := Option.some.inj h; subst h
    exact x_end 4 [] [] onil onil (by kernel_rfl)
  · exact x_to 7 [] onil (Tspec_SameTree_1 n self1 hself1 b2_0 b2_1 b2_2 b2_3 b2_4 b2_5 b3_0 b3_1 b3_2 b3_3 b3_4 b3_5 n 0 r h) (by kernel_rfl)
def Dspec_SameTree_b (n : Nat) (self1 : (Sol × Sol) → Option Bool) (a : (Sol × Sol)) : Option Bool :=
  match a with
  | (a0, a1) => frk (!(a0.inn == a1.inn)) (some false) (frk (!(a0.pl.A == a1.pl.A && (a0.pl.B == a1.pl.B && (a0.pl.C == a1.pl.C && (a0.pl.D == a1.pl.D && true))))) (some false) (Dspec_SameTree_0 n self1 ((a0.kids.length : Int) != (a1.kids.length : Int)) a0.inn a0.pl.A a0.pl.B a0.pl.C a0.pl.D a0.kids a1.inn a1.pl.A a1.pl.B a1.pl.C a1.pl.D a1.kids))
def Dspec_SameTree (n : Nat) (a0 : Sol) (a1 : Sol) : Option Bool := loopN (Dspec_SameTree_b n) n (a0, a1)
theorem Tspec_SameTree_b {Y} (n : Nat) : ∀ (m : Nat) (a : (Sol × Sol)) (r : Bool), loopN (Dspec_SameTree_b n) m a = some r → ∀ (_ : Unit), Big Try.prog H Y (.call 54 [.agg [bl a.1.inn, i64 a.1.pl.A, i64 a.1.pl.B, i64 a.1.pl.C, i64 a.1.pl.D, .sl false 6 a.1.kids.length ((eSol false).f a.1.kids)], .agg [bl a.2.inn, i64 a.2.pl.A, i64 a.2.pl.B, i64 a.2.pl.C, i64 a.2.pl.D, .sl false 6 a.2.kids.length ((eSol false).f a.2.kids)]] (lk []) (bl r) (lk [])) := by
  refine loopN_ind (fun self1 hs a r h => ?_)
  have hself1 : ∀ (a : (Sol × Sol)) (r : Bool), self1 a = some r → Big Try.prog H Y (.call 54 [.agg [bl a.1.inn, i64 a.1.pl.A, i64 a.1.pl.B, i64 a.1.pl.C, i64 a.1.pl.D, .sl false 6 a.1.kids.length ((eSol false).f a.1.kids)], .agg [bl a.2.inn, i64 a.2.pl.A, i64 a.2.pl.B, i64 a.2.pl.C, i64 a.2.pl.D, .sl false 6 a.2.kids.length ((eSol false).f a.2.kids)]] (lk []) (bl r) (lk [])) := fun a r h => hs a r h ()
  intro _
  obtain ⟨a0, a1⟩ := a
  unfold Dspec_SameTree_b at h
  refine x_call (fn := Try.f54) (c := bodyOf Try.f54) (bs0 := []) Try.func54 (by kernel_rfl) (by kernel_rfl) ?_
  refine x_frk 15 [] onil h (by kernel_rfl) (fun h => ?_) (fun h => ?_)
  · replace h := Option.some.inj h; subst h
    exact x_end 21 [] [] onil onil (by kernel_rfl)
  · refine x_frk 7 [] onil h (by kernel_rfl) (fun h => ?_) (fun h => ?_)
    · replace h := Option.some.inj h; subst h
      exact x_end 14 [] [] onil onil (by kernel_rfl)
    · exact x_to 9 [] onil (Tspec_SameTree_0 n self1 hself1 ((a0.kids.length : Int) != (a1.kids.length : Int)) a0.inn a0.pl.A a0.pl.B a0.pl.C a0.pl.D a0.kids a1.inn a1.pl.A a1.pl.B a1.pl.C a1.pl.D a1.kids r h) (by kernel_rfl)
theorem Tspec_SameTree {Y} (n : Nat) (a0 : Sol) (a1 : Sol) (r : Bool) (h : Dspec_SameTree n a0 a1 = some r) : Big Try.prog H Y (.call 54 [.agg [bl a0.inn, i64 a0.pl.A, i64 a0.pl.B, i64 a0.pl.C, i64 a0.pl.D, .sl false 6 a0.kids.length ((eSol false).f a0.kids)], .agg [bl a1.inn, i64 a1.pl.A, i64 a1.pl.B, i64 a1.pl.C, i64 a1.pl.D, .sl false 6 a1.kids.length ((eSol false).f a1.kids)]] (lk []) (bl r) (lk [])) := Tspec_SameTree_b n n (a0, a1) r h ()
/-! spec.l12Tidy -/
def Dspec_l12Tidy_b (n : Nat) (self : Sol → Option Sol) (a : Sol) : Option Sol :=
  match a with
  | a0 => (Dspec_l8Leaf a0).bind fun v0 => frk v0 ((Dspec_Leaf a0.inn).bind fun v1 => some v1) ((lget a0.kids 0).bind fun v2 => (self v2).bind fun v3 => (lget a0.kids 1).bind fun v4 => (self v4).bind fun v5 => (Dspec_SameTree n v3 v5).bind fun v6 => frk v6 (some v3) ((Dspec_l8Nodeo1o2 a0.pl v3 v5).bind fun v7 => some v7))
def Dspec_l12Tidy (n : Nat) (a0 : Sol) : Option Sol := loopN (Dspec_l12Tidy_b n) n a0
theorem Tspec_l12Tidy_b {Y} (n : Nat) : ∀ (m : Nat) (a : Sol) (r : Sol), loopN (Dspec_l12Tidy_b n) m a = some r → ∀ (_ : Unit), Big Try.prog H Y (.call 23 [.agg [bl a.inn, i64 a.pl.A, i64 a.pl.B, i64 a.pl.C, i64 a.pl.D, .sl false 6 a.kids.length ((eSol false).f a.kids)]] (lk []) (.agg [bl r.inn, i64 r.pl.A, i64 r.pl.B, i64 r.pl.C, i64 r.pl.D, .sl true 6 r.kids.length ((eSol true).f r.kids)]) (lk [])) := by
  refine loopN_ind (fun self hs a r h => ?_)
  have hself : ∀ (a : Sol) (r : Sol), self a = some r → Big Try.prog H Y (.call 23 [.agg [bl a.inn, i64 a.pl.A, i64 a.pl.B, i64 a.pl.C, i64 a.pl.D, .sl false 6 a.kids.length ((eSol false).f a.kids)]] (lk []) (.agg [bl r.inn, i64 r.pl.A, i64 r.pl.B, i64 r.pl.C, i64 r.pl.D, .sl true 6 r.kids.length ((eSol true).f r.kids)]) (lk [])) := fun a r h => hs a r h ()
  intro _
  obtain ⟨a0, rfl⟩ : ∃ x, x = a := ⟨a, rfl⟩
  unfold Dspec_l12Tidy_b at h
  refine x_call (fn := Try.f23) (c := bodyOf Try.f23) (bs0 := []) Try.func23 (by kernel_rfl) (by kernel_rfl) ?_
  obtain ⟨v0, hv0, h⟩ := bind_some h
  refine x_frk 11 [(3, .call [] [] (bl v0) [])] (ocons (Tspec_l8Leaf (Y := Y) a0 _ hv0) onil) h (by kernel_rfl) (fun h => ?_) (fun h => ?_)
  · obtain ⟨v1, hv1, h⟩ := bind_some h
    replace h := Option.some.inj h; subst h
    exact x_end 7 [(2, .call [] [] (.agg [bl v1.inn, i64 v1.pl.A, i64 v1.pl.B, i64 v1.pl.C, i64 v1.pl.D, .sl true 6 v1.kids.length ((eSol true).f v1.kids)]) [])] [] (ocons (Tspec_Leaf (Y := Y) a0.inn _ hv1) onil) onil (by kernel_rfl)
  · obtain ⟨v2, hv2, h⟩ := bind_some h
    obtain ⟨v3, hv3, h⟩ := bind_some h
    obtain ⟨v4, hv4, h⟩ := bind_some h
    obtain ⟨v5, hv5, h⟩ := bind_some h
    obtain ⟨v6, hv6, h⟩ := bind_some h
    refine x_frk 28 [(2, .val (.cptr ((eSol false).c v2 ++ (eSol false).f ((a0.kids).drop (Int.toNat 0 + 1))))), (1, .call [] [] (.agg [bl v3.inn, i64 v3.pl.A, i64 v3.pl.B, i64 v3.pl.C, i64 v3.pl.D, .sl true 6 v3.kids.length ((eSol true).f v3.kids)]) []), (4, .val (.cptr ((eSol false).c v4 ++ (eSol false).f ((a0.kids).drop (Int.toNat 1 + 1))))), (1, .call [] [] (.agg [bl v5.inn, i64 v5.pl.A, i64 v5.pl.B, i64 v5.pl.C, i64 v5.pl.D, .sl true 6 v5.kids.length ((eSol true).f v5.kids)]) []), (2, .rows [(eSol false).f v3.kids]), (0, .rows [(eSol false).f v5.kids]), (0, .call [] [] (bl v6) [])] (ocons (ix (eSol false) hv2) (ocons (hself v2 _ hv3) (ocons (ix (eSol false) hv4) (ocons (hself v4 _ hv5) (ocons (Enc.share (eSol true) (eSol false) (sSol true) v3.kids) (ocons (Enc.share (eSol true) (eSol false) (sSol true) v5.kids) (ocons (Tspec_SameTree (Y := Y) n v3 v5 _ hv6) onil))))))) h (by kernel_rfl) (fun h => ?_) (fun h => ?_)
    · replace h := Option.some.inj h; subst h
      exact x_end 5 [] [] onil onil (by kernel_rfl)
    · obtain ⟨v7, hv7, h⟩ := bind_some h
      replace h := Option.some.inj h; subst h
      exact x_end 10 [(4, .call [] [] (.agg [bl v7.inn, i64 v7.pl.A, i64 v7.pl.B, i64 v7.pl.C, i64 v7.pl.D, .sl true 6 v7.kids.length ((eSol true).f v7.kids)]) [])] [] (ocons (Tspec_l8Nodeo1o2 (Y := Y) a0.pl v3 v5 _ hv7) onil) onil (by kernel_rfl)
theorem Tspec_l12Tidy {Y} (n : Nat) (a0 : Sol) (r : Sol) (h : Dspec_l12Tidy n a0 = some r) : Big Try.prog H Y (.call 23 [.agg [bl a0.inn, i64 a0.pl.A, i64 a0.pl.B, i64 a0.pl.C, i64 a0.pl.D, .sl false 6 a0.kids.length ((eSol false).f a0.kids)]] (lk []) (.agg [bl r.inn, i64 r.pl.A, i64 r.pl.B, i64 r.pl.C, i64 r.pl.D, .sl true 6 r.kids.length ((eSol true).f r.kids)]) (lk [])) := Tspec_l12Tidy_b n n a0 r h ()
/-! spec.Again -/
def Dspec_Again_0 (n : Nat) (_b2_0 : Bool) (_b2_1 _b2_2 _b2_3 _b2_4 : Int) (l18 : List (List Pl)) (rec0 : (Int × Bool × Int × Int × Int × Int × List Sol) → Option (Sol × Bool)) (a : (Int × Bool × Int × Int × Int × Int × List Sol)) : Option (Sol × Bool) :=
  match a with
  | (t6, b4_0, b4_1, b4_2, b4_3, b4_4, b4_5) => frk (decide (t6 < (l18.length : Int))) ((lget l18 t6).bind fun v3 => (Dspec_Convex n v3).bind fun v4 => (Dspec_Put n (Sol.mk b4_0 (Pl.mk b4_1 b4_2 b4_3 b4_4) b4_5) v4.1 2).bind fun v5 => frk (!v5.2) ((Dspec_Leaf false).bind fun v6 => some (v6, false)) ((Dspec_l12Tidy n v5.1).bind fun v7 => rec0 (w64 (t6 + 1), v7.inn, v7.pl.A, v7.pl.B, v7.pl.C, v7.pl.D, v7.kids))) (some ((Sol.mk b4_0 (Pl.mk b4_1 b4_2 b4_3 b4_4) b4_5), true))
theorem Tspec_Again_0 {Y} (n : Nat) (b2_0 : Bool) (b2_1 b2_2 b2_3 b2_4 : Int) (l18 : List (List Pl)) : ∀ (m : Nat) (a : (Int × Bool × Int × Int × Int × Int × List Sol)) (r : (Sol × Bool)), loopN (Dspec_Again_0 n b2_0 b2_1 b2_2 b2_3 b2_4 l18) m a = some r → Wk Try.prog H Y 6 [.code (cp [1, 1, 1, 1, 0, 1, 0] (bodyOf Try.f6)), .blk 0, .code (cp [1, 1, 1, 1, 1] (bodyOf Try.f6))] (FinX Try.prog Try.f6 [] (.tup [.agg [bl r.1.inn, i64 r.1.pl.A, i64 r.1.pl.B, i64 r.1.pl.C, i64 r.1.pl.D, .sl true 6 r.1.kids.length ((eSol true).f r.1.kids)], bl r.2]) []) ⟨[(2, .ptr 2 0), (4, .ptr 4 0), (5, .msl 18 l18.length), (6, i64 a.1)], [(2, ⟨true, 0, [bl b2_0, i64 b2_1, i64 b2_2, i64 b2_3, i64 b2_4, .nil]⟩), (4, ⟨true, 0, [bl a.2.1, i64 a.2.2.1, i64 a.2.2.2.1, i64 a.2.2.2.2.1, i64 a.2.2.2.2.2.1, .sl true 6 a.2.2.2.2.2.2.length ((eSol true).f a.2.2.2.2.2.2)]⟩), (18, ⟨false, 1, (ePls true).f l18⟩)]⟩ := by
  refine loopN_ind (fun _rec0 hrec0 a r h => ?_)
  obtain ⟨t6, b4_0, b4_1, b4_2, b4_3, b4_4, b4_5⟩ := a
  unfold Dspec_Again_0 at h
  refine x_frk 9 [] onil h (by kernel_rfl) (fun h => ?_) (fun h => ?_)
  · obtain ⟨v3, hv3, h⟩ := bind_some h
    obtain ⟨v4, hv4, h⟩ := bind_some h
    obtain ⟨v5, hv5, h⟩ := bind_some h
    refine x_frk 36 [(2, .unit), (0, .val (.sl true 4 v3.length ((ePl).f v3))), (0, .fix 29 (.sl false 4 v3.length ((ePl).f v3))), (0, .call [] [] (.tup [.agg [bl v4.1.inn, i64 v4.1.pl.A, i64 v4.1.pl.B, i64 v4.1.pl.C, i64 v4.1.pl.D, .sl true 6 v4.1.kids.length ((eSol true).f v4.1.kids)], i64 v4.2]) []), (6, .rows [(eSol false).f b4_5]), (0, .rows [(eSol false).f v4.1.kids]), (0, .call [] [] (.tup [.agg [bl v5.1.inn, i64 v5.1.pl.A, i64 v5.1.pl.B, i64 v5.1.pl.C, i64 v5.1.pl.D, .sl true 6 v5.1.kids.length ((eSol true).f v5.1.kids)], bl v5.2]) [])] (ocons (inr hv3) (ocons (ld1 (ePls true) hv3 0 rfl) (ocons (congrArg (AV.sl false 4 v3.length) (Enc.share ePl ePl sPl v3)) (ocons (Tspec_Convex (Y := Y) n v3 _ hv4) (ocons (Enc.share (eSol true) (eSol false) (sSol true) b4_5) (ocons (Enc.share (eSol true) (eSol false) (sSol true) v4.1.kids) (ocons (Tspec_Put (Y := Y) n (Sol.mk b4_0 (Pl.mk b4_1 b4_2 b4_3 b4_4) b4_5) v4.1 2 _ hv5) onil))))))) h (by kernel_rfl) (fun h => ?_) (fun h => ?_)
    · obtain ⟨v6, hv6, h⟩ := bind_some h
      replace h := Option.some.inj h; subst h
      exact x_end 6 [(0, .call [] [] (.agg [bl v6.inn, i64 v6.pl.A, i64 v6.pl.B, i64 v6.pl.C, i64 v6.pl.D, .sl true 6 v6.kids.length ((eSol true).f v6.kids)]) [])] [] (ocons (Tspec_Leaf (Y := Y) false _ hv6) onil) onil (by kernel_rfl)
    · obtain ⟨v7, hv7, h⟩ := bind_some h
      exact x_to 13 [(0, .rows [(eSol false).f v5.1.kids]), (0, .call [] [] (.agg [bl v7.inn, i64 v7.pl.A, i64 v7.pl.B, i64 v7.pl.C, i64 v7.pl.D, .sl true 6 v7.kids.length ((eSol true).f v7.kids)]) [])] (ocons (Enc.share (eSol true) (eSol false) (sSol true) v5.1.kids) (ocons (Tspec_l12Tidy (Y := Y) n v5.1 _ hv7) onil)) (hrec0 (w64 (t6 + 1), v7.inn, v7.pl.A, v7.pl.B, v7.pl.C, v7.pl.D, v7.kids) r h) (by kernel_rfl)
  · replace h := Option.some.inj h; subst h
    exact x_end 7 [] [] onil onil (by kernel_rfl)
def Dspec_Again (n : Nat) (a0 : Sol) : Option (Sol × Bool) :=
  (Dspec_Leaf false).bind fun v0 => (Dspec_SolidOk n a0).bind fun v1 => frk (!v1) (some (v0, false)) ((Dspec_l8Cells n a0 true []).bind fun v2 => loopN (Dspec_Again_0 n false 0 0 0 0 v2) n (0, v0.inn, v0.pl.A, v0.pl.B, v0.pl.C, v0.pl.D, v0.kids))
theorem Tspec_Again {Y} (n : Nat) (a0 : Sol) (r : (Sol × Bool)) (h : Dspec_Again n a0 = some r) : Big Try.prog H Y (.call 6 [.agg [bl a0.inn, i64 a0.pl.A, i64 a0.pl.B, i64 a0.pl.C, i64 a0.pl.D, .sl false 6 a0.kids.length ((eSol false).f a0.kids)]] (lk []) (.tup [.agg [bl r.1.inn, i64 r.1.pl.A, i64 r.1.pl.B, i64 r.1.pl.C, i64 r.1.pl.D, .sl true 6 r.1.kids.length ((eSol true).f r.1.kids)], bl r.2]) (lk [])) := by
  unfold Dspec_Again at h
  refine x_call (fn := Try.f6) (c := bodyOf Try.f6) (bs0 := []) Try.func6 (by kernel_rfl) (by kernel_rfl) ?_
  obtain ⟨v0, hv0, h⟩ := bind_some h
  obtain ⟨v1, hv1, h⟩ := bind_some h
  refine x_frk 19 [(3, .call [] [] (.agg [bl v0.inn, i64 v0.pl.A, i64 v0.pl.B, i64 v0.pl.C, i64 v0.pl.D, .sl true 6 v0.kids.length ((eSol true).f v0.kids)]) []), (3, .call [] [] (bl v1) [])] (ocons (Tspec_Leaf (Y := Y) false _ hv0) (ocons (Tspec_SolidOk (Y := Y) n a0 _ hv1) onil)) h (by kernel_rfl) (fun h => ?_) (fun h => ?_)
  · replace h := Option.some.inj h; subst h
    exact x_end 6 [] [] onil onil (by kernel_rfl)
  · obtain ⟨v2, hv2, h⟩ := bind_some h
    exact x_to 14 [(2, .call [] [(ePl).f []] (.sl true 1 v2.length ((ePls true).f v2)) [])] (ocons (Tspec_l8Cells (Y := Y) n a0 true [] _ hv2) (ocons (len_row (L := []) ePl) (ocons (Enc.share ePl ePl sPl []) (ocons (show hasSh (.sl true 1 v2.length ((ePls true).f v2)) = false by simp [hasSh, hasShL, nSh, nShI, nShB, nShP, nShT, nShN, nShPs]) onil)))) (Tspec_Again_0 n false 0 0 0 0 v2 n (0, v0.inn, v0.pl.A, v0.pl.B, v0.pl.C, v0.pl.D, v0.kids) r h) (by kernel_rfl)
/-! impl.Solid).isLeaf -/
def Dimpl_Solid_isLeaf (a0 : Sol) : Option Bool :=
  some ((a0.kids.length : Int) == 0)
theorem Timpl_Solid_isLeaf {Y} (a0 : Sol) (q0 : List AV) (r : Bool) (h : Dimpl_Solid_isLeaf a0 = some r) : Big Try.prog H Y (.call 57 [.cptr ([bl a0.inn, i64 a0.pl.A, i64 a0.pl.B, i64 a0.pl.C, i64 a0.pl.D, .sl false 6 a0.kids.length ((eSol false).f a0.kids)] ++ q0)] (lk []) (bl r) (lk [])) := by
  unfold Dimpl_Solid_isLeaf at h
  refine x_call (fn := Try.f57) (c := bodyOf Try.f57) (bs0 := []) Try.func57 (by kernel_rfl) (by kernel_rfl) ?_
  replace h := Option.some.inj h; subst h
  exact x_end 14 [] [] onil onil (by kernel_rfl)
/-! impl.inRange -/
def Dimpl_inRange (a0 a1 a2 : Int) : Option Bool :=
  frk (decide (a0 ≥ a1)) (some (decide (a0 ≤ a2))) (some false)
theorem Timpl_inRange {Y} (a0 a1 a2 : Int) (r : Bool) (h : Dimpl_inRange a0 a1 a2 = some r) : Big Try.prog H Y (.call 131 [i64 a0, i64 a1, i64 a2] (lk []) (bl r) (lk [])) := by
  unfold Dimpl_inRange at h
  refine x_call (fn := Try.f131) (c := bodyOf Try.f131) (bs0 := []) Try.func131 (by kernel_rfl) (by kernel_rfl) ?_
  refine x_frk 10 [] onil h (by kernel_rfl) (fun h => ?_) (fun h => ?_)
  · replace h := Option.some.inj h; subst h
    exact x_end 6 [] [] onil onil (by kernel_rfl)
  · replace h := Option.some.inj h; subst h
    exact x_end 6 [] [] onil onil (by kernel_rfl)
/-! impl.isCoef -/
def Dimpl_isCoef (a0 : Int) : Option Bool :=
  (Dimpl_inRange a0 (-500) 500).bind fun v0 => some v0
theorem Timpl_isCoef {Y} (a0 : Int) (r : Bool) (h : Dimpl_isCoef a0 = some r) : Big Try.prog H Y (.call 107 [i64 a0] (lk []) (bl r) (lk [])) := by
  unfold Dimpl_isCoef at h
  refine x_call (fn := Try.f107) (c := bodyOf Try.f107) (bs0 := []) Try.func107 (by kernel_rfl) (by kernel_rfl) ?_
  obtain ⟨v0, hv0, h⟩ := bind_some h
  replace h := Option.some.inj h; subst h
  exact x_end 10 [(2, .call [] [] (bl v0) [])] [] (ocons (Timpl_inRange (Y := Y) a0 (-500) 500 _ hv0) onil) onil (by kernel_rfl)
/-! impl.divisor -/
def Dimpl_divisor_0 (_n : Nat) (rec0 : (Int × Int) → Option Int) (_t6 : List Int) (_t7 t8 : Int) (rec1 : (Int × Int) → Option Int) (a : (Int × Int)) : Option Int :=
  match a with
  | (t3, t5) => frk (t5 != 0) ((rm .i64 t3 t5).bind fun v1 => rec1 (t5, v1)) (rec0 (t3, w64 (t8 + 1)))
theorem Timpl_divisor_0 {Y} (n : Nat) (rec0 : (Int × Int) → Option Int) (t6 : List Int) (t7 : Int) (hrec0 : ∀ (a : (Int × Int)) (r : Int), rec0 a = some r → Wk Try.prog H Y 99 [.code (cp [1, 1, 0, 1, 0] (bodyOf Try.f99)), .blk 0, .code (cp [1, 1, 1] (bodyOf Try.f99))] (FinX Try.prog Try.f99 [] (i64 r) []) ⟨[(3, i64 a.1), (6, .sl false 1 t6.length ((eInt).f t6)), (7, i64 t7), (8, i64 a.2)], []⟩) (t8 : Int) : ∀ (m : Nat) (a : (Int × Int)) (r : Int), loopN (Dimpl_divisor_0 n rec0 t6 t7 t8) m a = some r → Wk Try.prog H Y 99 [.code (cp [1, 1, 0, 1, 0, 0, 1, 1, 0, 0, 1, 1, 0] (bodyOf Try.f99)), .blk 2, .blk 1, .code (cp [1, 1, 0, 1, 0, 0, 1, 1, 1] (bodyOf Try.f99)), .lp (cp [1, 1, 0, 1, 0] (bodyOf Try.f99)), .blk 0, .code (cp [1, 1, 1] (bodyOf Try.f99))] (FinX Try.prog Try.f99 [] (i64 r) []) ⟨[(3, i64 a.1), (5, i64 a.2), (6, .sl false 1 t6.length ((eInt).f t6)), (7, i64 t7), (8, i64 t8)], []⟩ := by
  refine loopN_ind (fun _rec1 hrec1 a r h => ?_)
  obtain ⟨t3, t5⟩ := a
  unfold Dimpl_divisor_0 at h
  refine x_frk 7 [] onil h (by kernel_rfl) (fun h => ?_) (fun h => ?_)
  · obtain ⟨v1, hv1, h⟩ := bind_some h
    exact x_to 12 [(3, .val (i64 v1))] (ocons (rmOk hv1) onil) (hrec1 (t5, v1) r h) (by kernel_rfl)
  · exact x_to 7 [] onil (hrec0 (t3, w64 (t8 + 1)) r h) (by kernel_rfl)
def Dimpl_divisor_1 (n : Nat) (t6 : List Int) (t7 : Int) (rec0 : (Int × Int) → Option Int) (a : (Int × Int)) : Option Int :=
  match a with
  | (t3, t8) => frk (decide (t8 < t7)) ((lget t6 t8).bind fun v0 => loopN (Dimpl_divisor_0 n rec0 t6 t7 t8) n (t3, maxN v0 [w64 (0 - v0)])) (some t3)
theorem Timpl_divisor_1 {Y} (n : Nat) (t6 : List Int) (t7 : Int) : ∀ (m : Nat) (a : (Int × Int)) (r : Int), loopN (Dimpl_divisor_1 n t6 t7) m a = some r → Wk Try.prog H Y 99 [.code (cp [1, 1, 0, 1, 0] (bodyOf Try.f99)), .blk 0, .code (cp [1, 1, 1] (bodyOf Try.f99))] (FinX Try.prog Try.f99 [] (i64 r) []) ⟨[(3, i64 a.1), (6, .sl false 1 t6.length ((eInt).f t6)), (7, i64 t7), (8, i64 a.2)], []⟩ := by
  refine loopN_ind (fun rec0 hrec0 a r h => ?_)
  obtain ⟨t3, t8⟩ := a
  unfold Dimpl_divisor_1 at h
  refine x_frk 6 [] onil h (by kernel_rfl) (fun h => ?_) (fun h => ?_)
  · obtain ⟨v0, hv0, h⟩ := bind_some h
    exact x_to 18 [(0, .val (.cptr (eInt.c v0 ++ (eInt).f ((t6).drop (Int.toNat t8 + 1))))), (5, .val (.lit (.int .i64 (maxN v0 [w64 (0 - v0)]))))] (ocons (ix eInt hv0) (ocons (maxNok .i64 [w64 (0 - v0)] v0) onil)) (Timpl_divisor_0 n rec0 t6 t7 hrec0 t8 n (t3, maxN v0 [w64 (0 - v0)]) r h) (by kernel_rfl)
  · replace h := Option.some.inj h; subst h
    exact x_end 6 [] [] onil onil (by kernel_rfl)
def Dimpl_divisor (n : Nat) (a0 : (List Int)) : Option Int :=
  loopN (Dimpl_divisor_1 n a0 (a0.length : Int)) n (0, 0)
theorem Timpl_divisor {Y} (n : Nat) (a0 : (List Int)) (r : Int) (h : Dimpl_divisor n a0 = some r) : Big Try.prog H Y (.call 99 [.sl false 1 a0.length ((eInt).f a0)] (lk []) (i64 r) (lk [])) := by
  unfold Dimpl_divisor at h
  refine x_call (fn := Try.f99) (c := bodyOf Try.f99) (bs0 := []) Try.func99 (by kernel_rfl) (by kernel_rfl) ?_
  exact x_to 16 [] onil (Timpl_divisor_1 n a0 (a0.length : Int) n (0, 0) r h) (by kernel_rfl)
/-! impl.PlaneOk -/
def Dimpl_PlaneOk_0 (n : Nat) (t24 : Bool) (b1_0 b1_1 b1_2 b1_3 : Int) : Option Bool :=
  frk t24 (some false) (frk (b1_0 != 0) ((Dimpl_divisor n [b1_0, b1_1, b1_2, b1_3]).bind fun v4 => some (v4 == 1)) (frk (b1_1 != 0) ((Dimpl_divisor n [b1_0, b1_1, b1_2, b1_3]).bind fun v5 => some (v5 == 1)) (frk (b1_2 != 0) ((Dimpl_divisor n [b1_0, b1_1, b1_2, b1_3]).bind fun v6 => some (v6 == 1)) (some false))))
theorem Timpl_PlaneOk_0 {Y} (n : Nat) (t24 : Bool) (b1_0 b1_1 b1_2 b1_3 : Int) (r : Bool) (h : Dimpl_PlaneOk_0 n t24 b1_0 b1_1 b1_2 b1_3 = some r) : Wk Try.prog H Y 83 [.code (cp [1, 0, 1] (bodyOf Try.f83)), .code (cp [1, 1] (bodyOf Try.f83))] (FinX Try.prog Try.f83 [] (bl r) []) ⟨[(1, .ptr 1 0), (24, bl t24)], [(1, ⟨true, 0, [i64 b1_0, i64 b1_1, i64 b1_2, i64 b1_3]⟩)]⟩ := by
  unfold Dimpl_PlaneOk_0 at h
  refine x_frk 0 [] onil h (by kernel_rfl) (fun h => ?_) (fun h => ?_)
  · replace h := Option.some.inj h; subst h
    exact x_end 4 [] [] onil onil (by kernel_rfl)
  · refine x_frk 7 [] onil h (by kernel_rfl) (fun h => ?_) (fun h => ?_)
    · obtain ⟨v4, hv4, h⟩ := bind_some h
      replace h := Option.some.inj h; subst h
      exact x_end 24 [(19, .call [] [(eInt).f [b1_0, b1_1, b1_2, b1_3]] (i64 v4) [])] [] (ocons (Timpl_divisor (Y := Y) n [b1_0, b1_1, b1_2, b1_3] _ hv4) (ocons (len_row (L := [b1_0, b1_1, b1_2, b1_3]) eInt) (ocons (Enc.share eInt eInt sInt [b1_0, b1_1, b1_2, b1_3]) onil))) onil (by kernel_rfl)
    · refine x_frk 5 [] onil h (by kernel_rfl) (fun h => ?_) (fun h => ?_)
      · obtain ⟨v5, hv5, h⟩ := bind_some h
        replace h := Option.some.inj h; subst h
        exact x_end 19 [(14, .call [] [(eInt).f [b1_0, b1_1, b1_2, b1_3]] (i64 v5) [])] [] (ocons (Timpl_divisor (Y := Y) n [b1_0, b1_1, b1_2, b1_3] _ hv5) (ocons (len_row (L := [b1_0, b1_1, b1_2, b1_3]) eInt) (ocons (Enc.share eInt eInt sInt [b1_0, b1_1, b1_2, b1_3]) onil))) onil (by kernel_rfl)
      · refine x_frk 5 [] onil h (by kernel_rfl) (fun h => ?_) (fun h => ?_)
        · obtain ⟨v6, hv6, h⟩ := bind_some h
          replace h := Option.some.inj h; subst h
          exact x_end 14 [(9, .call [] [(eInt).f [b1_0, b1_1, b1_2, b1_3]] (i64 v6) [])] [] (ocons (Timpl_divisor (Y := Y) n [b1_0, b1_1, b1_2, b1_3] _ hv6) (ocons (len_row (L := [b1_0, b1_1, b1_2, b1_3]) eInt) (ocons (Enc.share eInt eInt sInt [b1_0, b1_1, b1_2, b1_3]) onil))) onil (by kernel_rfl)
        · replace h := Option.some.inj h; subst h
          exact x_end 14 [] [] onil onil (by kernel_rfl)
def Dimpl_PlaneOk (n : Nat) (a0 : Pl) : Option Bool :=
  (Dimpl_isCoef a0.A).bind fun v0 => frk (!v0) (some false) ((Dimpl_isCoef a0.B).bind fun v1 => frk (!v1) (some false) ((Dimpl_isCoef a0.C).bind fun v2 => frk (!v2) (some false) ((Dimpl_isCoef a0.D).bind fun v3 => Dimpl_PlaneOk_0 n (!v3) a0.A a0.B a0.C a0.D)))
theorem Timpl_PlaneOk {Y} (n : Nat) (a0 : Pl) (r : Bool) (h : Dimpl_PlaneOk n a0 = some r) : Big Try.prog H Y (.call 83 [.agg [i64 a0.A, i64 a0.B, i64 a0.C, i64 a0.D]] (lk []) (bl r) (lk [])) := by
  unfold Dimpl_PlaneOk at h
  refine x_call (fn := Try.f83) (c := bodyOf Try.f83) (bs0 := []) Try.func83 (by kernel_rfl) (by kernel_rfl) ?_
  obtain ⟨v0, hv0, h⟩ := bind_some h
  refine x_frk 13 [(4, .call [] [] (bl v0) [])] (ocons (Timpl_isCoef (Y := Y) a0.A _ hv0) onil) h (by kernel_rfl) (fun h => ?_) (fun h => ?_)
  · replace h := Option.some.inj h; subst h
    exact x_end 23 [] [] onil onil (by kernel_rfl)
  · obtain ⟨v1, hv1, h⟩ := bind_some h
    refine x_frk 6 [(2, .call [] [] (bl v1) [])] (ocons (Timpl_isCoef (Y := Y) a0.B _ hv1) onil) h (by kernel_rfl) (fun h => ?_) (fun h => ?_)
    · replace h := Option.some.inj h; subst h
      exact x_end 17 [] [] onil onil (by kernel_rfl)
    · obtain ⟨v2, hv2, h⟩ := bind_some h
      refine x_frk 6 [(2, .call [] [] (bl v2) [])] (ocons (Timpl_isCoef (Y := Y) a0.C _ hv2) onil) h (by kernel_rfl) (fun h => ?_) (fun h => ?_)
      · replace h := Option.some.inj h; subst h
        exact x_end 11 [] [] onil onil (by kernel_rfl)
      · obtain ⟨v3, hv3, h⟩ := bind_some h
        exact x_to 6 [(2, .call [] [] (bl v3) [])] (ocons (Timpl_isCoef (Y := Y) a0.D _ hv3) onil) (Timpl_PlaneOk_0 n (!v3) a0.A a0.B a0.C a0.D r h) (by kernel_rfl)
/-! impl.flip -/
def Dimpl_flip (a0 : Pl) : Option Pl :=
  some (Pl.mk (w64 (0 - a0.A)) (w64 (0 - a0.B)) (w64 (0 - a0.C)) (w64 (0 - a0.D)))
theorem Timpl_flip {Y} (a0 : Pl) (r : Pl) (h : Dimpl_flip a0 = some r) : Big Try.prog H Y (.call 60 [.agg [i64 a0.A, i64 a0.B, i64 a0.C, i64 a0.D]] (lk []) (.agg [i64 r.A, i64 r.B, i64 r.C, i64 r.D]) (lk [])) := by
  unfold Dimpl_flip at h
  refine x_call (fn := Try.f60) (c := bodyOf Try.f60) (bs0 := []) Try.func60 (by kernel_rfl) (by kernel_rfl) ?_
  replace h := Option.some.inj h; subst h
  exact x_end 22 [] [] onil onil (by kernel_rfl)
/-! impl.normal -/
def Dimpl_normal (a0 : Pl) : Option (Int × Int × Int) :=
  some (a0.A, a0.B, a0.C)
theorem Timpl_normal {Y} (a0 : Pl) (r : (Int × Int × Int)) (h : Dimpl_normal a0 = some r) : Big Try.prog H Y (.call 110 [.agg [i64 a0.A, i64 a0.B, i64 a0.C, i64 a0.D]] (lk []) (.agg [i64 r.1, i64 r.2.1, i64 r.2.2]) (lk [])) := by
  unfold Dimpl_normal at h
  refine x_call (fn := Try.f110) (c := bodyOf Try.f110) (bs0 := []) Try.func110 (by kernel_rfl) (by kernel_rfl) ?_
  replace h := Option.some.inj h; subst h
  exact x_end 16 [] [] onil onil (by kernel_rfl)
/-! impl.crossOf -/
def Dimpl_crossOf (a0 : (Int × Int × Int)) (a1 : (Int × Int × Int)) : Option (Int × Int × Int) :=
  some (w64 ((w64 (a0.2.1 * a1.2.2)) - (w64 (a0.2.2 * a1.2.1))), w64 ((w64 (a0.2.2 * a1.1)) - (w64 (a0.1 * a1.2.2))), w64 ((w64 (a0.1 * a1.2.1)) - (w64 (a0.2.1 * a1.1))))
theorem Timpl_crossOf {Y} (a0 : (Int × Int × Int)) (a1 : (Int × Int × Int)) (r : (Int × Int × Int)) (h : Dimpl_crossOf a0 a1 = some r) : Big Try.prog H Y (.call 111 [.agg [i64 a0.1, i64 a0.2.1, i64 a0.2.2], .agg [i64 a1.1, i64 a1.2.1, i64 a1.2.2]] (lk []) (.agg [i64 r.1, i64 r.2.1, i64 r.2.2]) (lk [])) := by
  unfold Dimpl_crossOf at h
  refine x_call (fn := Try.f111) (c := bodyOf Try.f111) (bs0 := []) Try.func111 (by kernel_rfl) (by kernel_rfl) ?_
  replace h := Option.some.inj h; subst h
  exact x_end 44 [] [] onil onil (by kernel_rfl)
/-! impl.dot -/
def Dimpl_dot (a0 : (Int × Int × Int)) (a1 : (Int × Int × Int)) : Option Int :=
  some (w64 ((w64 ((w64 (a0.1 * a1.1)) + (w64 (a0.2.1 * a1.2.1)))) + (w64 (a0.2.2 * a1.2.2))))
theorem Timpl_dot {Y} (a0 : (Int × Int × Int)) (a1 : (Int × Int × Int)) (r : Int) (h : Dimpl_dot a0 a1 = some r) : Big Try.prog H Y (.call 113 [.agg [i64 a0.1, i64 a0.2.1, i64 a0.2.2], .agg [i64 a1.1, i64 a1.2.1, i64 a1.2.2]] (lk []) (i64 r) (lk [])) := by
  unfold Dimpl_dot at h
  refine x_call (fn := Try.f113) (c := bodyOf Try.f113) (bs0 := []) Try.func113 (by kernel_rfl) (by kernel_rfl) ?_
  replace h := Option.some.inj h; subst h
  exact x_end 27 [] [] onil onil (by kernel_rfl)
/-! cmp.isNaN[int] -/
def Dcmp_isNaN (a0 : Int) : Option Bool :=
  some (a0 != a0)
theorem Tcmp_isNaN {Y} (a0 : Int) (r : Bool) (h : Dcmp_isNaN a0 = some r) : Big Try.prog H Y (.call 130 [i64 a0] (lk []) (bl r) (lk [])) := by
  unfold Dcmp_isNaN at h
  refine x_call (fn := Try.f130) (c := bodyOf Try.f130) (bs0 := []) Try.func130 (by kernel_rfl) (by kernel_rfl) ?_
  replace h := Option.some.inj h; subst h
  exact x_end 11 [] [] onil onil (by kernel_rfl)
/-! cmp.Compare[int] -/
def Dcmp_Compare (a0 a1 : Int) : Option Int :=
  (Dcmp_isNaN a0).bind fun v0 => (Dcmp_isNaN a1).bind fun v1 => frk v0 (frk v1 (some 0) (some (-1))) (frk v1 (some 1) (frk (decide (a0 < a1)) (some (-1)) (frk (decide (a0 > a1)) (some 1) (some 0))))
theorem Tcmp_Compare {Y} (a0 a1 r : Int) (h : Dcmp_Compare a0 a1 = some r) : Big Try.prog H Y (.call 103 [i64 a0, i64 a1] (lk []) (i64 r) (lk [])) := by
  unfold Dcmp_Compare at h
  refine x_call (fn := Try.f103) (c := bodyOf Try.f103) (bs0 := []) Try.func103 (by kernel_rfl) (by kernel_rfl) ?_
  obtain ⟨v0, hv0, h⟩ := bind_some h
  obtain ⟨v1, hv1, h⟩ := bind_some h
  refine x_frk 21 [(2, .call [] [] (bl v0) []), (2, .call [] [] (bl v1) [])] (ocons (Tcmp_isNaN (Y := Y) a0 _ hv0) (ocons (Tcmp_isNaN (Y := Y) a1 _ hv1) onil)) h (by kernel_rfl) (fun h => ?_) (fun h => ?_)
  · refine x_frk 5 [] onil h (by kernel_rfl) (fun h => ?_) (fun h => ?_)
    · replace h := Option.some.inj h; subst h
      exact x_end 4 [] [] onil onil (by kernel_rfl)
    · replace h := Option.some.inj h; subst h
      exact x_end 5 [] [] onil onil (by kernel_rfl)
  · refine x_frk 6 [] onil h (by kernel_rfl) (fun h => ?_) (fun h => ?_)
    · replace h := Option.some.inj h; subst h
      exact x_end 4 [] [] onil onil (by kernel_rfl)
    · refine x_frk 8 [] onil h (by kernel_rfl) (fun h => ?_) (fun h => ?_)
      · replace h := Option.some.inj h; subst h
        exact x_end 4 [] [] onil onil (by kernel_rfl)
      · refine x_frk 8 [] onil h (by kernel_rfl) (fun h => ?_) (fun h => ?_)
        · replace h := Option.some.inj h; subst h
          exact x_end 4 [] [] onil onil (by kernel_rfl)
        · replace h := Option.some.inj h; subst h
          exact x_end 5 [] [] onil onil (by kernel_rfl)
/-! impl.sign -/
def Dimpl_sign (a0 : Int) : Option Int :=
  (Dcmp_Compare a0 0).bind fun v0 => some v0
theorem Timpl_sign {Y} (a0 r : Int) (h : Dimpl_sign a0 = some r) : Big Try.prog H Y (.call 79 [i64 a0] (lk []) (i64 r) (lk [])) := by
  unfold Dimpl_sign at h
  refine x_call (fn := Try.f79) (c := bodyOf Try.f79) (bs0 := []) Try.func79 (by kernel_rfl) (by kernel_rfl) ?_
  obtain ⟨v0, hv0, h⟩ := bind_some h
  replace h := Option.some.inj h; subst h
  exact x_end 10 [(2, .call [] [] (i64 v0) [])] [] (ocons (Tcmp_Compare (Y := Y) a0 0 _ hv0) onil) onil (by kernel_rfl)
/-! impl.parallel -/
def Dimpl_parallel (a0 : Pl) (a1 : Pl) : Option Int :=
  (Dimpl_normal a0).bind fun v0 => (Dimpl_normal a1).bind fun v1 => (Dimpl_crossOf v0 v1).bind fun v2 => frk (!(v2.1 == 0 && (v2.2.1 == 0 && (v2.2.2 == 0 && true)))) (some 0) ((Dimpl_normal a0).bind fun v3 => (Dimpl_normal a1).bind fun v4 => (Dimpl_dot v3 v4).bind fun v5 => (Dimpl_sign v5).bind fun v6 => some v6)
theorem Timpl_parallel {Y} (a0 : Pl) (a1 : Pl) (r : Int) (h : Dimpl_parallel a0 a1 = some r) : Big Try.prog H Y (.call 109 [.agg [i64 a0.A, i64 a0.B, i64 a0.C, i64 a0.D], .agg [i64 a1.A, i64 a1.B, i64 a1.C, i64 a1.D]] (lk []) (i64 r) (lk [])) := by
  unfold Dimpl_parallel at h
  refine x_call (fn := Try.f109) (c := bodyOf Try.f109) (bs0 := []) Try.func109 (by kernel_rfl) (by kernel_rfl) ?_
  obtain ⟨v0, hv0, h⟩ := bind_some h
  obtain ⟨v1, hv1, h⟩ := bind_some h
  obtain ⟨v2, hv2, h⟩ := bind_some h
  refine x_frk 17 [(4, .call [] [] (.agg [i64 v0.1, i64 v0.2.1, i64 v0.2.2]) []), (1, .call [] [] (.agg [i64 v1.1, i64 v1.2.1, i64 v1.2.2]) []), (0, .call [] [] (.agg [i64 v2.1, i64 v2.2.1, i64 v2.2.2]) [])] (ocons (Timpl_normal (Y := Y) a0 _ hv0) (ocons (Timpl_normal (Y := Y) a1 _ hv1) (ocons (Timpl_crossOf (Y := Y) v0 v1 _ hv2) onil))) h (by kernel_rfl) (fun h => ?_) (fun h => ?_)
  · replace h := Option.some.inj h; subst h
    exact x_end 4 [] [] onil onil (by kernel_rfl)
  · obtain ⟨v3, hv3, h⟩ := bind_some h
    obtain ⟨v4, hv4, h⟩ := bind_some h
    obtain ⟨v5, hv5, h⟩ := bind_some h
    obtain ⟨v6, hv6, h⟩ := bind_some h
    replace h := Option.some.inj h; subst h
    exact x_end 11 [(1, .call [] [] (.agg [i64 v3.1, i64 v3.2.1, i64 v3.2.2]) []), (1, .call [] [] (.agg [i64 v4.1, i64 v4.2.1, i64 v4.2.2]) []), (0, .call [] [] (i64 v5) []), (0, .call [] [] (i64 v6) [])] [] (ocons (Timpl_normal (Y := Y) a0 _ hv3) (ocons (Timpl_normal (Y := Y) a1 _ hv4) (ocons (Timpl_dot (Y := Y) v3 v4 _ hv5) (ocons (Timpl_sign (Y := Y) v5 _ hv6) onil)))) onil (by kernel_rfl)
/-! impl.clash2 -/
def Dimpl_clash2 (_n : Nat) (a0 : Pl) (a1 : Pl) : Option Bool :=
  (Dimpl_parallel a0 a1).bind fun v0 => frk (decide (v0 ≥ 0)) (some false) ((Dimpl_normal a0).bind fun v1 => (Dimpl_normal a1).bind fun v2 => frk (v1.1 != 0) (some (decide ((w64 ((w64 (a0.D * (maxN v2.1 [w64 (0 - v2.1)]))) + (w64 (a1.D * (maxN v1.1 [w64 (0 - v1.1)]))))) ≤ 0))) (frk (v1.2.1 != 0) (some (decide ((w64 ((w64 (a0.D * (maxN v2.2.1 [w64 (0 - v2.2.1)]))) + (w64 (a1.D * (maxN v1.2.1 [w64 (0 - v1.2.1)]))))) ≤ 0))) (frk (v1.2.2 != 0) (some (decide ((w64 ((w64 (a0.D * (maxN v2.2.2 [w64 (0 - v2.2.2)]))) + (w64 (a1.D * (maxN v1.2.2 [w64 (0 - v1.2.2)]))))) ≤ 0))) (some false))))
theorem Timpl_clash2 {Y} (n : Nat) (a0 : Pl) (a1 : Pl) (r : Bool) (h : Dimpl_clash2 n a0 a1 = some r) : Big Try.prog H Y (.call 86 [.agg [i64 a0.A, i64 a0.B, i64 a0.C, i64 a0.D], .agg [i64 a1.A, i64 a1.B, i64 a1.C, i64 a1.D]] (lk []) (bl r) (lk [])) := by
  unfold Dimpl_clash2 at h
  refine x_call (fn := Try.f86) (c := bodyOf Try.f86) (bs0 := []) Try.func86 (by kernel_rfl) (by kernel_rfl) ?_
  obtain ⟨v0, hv0, h⟩ := bind_some h
  refine x_frk 14 [(5, .call [] [] (i64 v0) [])] (ocons (Timpl_parallel (Y := Y) a0 a1 _ hv0) onil) h (by kernel_rfl) (fun h => ?_) (fun h => ?_)
  · replace h := Option.some.inj h; subst h
    exact x_end 4 [] [] onil onil (by kernel_rfl)
  · obtain ⟨v1, hv1, h⟩ := bind_some h
    obtain ⟨v2, hv2, h⟩ := bind_some h
    refine x_frk 40 [(1, .call [] [] (.agg [i64 v1.1, i64 v1.2.1, i64 v1.2.2]) []), (1, .call [] [] (.agg [i64 v2.1, i64 v2.2.1, i64 v2.2.2]) [])] (ocons (Timpl_normal (Y := Y) a0 _ hv1) (ocons (Timpl_normal (Y := Y) a1 _ hv2) onil)) h (by kernel_rfl) (fun h => ?_) (fun h => ?_)
    · replace h := Option.some.inj h; subst h
      exact x_end 28 [(9, .val (.lit (.int .i64 (maxN v2.1 [w64 (0 - v2.1)])))), (10, .val (.lit (.int .i64 (maxN v1.1 [w64 (0 - v1.1)]))))] [] (ocons (maxNok .i64 [w64 (0 - v2.1)] v2.1) (ocons (maxNok .i64 [w64 (0 - v1.1)] v1.1) onil)) onil (by kernel_rfl)
    · refine x_frk 29 [] onil h (by kernel_rfl) (fun h => ?_) (fun h => ?_)
      · replace h := Option.some.inj h; subst h
        exact x_end 28 [(9, .val (.lit (.int .i64 (maxN v2.2.1 [w64 (0 - v2.2.1)])))), (10, .val (.lit (.int .i64 (maxN v1.2.1 [w64 (0 - v1.2.1)]))))] [] (ocons (maxNok .i64 [w64 (0 - v2.2.1)] v2.2.1) (ocons (maxNok .i64 [w64 (0 - v1.2.1)] v1.2.1) onil)) onil (by kernel_rfl)
      · refine x_frk 29 [] onil h (by kernel_rfl) (fun h => ?_) (fun h => ?_)
        · replace h := Option.some.inj h; subst h
          exact x_end 28 [(9, .val (.lit (.int .i64 (maxN v2.2.2 [w64 (0 - v2.2.2)])))), (10, .val (.lit (.int .i64 (maxN v1.2.2 [w64 (0 - v1.2.2)]))))] [] (ocons (maxNok .i64 [w64 (0 - v2.2.2)] v2.2.2) (ocons (maxNok .i64 [w64 (0 - v1.2.2)] v1.2.2) onil)) onil (by kernel_rfl)
        · replace h := Option.some.inj h; subst h
          exact x_end 19 [] [] onil onil (by kernel_rfl)
/-! impl.det -/
def Dimpl_det (a0 : (Int × Int × Int)) (a1 : (Int × Int × Int)) (a2 : (Int × Int × Int)) : Option Int :=
  (Dimpl_crossOf a1 a2).bind fun v0 => (Dimpl_dot a0 v0).bind fun v1 => some v1
theorem Timpl_det {Y} (a0 : (Int × Int × Int)) (a1 : (Int × Int × Int)) (a2 : (Int × Int × Int)) (r : Int) (h : Dimpl_det a0 a1 a2 = some r) : Big Try.prog H Y (.call 98 [.agg [i64 a0.1, i64 a0.2.1, i64 a0.2.2], .agg [i64 a1.1, i64 a1.2.1, i64 a1.2.2], .agg [i64 a2.1, i64 a2.2.1, i64 a2.2.2]] (lk []) (i64 r) (lk [])) := by
  unfold Dimpl_det at h
  refine x_call (fn := Try.f98) (c := bodyOf Try.f98) (bs0 := []) Try.func98 (by kernel_rfl) (by kernel_rfl) ?_
  obtain ⟨v0, hv0, h⟩ := bind_some h
  obtain ⟨v1, hv1, h⟩ := bind_some h
  replace h := Option.some.inj h; subst h
  exact x_end 16 [(7, .call [] [] (.agg [i64 v0.1, i64 v0.2.1, i64 v0.2.2]) []), (0, .call [] [] (i64 v1) [])] [] (ocons (Timpl_crossOf (Y := Y) a1 a2 _ hv0) (ocons (Timpl_dot (Y := Y) a0 v0 _ hv1) onil)) onil (by kernel_rfl)
/-! impl.weighs -/
def Dimpl_weighs_0 (_n : Nat) (rec0 : (Int × Int) → Option Bool) (t1 : List Int) (_t5 : Int) (_t13 : List Int) (_t14 t6 t7 t8 t15 : Int) (t27 : Bool) : Option Bool :=
  frk t27 (some false) ((lget t1 t7).bind fun v4 => rec0 (w64 (t6 + (w64 (t8 * v4))), w64 (t15 + 1)))
theorem Timpl_weighs_0 {Y} (n : Nat) (rec0 : (Int × Int) → Option Bool) (t1 : List Int) (t5 : Int) (t13 : List Int) (t14 : Int) (hrec0 : ∀ (a : (Int × Int)) (r : Bool), rec0 a = some r → Wk Try.prog H Y 112 [.code (cp [1, 1, 1, 0, 1, 0] (bodyOf Try.f112)), .blk 0, .code (cp [1, 1, 1, 1] (bodyOf Try.f112))] (FinX Try.prog Try.f112 [] (bl r) []) ⟨[(1, .sl false 1 t1.length ((eInt).f t1)), (5, i64 t5), (6, i64 a.1), (13, .sl false 1 t13.length ((eInt).f t13)), (14, i64 t14), (15, i64 a.2)], []⟩) (t6 t7 t8 t15 : Int) (t27 r : Bool) (h : Dimpl_weighs_0 n rec0 t1 t5 t13 t14 t6 t7 t8 t15 t27 = some r) : Wk Try.prog H Y 112 [.code (cp [1, 1, 1, 0, 1, 0, 0, 1, 1, 0, 0, 1, 0, 1] (bodyOf Try.f112)), .code (cp [1, 1, 1, 0, 1, 0, 0, 1, 1, 0, 0, 1, 1] (bodyOf Try.f112)), .blk 1, .code (cp [1, 1, 1, 0, 1, 0, 0, 1, 1, 1] (bodyOf Try.f112)), .lp (cp [1, 1, 1, 0, 1, 0] (bodyOf Try.f112)), .blk 0, .code (cp [1, 1, 1, 1] (bodyOf Try.f112))] (FinX Try.prog Try.f112 [] (bl r) []) ⟨[(1, .sl false 1 t1.length ((eInt).f t1)), (5, i64 t5), (6, i64 t6), (7, i64 t7), (8, i64 t8), (13, .sl false 1 t13.length ((eInt).f t13)), (14, i64 t14), (15, i64 t15), (27, bl t27)], []⟩ := by
  unfold Dimpl_weighs_0 at h
  refine x_frk 0 [] onil h (by kernel_rfl) (fun h => ?_) (fun h => ?_)
  · replace h := Option.some.inj h; subst h
    exact x_end 4 [] [] onil onil (by kernel_rfl)
  · obtain ⟨v4, hv4, h⟩ := bind_some h
    exact x_to 18 [(4, .val (.cptr (eInt.c v4 ++ (eInt).f ((t1).drop (Int.toNat t7 + 1)))))] (ocons (ix eInt hv4) onil) (hrec0 (w64 (t6 + (w64 (t8 * v4))), w64 (t15 + 1)) r h) (by kernel_rfl)
def Dimpl_weighs_1 (n : Nat) (t1 : List Int) (t5 : Int) (t13 : List Int) (t14 : Int) (rec0 : (Int × Int) → Option Bool) (a : (Int × Int)) : Option Bool :=
  match a with
  | (t6, t15) => frk (decide (t15 < t14)) ((lget t13 t15).bind fun v2 => frk (t5 == 0) (some false) ((Dimpl_sign v2).bind fun v3 => Dimpl_weighs_0 n rec0 t1 t5 t13 t14 t6 t15 v2 t15 (v3 != t5))) (some (decide ((w64 (t6 * t5)) ≤ 0)))
theorem Timpl_weighs_1 {Y} (n : Nat) (t1 : List Int) (t5 : Int) (t13 : List Int) (t14 : Int) : ∀ (m : Nat) (a : (Int × Int)) (r : Bool), loopN (Dimpl_weighs_1 n t1 t5 t13 t14) m a = some r → Wk Try.prog H Y 112 [.code (cp [1, 1, 1, 0, 1, 0] (bodyOf Try.f112)), .blk 0, .code (cp [1, 1, 1, 1] (bodyOf Try.f112))] (FinX Try.prog Try.f112 [] (bl r) []) ⟨[(1, .sl false 1 t1.length ((eInt).f t1)), (5, i64 t5), (6, i64 a.1), (13, .sl false 1 t13.length ((eInt).f t13)), (14, i64 t14), (15, i64 a.2)], []⟩ := by
  refine loopN_ind (fun rec0 hrec0 a r h => ?_)
  obtain ⟨t6, t15⟩ := a
  unfold Dimpl_weighs_1 at h
  refine x_frk 6 [] onil h (by kernel_rfl) (fun h => ?_) (fun h => ?_)
  · obtain ⟨v2, hv2, h⟩ := bind_some h
    refine x_frk 17 [(1, .val (.cptr (eInt.c v2 ++ (eInt).f ((t13).drop (Int.toNat t15 + 1)))))] (ocons (ix eInt hv2) onil) h (by kernel_rfl) (fun h => ?_) (fun h => ?_)
    · replace h := Option.some.inj h; subst h
      exact x_end 11 [] [] onil onil (by kernel_rfl)
    · obtain ⟨v3, hv3, h⟩ := bind_some h
      exact x_to 6 [(1, .call [] [] (i64 v3) [])] (ocons (Timpl_sign (Y := Y) v2 _ hv3) onil) (Timpl_weighs_0 n rec0 t1 t5 t13 t14 hrec0 t6 t15 v2 t15 (v3 != t5) r h) (by kernel_rfl)
  · replace h := Option.some.inj h; subst h
    exact x_end 9 [] [] onil onil (by kernel_rfl)
def Dimpl_weighs (n : Nat) (a0 : (List Int)) (a1 : (List Int)) : Option Bool :=
  (lget a0 0).bind fun v0 => (Dimpl_sign v0).bind fun v1 => loopN (Dimpl_weighs_1 n a1 v1 a0 (a0.length : Int)) n (0, 0)
theorem Timpl_weighs {Y} (n : Nat) (a0 : (List Int)) (a1 : (List Int)) (r : Bool) (h : Dimpl_weighs n a0 a1 = some r) : Big Try.prog H Y (.call 112 [.sl false 1 a0.length ((eInt).f a0), .sl false 1 a1.length ((eInt).f a1)] (lk []) (bl r) (lk [])) := by
  unfold Dimpl_weighs at h
  refine x_call (fn := Try.f112) (c := bodyOf Try.f112) (bs0 := []) Try.func112 (by kernel_rfl) (by kernel_rfl) ?_
  obtain ⟨v0, hv0, h⟩ := bind_some h
  obtain ⟨v1, hv1, h⟩ := bind_some h
  exact x_to 24 [(2, .val (.cptr (eInt.c v0 ++ (eInt).f ((a0).drop (Int.toNat 0 + 1))))), (1, .call [] [] (i64 v1) [])] (ocons (ix eInt hv0) (ocons (Timpl_sign (Y := Y) v0 _ hv1) onil)) (Timpl_weighs_1 n a1 v1 a0 (a0.length : Int) n (0, 0) r h) (by kernel_rfl)
/-! impl.clash3 -/
def Dimpl_clash3 (n : Nat) (a0 : Pl) (a1 : Pl) (a2 : Pl) : Option Bool :=
  (Dimpl_normal a0).bind fun v0 => (Dimpl_normal a1).bind fun v1 => (Dimpl_normal a2).bind fun v2 => (Dimpl_det v0 v1 v2).bind fun v3 => frk (v3 != 0) (some false) ((Dimpl_crossOf v0 v1).bind fun v4 => (Dimpl_crossOf v1 v2).bind fun v5 => (Dimpl_dot v5 v4).bind fun v6 => (Dimpl_crossOf v2 v0).bind fun v7 => (Dimpl_dot v7 v4).bind fun v8 => (Dimpl_dot v4 v4).bind fun v9 => (Dimpl_weighs n [v6, v8, v9] [a0.D, a1.D, a2.D]).bind fun v10 => some v10)
theorem Timpl_clash3 {Y} (n : Nat) (a0 : Pl) (a1 : Pl) (a2 : Pl) (r : Bool) (h : Dimpl_clash3 n a0 a1 a2 = some r) : Big Try.prog H Y (.call 87 [.agg [i64 a0.A, i64 a0.B, i64 a0.C, i64 a0.D], .agg [i64 a1.A, i64 a1.B, i64 a1.C, i64 a1.D], .agg [i64 a2.A, i64 a2.B, i64 a2.C, i64 a2.D]] (lk []) (bl r) (lk [])) := by
  unfold Dimpl_clash3 at h
  refine x_call (fn := Try.f87) (c := bodyOf Try.f87) (bs0 := []) Try.func87 (by kernel_rfl) (by kernel_rfl) ?_
  obtain ⟨v0, hv0, h⟩ := bind_some h
  obtain ⟨v1, hv1, h⟩ := bind_some h
  obtain ⟨v2, hv2, h⟩ := bind_some h
  obtain ⟨v3, hv3, h⟩ := bind_some h
  refine x_frk 31 [(5, .call [] [] (.agg [i64 v0.1, i64 v0.2.1, i64 v0.2.2]) []), (1, .call [] [] (.agg [i64 v1.1, i64 v1.2.1, i64 v1.2.2]) []), (1, .call [] [] (.agg [i64 v2.1, i64 v2.2.1, i64 v2.2.2]) []), (9, .call [] [] (i64 v3) [])] (ocons (Timpl_normal (Y := Y) a0 _ hv0) (ocons (Timpl_normal (Y := Y) a1 _ hv1) (ocons (Timpl_normal (Y := Y) a2 _ hv2) (ocons (Timpl_det (Y := Y) v0 v1 v2 _ hv3) onil)))) h (by kernel_rfl) (fun h => ?_) (fun h => ?_)
  · replace h := Option.some.inj h; subst h
    exact x_end 4 [] [] onil onil (by kernel_rfl)
  · obtain ⟨v4, hv4, h⟩ := bind_some h
    obtain ⟨v5, hv5, h⟩ := bind_some h
    obtain ⟨v6, hv6, h⟩ := bind_some h
    obtain ⟨v7, hv7, h⟩ := bind_some h
    obtain ⟨v8, hv8, h⟩ := bind_some h
    obtain ⟨v9, hv9, h⟩ := bind_some h
    obtain ⟨v10, hv10, h⟩ := bind_some h
    replace h := Option.some.inj h; subst h
    exact x_end 35 [(2, .call [] [] (.agg [i64 v4.1, i64 v4.2.1, i64 v4.2.2]) []), (4, .call [] [] (.agg [i64 v5.1, i64 v5.2.1, i64 v5.2.2]) []), (1, .call [] [] (i64 v6) []), (2, .call [] [] (.agg [i64 v7.1, i64 v7.2.1, i64 v7.2.2]) []), (1, .call [] [] (i64 v8) []), (2, .call [] [] (i64 v9) []), (8, .call [] [(eInt).f [a0.D, a1.D, a2.D], (eInt).f [v6, v8, v9]] (bl v10) [])] [] (ocons (Timpl_crossOf (Y := Y) v0 v1 _ hv4) (ocons (Timpl_crossOf (Y := Y) v1 v2 _ hv5) (ocons (Timpl_dot (Y := Y) v5 v4 _ hv6) (ocons (Timpl_crossOf (Y := Y) v2 v0 _ hv7) (ocons (Timpl_dot (Y := Y) v7 v4 _ hv8) (ocons (Timpl_dot (Y := Y) v4 v4 _ hv9) (ocons (Timpl_weighs (Y := Y) n [v6, v8, v9] [a0.D, a1.D, a2.D] _ hv10) (ocons (len_row (L := [v6, v8, v9]) eInt) (ocons (Enc.share eInt eInt sInt [v6, v8, v9]) (ocons (len_row (L := [a0.D, a1.D, a2.D]) eInt) (ocons (Enc.share eInt eInt sInt [a0.D, a1.D, a2.D]) onil))))))))))) onil (by kernel_rfl)
/-! impl.det3 -/
def Dimpl_det3 (a0 : Pl) (a1 : Pl) (a2 : Pl) : Option Int :=
  (Dimpl_normal a0).bind fun v0 => (Dimpl_normal a1).bind fun v1 => (Dimpl_normal a2).bind fun v2 => (Dimpl_det v0 v1 v2).bind fun v3 => some v3
theorem Timpl_det3 {Y} (a0 : Pl) (a1 : Pl) (a2 : Pl) (r : Int) (h : Dimpl_det3 a0 a1 a2 = some r) : Big Try.prog H Y (.call 97 [.agg [i64 a0.A, i64 a0.B, i64 a0.C, i64 a0.D], .agg [i64 a1.A, i64 a1.B, i64 a1.C, i64 a1.D], .agg [i64 a2.A, i64 a2.B, i64 a2.C, i64 a2.D]] (lk []) (i64 r) (lk [])) := by
  unfold Dimpl_det3 at h
  refine x_call (fn := Try.f97) (c := bodyOf Try.f97) (bs0 := []) Try.func97 (by kernel_rfl) (by kernel_rfl) ?_
  obtain ⟨v0, hv0, h⟩ := bind_some h
  obtain ⟨v1, hv1, h⟩ := bind_some h
  obtain ⟨v2, hv2, h⟩ := bind_some h
  obtain ⟨v3, hv3, h⟩ := bind_some h
  replace h := Option.some.inj h; subst h
  exact x_end 18 [(5, .call [] [] (.agg [i64 v0.1, i64 v0.2.1, i64 v0.2.2]) []), (1, .call [] [] (.agg [i64 v1.1, i64 v1.2.1, i64 v1.2.2]) []), (1, .call [] [] (.agg [i64 v2.1, i64 v2.2.1, i64 v2.2.2]) []), (0, .call [] [] (i64 v3) [])] [] (ocons (Timpl_normal (Y := Y) a0 _ hv0) (ocons (Timpl_normal (Y := Y) a1 _ hv1) (ocons (Timpl_normal (Y := Y) a2 _ hv2) (ocons (Timpl_det (Y := Y) v0 v1 v2 _ hv3) onil)))) onil (by kernel_rfl)
/-! impl.clash4 -/
def Dimpl_clash4 (n : Nat) (a0 : Pl) (a1 : Pl) (a2 : Pl) (a3 : Pl) : Option Bool :=
  (Dimpl_det3 a1 a2 a3).bind fun v0 => (Dimpl_det3 a0 a2 a3).bind fun v1 => (Dimpl_det3 a0 a1 a3).bind fun v2 => (Dimpl_det3 a0 a1 a2).bind fun v3 => (Dimpl_weighs n [v0, w64 (0 - v1), v2, w64 (0 - v3)] [a0.D, a1.D, a2.D, a3.D]).bind fun v4 => some v4
theorem Timpl_clash4 {Y} (n : Nat) (a0 : Pl) (a1 : Pl) (a2 : Pl) (a3 : Pl) (r : Bool) (h : Dimpl_clash4 n a0 a1 a2 a3 = some r) : Big Try.prog H Y (.call 88 [.agg [i64 a0.A, i64 a0.B, i64 a0.C, i64 a0.D], .agg [i64 a1.A, i64 a1.B, i64 a1.C, i64 a1.D], .agg [i64 a2.A, i64 a2.B, i64 a2.C, i64 a2.D], .agg [i64 a3.A, i64 a3.B, i64 a3.C, i64 a3.D]] (lk []) (bl r) (lk [])) := by
  unfold Dimpl_clash4 at h
  refine x_call (fn := Try.f88) (c := bodyOf Try.f88) (bs0 := []) Try.func88 (by kernel_rfl) (by kernel_rfl) ?_
  obtain ⟨v0, hv0, h⟩ := bind_some h
  obtain ⟨v1, hv1, h⟩ := bind_some h
  obtain ⟨v2, hv2, h⟩ := bind_some h
  obtain ⟨v3, hv3, h⟩ := bind_some h
  obtain ⟨v4, hv4, h⟩ := bind_some h
  replace h := Option.some.inj h; subst h
  exact x_end 46 [(8, .call [] [] (i64 v0) []), (3, .call [] [] (i64 v1) []), (4, .call [] [] (i64 v2) []), (3, .call [] [] (i64 v3) []), (13, .call [] [(eInt).f [a0.D, a1.D, a2.D, a3.D], (eInt).f [v0, w64 (0 - v1), v2, w64 (0 - v3)]] (bl v4) [])] [] (ocons (Timpl_det3 (Y := Y) a1 a2 a3 _ hv0) (ocons (Timpl_det3 (Y := Y) a0 a2 a3 _ hv1) (ocons (Timpl_det3 (Y := Y) a0 a1 a3 _ hv2) (ocons (Timpl_det3 (Y := Y) a0 a1 a2 _ hv3) (ocons (Timpl_weighs (Y := Y) n [v0, w64 (0 - v1), v2, w64 (0 - v3)] [a0.D, a1.D, a2.D, a3.D] _ hv4) (ocons (len_row (L := [v0, w64 (0 - v1), v2, w64 (0 - v3)]) eInt) (ocons (Enc.share eInt eInt sInt [v0, w64 (0 - v1), v2, w64 (0 - v3)]) (ocons (len_row (L := [a0.D, a1.D, a2.D, a3.D]) eInt) (ocons (Enc.share eInt eInt sInt [a0.D, a1.D, a2.D, a3.D]) onil))))))))) onil (by kernel_rfl)
/-! impl.room -/
def Dimpl_room_0 (n : Nat) (rec1 : Int → Option Bool) (_rec0 : Int → Option Bool) (_t13 : Int) (_t23 : List Pl) (_t24 b6_0 b6_1 b6_2 b6_3 : Int) (_t0 : List Pl) (_t11 : List Pl) (_t12 b3_0 b3_1 b3_2 b3_3 t25 : Int) (t36 : List Pl) (t37 b8_0 b8_1 b8_2 b8_3 : Int) (rec2 : Int → Option Bool) (a : Int) : Option Bool :=
  match a with
  | t38 => frk (decide (t38 < t37)) ((lget t36 t38).bind fun v6 => (Dimpl_clash4 n v6 (Pl.mk b8_0 b8_1 b8_2 b8_3) (Pl.mk b6_0 b6_1 b6_2 b6_3) (Pl.mk b3_0 b3_1 b3_2 b3_3)).bind fun v7 => frk v7 (some false) (rec2 (w64 (t38 + 1)))) (rec1 (w64 (t25 + 1)))
theorem Timpl_room_0 {Y} (n : Nat) (rec1 : Int → Option Bool) (rec0 : Int → Option Bool) (t13 : Int) (t23 : List Pl) (t24 b6_0 b6_1 b6_2 b6_3 : Int) (t0 : List Pl) (t11 : List Pl) (t12 b3_0 b3_1 b3_2 b3_3 : Int) (hrec1 : ∀ (a : Int) (r : Bool), rec1 a = some r → Wk Try.prog H Y 62 [.code (cp [1, 0, 1, 0, 0, 1, 1, 0, 0, 1, 1, 1, 0] (bodyOf Try.f62)), .blk 2, .blk 1, .code (cp [1, 0, 1, 0, 0, 1, 1, 1] (bodyOf Try.f62)), .lp (cp [1, 0, 1, 0] (bodyOf Try.f62)), .blk 0, .code (cp [1, 1] (bodyOf Try.f62))] (FinX Try.prog Try.f62 [] (bl r) []) ⟨[(0, .sl false 4 t0.length ((ePl).f t0)), (3, .ptr 3 0), (6, .ptr 6 0), (11, .sl false 4 t11.length ((ePl).f t11)), (12, i64 t12), (13, i64 t13), (23, .sl false 4 t23.length ((ePl).f t23)), (24, i64 t24), (25, i64 a)], [(3, ⟨true, 0, [i64 b3_0, i64 b3_1, i64 b3_2, i64 b3_3]⟩), (6, ⟨true, 0, [i64 b6_0, i64 b6_1, i64 b6_2, i64 b6_3]⟩)]⟩) (_hrec0 : ∀ (a : Int) (r : Bool), rec0 a = some r → Wk Try.prog H Y 62 [.code (cp [1, 0, 1, 0] (bodyOf Try.f62)), .blk 0, .code (cp [1, 1] (bodyOf Try.f62))] (FinX Try.prog Try.f62 [] (bl r) []) ⟨[(0, .sl false 4 t0.length ((ePl).f t0)), (3, .ptr 3 0), (11, .sl false 4 t11.length ((ePl).f t11)), (12, i64 t12), (13, i64 a)], [(3, ⟨true, 0, [i64 b3_0, i64 b3_1, i64 b3_2, i64 b3_3]⟩)]⟩) (t25 : Int) (t36 : List Pl) (t37 b8_0 b8_1 b8_2 b8_3 : Int) : ∀ (m : Nat) (a : Int) (r : Bool), loopN (Dimpl_room_0 n rec1 rec0 t13 t23 t24 b6_0 b6_1 b6_2 b6_3 t0 t11 t12 b3_0 b3_1 b3_2 b3_3 t25 t36 t37 b8_0 b8_1 b8_2 b8_3) m a = some r → Wk Try.prog H Y 62 [.code (cp [1, 0, 1, 0, 0, 1, 1, 0, 0, 1, 1, 1, 0, 0, 1, 1, 0, 0, 1, 1, 1, 0] (bodyOf Try.f62)), .blk 4, .blk 3, .code (cp [1, 0, 1, 0, 0, 1, 1, 0, 0, 1, 1, 1, 0, 0, 1, 1, 1] (bodyOf Try.f62)), .lp (cp [1, 0, 1, 0, 0, 1, 1, 0, 0, 1, 1, 1, 0] (bodyOf Try.f62)), .blk 2, .blk 1, .code (cp [1, 0, 1, 0, 0, 1, 1, 1] (bodyOf Try.f62)), .lp (cp [1, 0, 1, 0] (bodyOf Try.f62)), .blk 0, .code (cp [1, 1] (bodyOf Try.f62))] (FinX Try.prog Try.f62 [] (bl r) []) ⟨[(0, .sl false 4 t0.length ((ePl).f t0)), (3, .ptr 3 0), (6, .ptr 6 0), (8, .ptr 8 0), (11, .sl false 4 t11.length ((ePl).f t11)), (12, i64 t12), (13, i64 t13), (23, .sl false 4 t23.length ((ePl).f t23)), (24, i64 t24), (25, i64 t25), (36, .sl false 4 t36.length ((ePl).f t36)), (37, i64 t37), (38, i64 a)], [(3, ⟨true, 0, [i64 b3_0, i64 b3_1, i64 b3_2, i64 b3_3]⟩), (6, ⟨true, 0, [i64 b6_0, i64 b6_1, i64 b6_2, i64 b6_3]⟩), (8, ⟨true, 0, [i64 b8_0, i64 b8_1, i64 b8_2, i64 b8_3]⟩)]⟩ := by
  refine loopN_ind (fun _rec2 hrec2 a r h => ?_)
  obtain ⟨t38, rfl⟩ : ∃ x, x = a := ⟨a, rfl⟩
  unfold Dimpl_room_0 at h
  refine x_frk 6 [] onil h (by kernel_rfl) (fun h => ?_) (fun h => ?_)
  · obtain ⟨v6, hv6, h⟩ := bind_some h
    obtain ⟨v7, hv7, h⟩ := bind_some h
    refine x_frk 18 [(0, .val (.cptr (ePl.c v6 ++ (ePl).f ((t36).drop (Int.toNat t38 + 1))))), (7, .call [] [] (bl v7) [])] (ocons (ix ePl hv6) (ocons (Timpl_clash4 (Y := Y) n v6 (Pl.mk b8_0 b8_1 b8_2 b8_3) (Pl.mk b6_0 b6_1 b6_2 b6_3) (Pl.mk b3_0 b3_1 b3_2 b3_3) _ hv7) onil)) h (by kernel_rfl) (fun h => ?_) (fun h => ?_)
    · replace h := Option.some.inj h; subst h
      exact x_end 4 [] [] onil onil (by kernel_rfl)
    · exact x_to 7 [] onil (hrec2 (w64 (t38 + 1)) r h) (by kernel_rfl)
  · exact x_to 7 [] onil (hrec1 (w64 (t25 + 1)) r h) (by kernel_rfl)
def Dimpl_room_1 (n : Nat) (rec0 : Int → Option Bool) (t0 : List Pl) (t11 : List Pl) (t12 b3_0 b3_1 b3_2 b3_3 t13 : Int) (t23 : List Pl) (t24 b6_0 b6_1 b6_2 b6_3 : Int) (rec1 : Int → Option Bool) (a : Int) : Option Bool :=
  match a with
  | t25 => frk (decide (t25 < t24)) ((lget t23 t25).bind fun v3 => (Dimpl_clash3 n v3 (Pl.mk b6_0 b6_1 b6_2 b6_3) (Pl.mk b3_0 b3_1 b3_2 b3_3)).bind fun v4 => frk v4 (some false) ((lsl t0 0 t25).bind fun v5 => loopN (Dimpl_room_0 n rec1 rec0 t13 t23 t24 b6_0 b6_1 b6_2 b6_3 t0 t11 t12 b3_0 b3_1 b3_2 b3_3 t25 v5 (v5.length : Int) v3.A v3.B v3.C v3.D) n 0)) (rec0 (w64 (t13 + 1)))
theorem Timpl_room_1 {Y} (n : Nat) (rec0 : Int → Option Bool) (t0 : List Pl) (t11 : List Pl) (t12 b3_0 b3_1 b3_2 b3_3 : Int) (hrec0 : ∀ (a : Int) (r : Bool), rec0 a = some r → Wk Try.prog H Y 62 [.code (cp [1, 0, 1, 0] (bodyOf Try.f62)), .blk 0, .code (cp [1, 1] (bodyOf Try.f62))] (FinX Try.prog Try.f62 [] (bl r) []) ⟨[(0, .sl false 4 t0.length ((ePl).f t0)), (3, .ptr 3 0), (11, .sl false 4 t11.length ((ePl).f t11)), (12, i64 t12), (13, i64 a)], [(3, ⟨true, 0, [i64 b3_0, i64 b3_1, i64 b3_2, i64 b3_3]⟩)]⟩) (t13 : Int) (t23 : List Pl) (t24 b6_0 b6_1 b6_2 b6_3 : Int) : ∀ (m : Nat) (a : Int) (r : Bool), loopN (Dimpl_room_1 n rec0 t0 t11 t12 b3_0 b3_1 b3_2 b3_3 t13 t23 t24 b6_0 b6_1 b6_2 b6_3) m a = some r → Wk Try.prog H Y 62 [.code (cp [1, 0, 1, 0, 0, 1, 1, 0, 0, 1, 1, 1, 0] (bodyOf Try.f62)), .blk 2, .blk 1, .code (cp [1, 0, 1, 0, 0, 1, 1, 1] (bodyOf Try.f62)), .lp (cp [1, 0, 1, 0] (bodyOf Try.f62)), .blk 0, .code (cp [1, 1] (bodyOf Try.f62))] (FinX Try.prog Try.f62 [] (bl r) []) ⟨[(0, .sl false 4 t0.length ((ePl).f t0)), (3, .ptr 3 0), (6, .ptr 6 0), (11, .sl false 4 t11.length ((ePl).f t11)), (12, i64 t12), (13, i64 t13), (23, .sl false 4 t23.length ((ePl).f t23)), (24, i64 t24), (25, i64 a)], [(3, ⟨true, 0, [i64 b3_0, i64 b3_1, i64 b3_2, i64 b3_3]⟩), (6, ⟨true, 0, [i64 b6_0, i64 b6_1, i64 b6_2, i64 b6_3]⟩)]⟩ := by
  refine loopN_ind (fun rec1 hrec1 a r h => ?_)
  obtain ⟨t25, rfl⟩ : ∃ x, x = a := ⟨a, rfl⟩
  unfold Dimpl_room_1 at h
  refine x_frk 6 [] onil h (by kernel_rfl) (fun h => ?_) (fun h => ?_)
  · obtain ⟨v3, hv3, h⟩ := bind_some h
    obtain ⟨v4, hv4, h⟩ := bind_some h
    refine x_frk 20 [(1, .val (.cptr (ePl.c v3 ++ (ePl).f ((t23).drop (Int.toNat t25 + 1))))), (7, .call [] [] (bl v4) [])] (ocons (ix ePl hv3) (ocons (Timpl_clash3 (Y := Y) n v3 (Pl.mk b6_0 b6_1 b6_2 b6_3) (Pl.mk b3_0 b3_1 b3_2 b3_3) _ hv4) onil)) h (by kernel_rfl) (fun h => ?_) (fun h => ?_)
    · replace h := Option.some.inj h; subst h
      exact x_end 4 [] [] onil onil (by kernel_rfl)
    · obtain ⟨v5, hv5, h⟩ := bind_some h
      exact x_to 10 [(2, .val (.sl false 4 v5.length ((ePl).f v5)))] (ocons (slF ePl hv5) onil) (Timpl_room_0 n rec1 rec0 t13 t23 t24 b6_0 b6_1 b6_2 b6_3 t0 t11 t12 b3_0 b3_1 b3_2 b3_3 hrec1 hrec0 t25 v5 (v5.length : Int) v3.A v3.B v3.C v3.D n 0 r h) (by kernel_rfl)
  · exact x_to 7 [] onil (hrec0 (w64 (t13 + 1)) r h) (by kernel_rfl)
def Dimpl_room_2 (n : Nat) (t0 : List Pl) (t11 : List Pl) (t12 b3_0 b3_1 b3_2 b3_3 : Int) (rec0 : Int → Option Bool) (a : Int) : Option Bool :=
  match a with
  | t13 => frk (decide (t13 < t12)) ((lget t11 t13).bind fun v0 => (Dimpl_clash2 n v0 (Pl.mk b3_0 b3_1 b3_2 b3_3)).bind fun v1 => frk v1 (some false) ((lsl t0 0 t13).bind fun v2 => loopN (Dimpl_room_1 n rec0 t0 t11 t12 b3_0 b3_1 b3_2 b3_3 t13 v2 (v2.length : Int) v0.A v0.B v0.C v0.D) n 0)) (some true)
theorem Timpl_room_2 {Y} (n : Nat) (t0 : List Pl) (t11 : List Pl) (t12 b3_0 b3_1 b3_2 b3_3 : Int) : ∀ (m : Nat) (a : Int) (r : Bool), loopN (Dimpl_room_2 n t0 t11 t12 b3_0 b3_1 b3_2 b3_3) m a = some r → Wk Try.prog H Y 62 [.code (cp [1, 0, 1, 0] (bodyOf Try.f62)), .blk 0, .code (cp [1, 1] (bodyOf Try.f62))] (FinX Try.prog Try.f62 [] (bl r) []) ⟨[(0, .sl false 4 t0.length ((ePl).f t0)), (3, .ptr 3 0), (11, .sl false 4 t11.length ((ePl).f t11)), (12, i64 t12), (13, i64 a)], [(3, ⟨true, 0, [i64 b3_0, i64 b3_1, i64 b3_2, i64 b3_3]⟩)]⟩ := by
  refine loopN_ind (fun rec0 hrec0 a r h => ?_)
  obtain ⟨t13, rfl⟩ : ∃ x, x = a := ⟨a, rfl⟩
  unfold Dimpl_room_2 at h
  refine x_frk 6 [] onil h (by kernel_rfl) (fun h => ?_) (fun h => ?_)
  · obtain ⟨v0, hv0, h⟩ := bind_some h
    obtain ⟨v1, hv1, h⟩ := bind_some h
    refine x_frk 19 [(1, .val (.cptr (ePl.c v0 ++ (ePl).f ((t11).drop (Int.toNat t13 + 1))))), (6, .call [] [] (bl v1) [])] (ocons (ix ePl hv0) (ocons (Timpl_clash2 (Y := Y) n v0 (Pl.mk b3_0 b3_1 b3_2 b3_3) _ hv1) onil)) h (by kernel_rfl) (fun h => ?_) (fun h => ?_)
    · replace h := Option.some.inj h; subst h
      exact x_end 4 [] [] onil onil (by kernel_rfl)
    · obtain ⟨v2, hv2, h⟩ := bind_some h
      exact x_to 10 [(2, .val (.sl false 4 v2.length ((ePl).f v2)))] (ocons (slF ePl hv2) onil) (Timpl_room_1 n rec0 t0 t11 t12 b3_0 b3_1 b3_2 b3_3 hrec0 t13 v2 (v2.length : Int) v0.A v0.B v0.C v0.D n 0 r h) (by kernel_rfl)
  · replace h := Option.some.inj h; subst h
    exact x_end 5 [] [] onil onil (by kernel_rfl)
def Dimpl_room (n : Nat) (a0 : (List Pl)) (a1 : Pl) : Option Bool :=
  loopN (Dimpl_room_2 n a0 a0 (a0.length : Int) a1.A a1.B a1.C a1.D) n 0
theorem Timpl_room {Y} (n : Nat) (a0 : (List Pl)) (a1 : Pl) (r : Bool) (h : Dimpl_room n a0 a1 = some r) : Big Try.prog H Y (.call 62 [.sl false 4 a0.length ((ePl).f a0), .agg [i64 a1.A, i64 a1.B, i64 a1.C, i64 a1.D]] (lk []) (bl r) (lk [])) := by
  unfold Dimpl_room at h
  refine x_call (fn := Try.f62) (c := bodyOf Try.f62) (bs0 := []) Try.func62 (by kernel_rfl) (by kernel_rfl) ?_
  exact x_to 13 [] onil (Timpl_room_2 n a0 a0 (a0.length : Int) a1.A a1.B a1.C a1.D n 0 r h) (by kernel_rfl)
/-! impl.with -/
def Dimpl_with (a0 : (List Pl)) (a1 : Pl) : Option (List Pl) :=
  chk (apB 32 (0 + a0.length)) (chk (apB 32 (([] ++ a0).length + 1)) (some (([] ++ a0) ++ [a1])))
theorem Timpl_with {Y} (a0 : (List Pl)) (a1 : Pl) (r : (List Pl)) (h : Dimpl_with a0 a1 = some r) : Big Try.prog H Y (.call 59 [.sl false 4 a0.length ((ePl).f a0), .agg [i64 a1.A, i64 a1.B, i64 a1.C, i64 a1.D]] (lk []) (.sl true 4 r.length ((ePl).f r)) (lk [])) := by
  unfold Dimpl_with at h
  refine x_call (fn := Try.f59) (c := bodyOf Try.f59) (bs0 := []) Try.func59 (by kernel_rfl) (by kernel_rfl) ?_
  obtain ⟨c0, h⟩ := chk_some h
  obtain ⟨c1, h⟩ := chk_some h
  replace h := Option.some.inj h; subst h
  exact x_end 15 [(4, .app false (List.length ([] ++ a0)) ((ePl).f ([] ++ a0))), (2, .app false (List.length (([] ++ a0) ++ [a1])) ((ePl).f (([] ++ a0) ++ [a1])))] [] (ocons (len_row' (L := []) ePl) (ocons (app_one (L := []) (M := a0) ePl c0) (ocons (app_new (L := []) (M := a0) ePl) (ocons (app_m (L := []) (M := a0) ePl rfl) (ocons (len_row' (L := a0) ePl) (ocons (len_row' (L := ([] ++ a0)) ePl) (ocons (app_one (L := ([] ++ a0)) (M := [a1]) ePl c1) (ocons (app_new (L := ([] ++ a0)) (M := [a1]) ePl) (ocons (app_m (L := ([] ++ a0)) (M := [a1]) ePl rfl) (ocons (len_row' (L := [a1]) ePl) (ocons (Enc.noOwn ePl (fun _ => rfl) [a1]) onil))))))))))) (ocons (len_row (L := (([] ++ a0) ++ [a1])) ePl) onil) (by kernel_rfl)
/-! impl.checker).right -/
def Dimpl_checker_right_1 (_n : Nat) (self : (Int × Sol × (List Pl)) → Option (Bool × Int)) (t2 : List Pl) (t59 _b4_0 : Bool) (b4_1 b4_2 b4_3 b4_4 : Int) (b4_5 : List Sol) (b7_0 b7_1 b7_2 b7_3 b1000_0 : Int) : Option (Bool × Int) :=
  frk t59 (some (false, b1000_0)) ((lget b4_5 0).bind fun v5 => (Dimpl_with t2 (Pl.mk b4_1 b4_2 b4_3 b4_4)).bind fun v6 => (self (b1000_0, v5, v6)).bind fun v7 => frk v7.1 ((lget b4_5 1).bind fun v8 => (Dimpl_with t2 (Pl.mk b7_0 b7_1 b7_2 b7_3)).bind fun v9 => (self (v7.2, v8, v9)).bind fun v10 => some v10) (some (false, v7.2)))
theorem Timpl_checker_right_1 {Y} (n : Nat) (self : (Int × Sol × (List Pl)) → Option (Bool × Int)) (hself : ∀ (a : (Int × Sol × (List Pl))) (r : (Bool × Int)), self a = some r → Big Try.prog H Y (.call 56 [.ptr 1000 0, .agg [bl a.2.1.inn, i64 a.2.1.pl.A, i64 a.2.1.pl.B, i64 a.2.1.pl.C, i64 a.2.1.pl.D, .sl false 6 a.2.1.kids.length ((eSol false).f a.2.1.kids)], .sl false 4 a.2.2.length ((ePl).f a.2.2)] (lk [(1000, ⟨true, 0, [i64 a.1]⟩)]) (bl r.1) (lk [(1000, ⟨true, 0, [i64 r.2]⟩)]))) (t2 : List Pl) (t59 b4_0 : Bool) (b4_1 b4_2 b4_3 b4_4 : Int) (b4_5 : List Sol) (b7_0 b7_1 b7_2 b7_3 b1000_0 : Int) (r : (Bool × Int)) (h : Dimpl_checker_right_1 n self t2 t59 b4_0 b4_1 b4_2 b4_3 b4_4 b4_5 b7_0 b7_1 b7_2 b7_3 b1000_0 = some r) : Wk Try.prog H Y 56 [.code (cp [1, 1, 1, 1, 1, 0, 1] (bodyOf Try.f56)), .code (cp [1, 1, 1, 1, 1, 1] (bodyOf Try.f56))] (FinX Try.prog Try.f56 [(1000, ⟨true, 0, [.bad]⟩)] (bl r.1) [(1000, ⟨true, 0, [i64 r.2]⟩)]) ⟨[(0, .ptr 1000 0), (2, .sl false 4 t2.length ((ePl).f t2)), (4, .ptr 4 0), (7, .ptr 7 0), (59, bl t59)], [(4, ⟨true, 0, [bl b4_0, i64 b4_1, i64 b4_2, i64 b4_3, i64 b4_4, .sl false 6 b4_5.length ((eSol false).f b4_5)]⟩), (7, ⟨true, 0, [i64 b7_0, i64 b7_1, i64 b7_2, i64 b7_3]⟩), (1000, ⟨true, 0, [i64 b1000_0]⟩)]⟩ := by
  unfold Dimpl_checker_right_1 at h
  refine x_frk 0 [] onil h (by kernel_rfl) (fun h => ?_) (fun h => ?_)
  · replace h := Option.some.inj h; subst h
    exact x_end 4 [] [] onil onil (by kernel_rfl)
  · obtain ⟨v5, hv5, h⟩ := bind_some h
    obtain ⟨v6, hv6, h⟩ := bind_some h
    obtain ⟨v7, hv7, h⟩ := bind_some h
    refine x_frk 14 [(3, .val (.cptr ((eSol false).c v5 ++ (eSol false).f ((b4_5).drop (Int.toNat 0 + 1))))), (4, .call [] [] (.sl false 4 v6.length ((ePl).f v6)) []), (0, .call [] [] (bl v7.1) [(1000, ⟨true, 0, [i64 v7.2]⟩)])] (ocons (ix (eSol false) hv5) (ocons (shSl (L := v6) ePl ePl sPl (Timpl_with (Y := Y) t2 (Pl.mk b4_1 b4_2 b4_3 b4_4) _ hv6)) (ocons (hself (b1000_0, v5, v6) _ hv7) onil))) h (by kernel_rfl) (fun h => ?_) (fun h => ?_)
    · obtain ⟨v8, hv8, h⟩ := bind_some h
      obtain ⟨v9, hv9, h⟩ := bind_some h
      obtain ⟨v10, hv10, h⟩ := bind_some h
      replace h := Option.some.inj h; subst h
      exact x_end 12 [(3, .val (.cptr ((eSol false).c v8 ++ (eSol false).f ((b4_5).drop (Int.toNat 1 + 1))))), (3, .call [] [] (.sl false 4 v9.length ((ePl).f v9)) []), (0, .call [] [] (bl v10.1) [(1000, ⟨true, 0, [i64 v10.2]⟩)])] [] (ocons (ix (eSol false) hv8) (ocons (shSl (L := v9) ePl ePl sPl (Timpl_with (Y := Y) t2 (Pl.mk b7_0 b7_1 b7_2 b7_3) _ hv9)) (ocons (hself (v7.2, v8, v9) _ hv10) onil))) onil (by kernel_rfl)
    · replace h := Option.some.inj h; subst h
      exact x_end 12 [] [] onil onil (by kernel_rfl)
def Dimpl_checker_right_0 (n : Nat) (self : (Int × Sol × (List Pl)) → Option (Bool × Int)) (t2 : List Pl) (t45 b4_0 : Bool) (b4_1 b4_2 b4_3 b4_4 : Int) (b4_5 : List Sol) (b1000_0 : Int) : Option (Bool × Int) :=
  frk t45 (some (false, b1000_0)) ((Dimpl_flip (Pl.mk b4_1 b4_2 b4_3 b4_4)).bind fun v2 => (Dimpl_room n t2 (Pl.mk b4_1 b4_2 b4_3 b4_4)).bind fun v3 => frk (!v3) (some (false, b1000_0)) ((Dimpl_room n t2 v2).bind fun v4 => Dimpl_checker_right_1 n self t2 (!v4) b4_0 b4_1 b4_2 b4_3 b4_4 b4_5 v2.A v2.B v2.C v2.D b1000_0))
theorem Timpl_checker_right_0 {Y} (n : Nat) (self : (Int × Sol × (List Pl)) → Option (Bool × Int)) (hself : ∀ (a : (Int × Sol × (List Pl))) (r : (Bool × Int)), self a = some r → Big Try.prog H Y (.call 56 [.ptr 1000 0, .agg [bl a.2.1.inn, i64 a.2.1.pl.A, i64 a.2.1.pl.B, i64 a.2.1.pl.C, i64 a.2.1.pl.D, .sl false 6 a.2.1.kids.length ((eSol false).f a.2.1.kids)], .sl false 4 a.2.2.length ((ePl).f a.2.2)] (lk [(1000, ⟨true, 0, [i64 a.1]⟩)]) (bl r.1) (lk [(1000, ⟨true, 0, [i64 r.2]⟩)]))) (t2 : List Pl) (t45 b4_0 : Bool) (b4_1 b4_2 b4_3 b4_4 : Int) (b4_5 : List Sol) (b1000_0 : Int) (r : (Bool × Int)) (h : Dimpl_checker_right_0 n self t2 t45 b4_0 b4_1 b4_2 b4_3 b4_4 b4_5 b1000_0 = some r) : Wk Try.prog H Y 56 [.code (cp [1, 1, 1, 0, 1] (bodyOf Try.f56)), .code (cp [1, 1, 1, 1] (bodyOf Try.f56))] (FinX Try.prog Try.f56 [(1000, ⟨true, 0, [.bad]⟩)] (bl r.1) [(1000, ⟨true, 0, [i64 r.2]⟩)]) ⟨[(0, .ptr 1000 0), (2, .sl false 4 t2.length ((ePl).f t2)), (4, .ptr 4 0), (45, bl t45)], [(4, ⟨true, 0, [bl b4_0, i64 b4_1, i64 b4_2, i64 b4_3, i64 b4_4, .sl false 6 b4_5.length ((eSol false).f b4_5)]⟩), (1000, ⟨true, 0, [i64 b1000_0]⟩)]⟩ := by
  unfold Dimpl_checker_right_0 at h
  refine x_frk 0 [] onil h (by kernel_rfl) (fun h => ?_) (fun h => ?_)
  · replace h := Option.some.inj h; subst h
    exact x_end 4 [] [] onil onil (by kernel_rfl)
  · obtain ⟨v2, hv2, h⟩ := bind_some h
    obtain ⟨v3, hv3, h⟩ := bind_some h
    refine x_frk 18 [(2, .call [] [] (.agg [i64 v2.A, i64 v2.B, i64 v2.C, i64 v2.D]) []), (5, .call [] [] (bl v3) [])] (ocons (Timpl_flip (Y := Y) (Pl.mk b4_1 b4_2 b4_3 b4_4) _ hv2) (ocons (Timpl_room (Y := Y) n t2 (Pl.mk b4_1 b4_2 b4_3 b4_4) _ hv3) onil)) h (by kernel_rfl) (fun h => ?_) (fun h => ?_)
    · replace h := Option.some.inj h; subst h
      exact x_end 11 [] [] onil onil (by kernel_rfl)
    · obtain ⟨v4, hv4, h⟩ := bind_some h
      exact x_to 6 [(2, .call [] [] (bl v4) [])] (ocons (Timpl_room (Y := Y) n t2 v2 _ hv4) onil) (Timpl_checker_right_1 n self hself t2 (!v4) b4_0 b4_1 b4_2 b4_3 b4_4 b4_5 v2.A v2.B v2.C v2.D b1000_0 r h) (by kernel_rfl)
def Dimpl_checker_right_b (n : Nat) (self : (Int × Sol × (List Pl)) → Option (Bool × Int)) (a : (Int × Sol × (List Pl))) : Option (Bool × Int) :=
  match a with
  | (a0, a1, a2) => (Dimpl_Solid_isLeaf a1).bind fun v0 => frk v0 (some ((a1.pl.A == 0 && (a1.pl.B == 0 && (a1.pl.C == 0 && (a1.pl.D == 0 && true)))), a0)) (frk a1.inn (some (false, w64 (a0 + 1))) (frk ((a1.kids.length : Int) != 2) (some (false, w64 (a0 + 1))) (frk (decide ((w64 (a0 + 1)) > 300)) (some (false, w64 (a0 + 1))) (frk (decide ((a2.length : Int) ≥ 24)) (some (false, w64 (a0 + 1))) ((Dimpl_PlaneOk n a1.pl).bind fun v1 => Dimpl_checker_right_0 n self a2 (!v1) a1.inn a1.pl.A a1.pl.B a1.pl.C a1.pl.D a1.kids (w64 (a0 + 1)))))))
def Dimpl_checker_right (n : Nat) (a0 : Int) (a1 : Sol) (a2 : (List Pl)) : Option (Bool × Int) := loopN (Dimpl_checker_right_b n) n (a0, a1, a2)
theorem Timpl_checker_right_b {Y} (n : Nat) : ∀ (m : Nat) (a : (Int × Sol × (List Pl))) (r : (Bool × Int)), loopN (Dimpl_checker_right_b n) m a = some r → ∀ (_ : Unit), Big Try.prog H Y (.call 56 [.ptr 1000 0, .agg [bl a.2.1.inn, i64 a.2.1.pl.A, i64 a.2.1.pl.B, i64 a.2.1.pl.C, i64 a.2.1.pl.D, .sl false 6 a.2.1.kids.length ((eSol false).f a.2.1.kids)], .sl false 4 a.2.2.length ((ePl).f a.2.2)] (lk [(1000, ⟨true, 0, [i64 a.1]⟩)]) (bl r.1) (lk [(1000, ⟨true, 0, [i64 r.2]⟩)])) := by
  refine loopN_ind (fun self hs a r h => ?_)
  have hself : ∀ (a : (Int × Sol × (List Pl))) (r : (Bool × Int)), self a = some r → Big Try.prog H Y (.call 56 [.ptr 1000 0, .agg [bl a.2.1.inn, i64 a.2.1.pl.A, i64 a.2.1.pl.B, i64 a.2.1.pl.C, i64 a.2.1.pl.D, .sl false 6 a.2.1.kids.length ((eSol false).f a.2.1.kids)], .sl false 4 a.2.2.length ((ePl).f a.2.2)] (lk [(1000, ⟨true, 0, [i64 a.1]⟩)]) (bl r.1) (lk [(1000, ⟨true, 0, [i64 r.2]⟩)])) := fun a r h => hs a r h ()
  intro _
  obtain ⟨a0, a1, a2⟩ := a
  unfold Dimpl_checker_right_b at h
  refine x_call (fn := Try.f56) (c := bodyOf Try.f56) (bs0 := [(1000, ⟨true, 0, [.bad]⟩)]) Try.func56 (by kernel_rfl) (by kernel_rfl) ?_
  obtain ⟨v0, hv0, h⟩ := bind_some h
  refine x_frk 10 [(2, .call [] [] (bl v0) [])] (ocons (Timpl_Solid_isLeaf (Y := Y) a1 [] _ hv0) onil) h (by kernel_rfl) (fun h => ?_) (fun h => ?_)
  · replace h := Option.some.inj h; subst h
    exact x_end 8 [] [] onil onil (by kernel_rfl)
  · refine x_frk 18 [] onil h (by kernel_rfl) (fun h => ?_) (fun h => ?_)
    · replace h := Option.some.inj h; subst h
      exact x_end 29 [] [] onil onil (by kernel_rfl)
    · refine x_frk 6 [] onil h (by kernel_rfl) (fun h => ?_) (fun h => ?_)
      · replace h := Option.some.inj h; subst h
        exact x_end 23 [] [] onil onil (by kernel_rfl)
      · refine x_frk 7 [] onil h (by kernel_rfl) (fun h => ?_) (fun h => ?_)
        · replace h := Option.some.inj h; subst h
          exact x_end 16 [] [] onil onil (by kernel_rfl)
        · refine x_frk 5 [] onil h (by kernel_rfl) (fun h => ?_) (fun h => ?_)
          · replace h := Option.some.inj h; subst h
            exact x_end 11 [] [] onil onil (by kernel_rfl)
          · obtain ⟨v1, hv1, h⟩ := bind_some h
            exact x_to 6 [(2, .call [] [] (bl v1) [])] (ocons (Timpl_PlaneOk (Y := Y) n a1.pl _ hv1) onil) (Timpl_checker_right_0 n self hself a2 (!v1) a1.inn a1.pl.A a1.pl.B a1.pl.C a1.pl.D a1.kids (w64 (a0 + 1)) r h) (by kernel_rfl)
theorem Timpl_checker_right {Y} (n : Nat) (a0 : Int) (a1 : Sol) (a2 : (List Pl)) (r : (Bool × Int)) (h : Dimpl_checker_right n a0 a1 a2 = some r) : Big Try.prog H Y (.call 56 [.ptr 1000 0, .agg [bl a1.inn, i64 a1.pl.A, i64 a1.pl.B, i64 a1.pl.C, i64 a1.pl.D, .sl false 6 a1.kids.length ((eSol false).f a1.kids)], .sl false 4 a2.length ((ePl).f a2)] (lk [(1000, ⟨true, 0, [i64 a0]⟩)]) (bl r.1) (lk [(1000, ⟨true, 0, [i64 r.2]⟩)])) := Timpl_checker_right_b n n (a0, a1, a2) r h ()
/-! impl.SolidOk -/
def Dimpl_SolidOk (n : Nat) (a0 : Sol) : Option Bool :=
  (Dimpl_checker_right n 0 a0 []).bind fun v0 => some v0.1
theorem Timpl_SolidOk {Y} (n : Nat) (a0 : Sol) (r : Bool) (h : Dimpl_SolidOk n a0 = some r) : Big Try.prog H Y (.call 26 [.agg [bl a0.inn, i64 a0.pl.A, i64 a0.pl.B, i64 a0.pl.C, i64 a0.pl.D, .sl false 6 a0.kids.length ((eSol false).f a0.kids)]] (lk []) (bl r) (lk [])) := by
  unfold Dimpl_SolidOk at h
  refine x_call (fn := Try.f26) (c := bodyOf Try.f26) (bs0 := []) Try.func26 (by kernel_rfl) (by kernel_rfl) ?_
  obtain ⟨v0, hv0, h⟩ := bind_some h
  replace h := Option.some.inj h; subst h
  exact x_end 15 [(4, .call [(false, 4)] [] (bl v0.1) [(1000, ⟨true, 0, [i64 v0.2]⟩)])] [] (ocons (Timpl_checker_right (Y := Y) n 0 a0 [] _ hv0) onil) onil (by kernel_rfl)
/-! impl.Leaf -/
def Dimpl_Leaf (a0 : Bool) : Option Sol :=
  some (Sol.mk a0 (Pl.mk 0 0 0 0) [])
theorem Timpl_Leaf {Y} (a0 : Bool) (r : Sol) (h : Dimpl_Leaf a0 = some r) : Big Try.prog H Y (.call 27 [bl a0] (lk []) (.agg [bl r.inn, i64 r.pl.A, i64 r.pl.B, i64 r.pl.C, i64 r.pl.D, .sl true 6 r.kids.length ((eSol true).f r.kids)]) (lk [])) := by
  unfold Dimpl_Leaf at h
  refine x_call (fn := Try.f27) (c := bodyOf Try.f27) (bs0 := []) Try.func27 (by kernel_rfl) (by kernel_rfl) ?_
  replace h := Option.some.inj h; subst h
  exact x_end 10 [] [(true, 6)] onil onil (by kernel_rfl)
/-! impl.Plane] -/
def Dslices_Clone (a0 : (List Pl)) : Option (List Pl) :=
  chk (apB 32 (0 + a0.length)) (some ([] ++ a0))
theorem Tslices_Clone {Y} (a0 : (List Pl)) (r : (List Pl)) (h : Dslices_Clone a0 = some r) : Big Try.prog H Y (.call 58 [.sl false 4 a0.length ((ePl).f a0)] (lk []) (.sl true 4 r.length ((ePl).f r)) (lk [])) := by
  unfold Dslices_Clone at h
  refine x_clone (fn := Try.f58) (c := bodyOf Try.f58) 0 3 4 (lq := ⟨[(2, .nil), (0, .sl false 4 a0.length ((ePl).f a0))], []⟩) (z := 4) (ct := a0.length) (cs := (ePl).f a0) Try.func58 (by kernel_rfl) (by kernel_rfl) (x_at 3 (by kernel_rfl)) (fun b hb => ?_)
  cases b
  · obtain ⟨c0, h⟩ := chk_some h
    replace h := Option.some.inj h; subst h
    exact x_end 9 [(2, .app false (List.length ([] ++ a0)) ((ePl).f ([] ++ a0)))] [] (ocons (len_row' (L := []) ePl) (ocons (app_one (L := []) (M := a0) ePl c0) (ocons (app_new (L := []) (M := a0) ePl) (ocons (app_m (L := []) (M := a0) ePl rfl) (ocons (len_row' (L := a0) ePl) onil))))) (ocons (len_row (L := ([] ++ a0)) ePl) onil) (by kernel_rfl)
  · have h0 : a0 = [] := List.eq_nil_of_length_eq_zero (hb rfl)
    subst h0
    replace h : some [] = some r := h
    replace h := Option.some.inj h; subst h
    exact x_end 5 [] [(true, 4)] onil onil (by kernel_rfl)
/-! impl.Solid).cells -/
def Dimpl_Solid_cells_b (_n : Nat) (self : (Sol × Bool × (List Pl)) → Option (List (List Pl))) (a : (Sol × Bool × (List Pl))) : Option (List (List Pl)) :=
  match a with
  | (a0, a1, a2) => (Dimpl_Solid_isLeaf a0).bind fun v0 => frk v0 (frk (a0.inn == a1) ((Dslices_Clone a2).bind fun v1 => some [v1]) (some [])) ((lget a0.kids 0).bind fun v2 => (Dimpl_with a2 a0.pl).bind fun v3 => (self (v2, a1, v3)).bind fun v4 => (lget a0.kids 1).bind fun v5 => (Dimpl_flip a0.pl).bind fun v6 => (Dimpl_with a2 v6).bind fun v7 => (self (v5, a1, v7)).bind fun v8 => chk (apB 24 (v4.length + v8.length)) (some (v4 ++ v8)))
def Dimpl_Solid_cells (n : Nat) (a0 : Sol) (a1 : Bool) (a2 : (List Pl)) : Option (List (List Pl)) := loopN (Dimpl_Solid_cells_b n) n (a0, a1, a2)
theorem Timpl_Solid_cells_b {Y} (n : Nat) : ∀ (m : Nat) (a : (Sol × Bool × (List Pl))) (r : (List (List Pl))), loopN (Dimpl_Solid_cells_b n) m a = some r → ∀ (q0 : List AV), Big Try.prog H Y (.call 28 [.cptr ([bl a.1.inn, i64 a.1.pl.A, i64 a.1.pl.B, i64 a.1.pl.C, i64 a.1.pl.D, .sl false 6 a.1.kids.length ((eSol false).f a.1.kids)] ++ q0), bl a.2.1, .sl false 4 a.2.2.length ((ePl).f a.2.2)] (lk []) (.sl true 1 r.length ((ePls true).f r)) (lk [])) := by
  refine loopN_ind (fun self hs a r h => ?_)
  have hself : ∀ (a : (Sol × Bool × (List Pl))) (q0 : List AV) (r : (List (List Pl))), self a = some r → Big Try.prog H Y (.call 28 [.cptr ([bl a.1.inn, i64 a.1.pl.A, i64 a.1.pl.B, i64 a.1.pl.C, i64 a.1.pl.D, .sl false 6 a.1.kids.length ((eSol false).f a.1.kids)] ++ q0), bl a.2.1, .sl false 4 a.2.2.length ((ePl).f a.2.2)] (lk []) (.sl true 1 r.length ((ePls true).f r)) (lk [])) := fun a q0 r h => hs a r h q0
  intro q0
  obtain ⟨a0, a1, a2⟩ := a
  unfold Dimpl_Solid_cells_b at h
  refine x_call (fn := Try.f28) (c := bodyOf Try.f28) (bs0 := []) Try.func28 (by kernel_rfl) (by kernel_rfl) ?_
  obtain ⟨v0, hv0, h⟩ := bind_some h
  refine x_frk 10 [(2, .call [] [] (bl v0) [])] (ocons (Timpl_Solid_isLeaf (Y := Y) a0 q0 _ hv0) onil) h (by kernel_rfl) (fun h => ?_) (fun h => ?_)
  · refine x_frk 10 [] onil h (by kernel_rfl) (fun h => ?_) (fun h => ?_)
    · obtain ⟨v1, hv1, h⟩ := bind_some h
      replace h := Option.some.inj h; subst h
      exact x_end 7 [(1, .call [] [] (.sl true 4 v1.length ((ePl).f v1)) [])] [] (ocons (Tslices_Clone (Y := Y) a2 _ hv1) (ocons (len_row (L := v1) ePl) onil)) (ocons (len_row (L := [v1]) (ePls true)) onil) (by kernel_rfl)
    · replace h := Option.some.inj h; subst h
      exact x_end 5 [] [(true, 1)] onil onil (by kernel_rfl)
  · obtain ⟨v2, hv2, h⟩ := bind_some h
    obtain ⟨v3, hv3, h⟩ := bind_some h
    obtain ⟨v4, hv4, h⟩ := bind_some h
    obtain ⟨v5, hv5, h⟩ := bind_some h
    obtain ⟨v6, hv6, h⟩ := bind_some h
    obtain ⟨v7, hv7, h⟩ := bind_some h
    obtain ⟨v8, hv8, h⟩ := bind_some h
    obtain ⟨c9, h⟩ := chk_some h
    replace h := Option.some.inj h; subst h
    exact x_end 38 [(4, .val (.cptr ((eSol false).c v2 ++ (eSol false).f ((a0.kids).drop (Int.toNat 0 + 1))))), (6, .call [] [] (.sl false 4 v3.length ((ePl).f v3)) []), (0, .call [] [] (.sl true 1 v4.length ((ePls true).f v4)) []), (6, .val (.cptr ((eSol false).c v5 ++ (eSol false).f ((a0.kids).drop (Int.toNat 1 + 1))))), (6, .call [] [] (.agg [i64 v6.A, i64 v6.B, i64 v6.C, i64 v6.D]) []), (0, .call [] [] (.sl false 4 v7.length ((ePl).f v7)) []), (0, .call [] [] (.sl true 1 v8.length ((ePls true).f v8)) []), (0, .app true (List.length (v4 ++ v8)) ((ePls true).f (v4 ++ v8)))] [] (ocons (ix (eSol false) hv2) (ocons (shSl (L := v3) ePl ePl sPl (Timpl_with (Y := Y) a2 a0.pl _ hv3)) (ocons (hself (v2, a1, v3) ((eSol false).f ((a0.kids).drop (Int.toNat 0 + 1))) _ hv4) (ocons (ix (eSol false) hv5) (ocons (Timpl_flip (Y := Y) a0.pl _ hv6) (ocons (shSl (L := v7) ePl ePl sPl (Timpl_with (Y := Y) a2 v6 _ hv7)) (ocons (hself (v5, a1, v7) ((eSol false).f ((a0.kids).drop (Int.toNat 1 + 1))) _ hv8) (ocons (len_row' (L := v4) (ePls true)) (ocons (app_one (L := v4) (M := v8) (ePls true) c9) (ocons (app_new (L := v4) (M := v8) (ePls true)) (ocons (app_m (L := v4) (M := v8) (ePls true) rfl) (ocons (len_row' (L := v8) (ePls true)) onil)))))))))))) (ocons (len_row (L := (v4 ++ v8)) (ePls true)) onil) (by kernel_rfl)
theorem Timpl_Solid_cells {Y} (n : Nat) (a0 : Sol) (a1 : Bool) (a2 : (List Pl)) (q0 : List AV) (r : (List (List Pl))) (h : Dimpl_Solid_cells n a0 a1 a2 = some r) : Big Try.prog H Y (.call 28 [.cptr ([bl a0.inn, i64 a0.pl.A, i64 a0.pl.B, i64 a0.pl.C, i64 a0.pl.D, .sl false 6 a0.kids.length ((eSol false).f a0.kids)] ++ q0), bl a1, .sl false 4 a2.length ((ePl).f a2)] (lk []) (.sl true 1 r.length ((ePls true).f r)) (lk [])) := Timpl_Solid_cells_b n n (a0, a1, a2) r h q0
/-! impl.node -/
def Dimpl_nodeo1o2 (a0 : Pl) (a1 : Sol) (a2 : Sol) : Option Sol :=
  some (Sol.mk false a0 [a1, a2])
theorem Timpl_nodeo1o2 {Y} (a0 : Pl) (a1 : Sol) (a2 : Sol) (r : Sol) (h : Dimpl_nodeo1o2 a0 a1 a2 = some r) : Big Try.prog H Y (.call 63 [.agg [i64 a0.A, i64 a0.B, i64 a0.C, i64 a0.D], .agg [bl a1.inn, i64 a1.pl.A, i64 a1.pl.B, i64 a1.pl.C, i64 a1.pl.D, .sl true 6 a1.kids.length ((eSol true).f a1.kids)], .agg [bl a2.inn, i64 a2.pl.A, i64 a2.pl.B, i64 a2.pl.C, i64 a2.pl.D, .sl true 6 a2.kids.length ((eSol true).f a2.kids)]] (lk []) (.agg [bl r.inn, i64 r.pl.A, i64 r.pl.B, i64 r.pl.C, i64 r.pl.D, .sl true 6 r.kids.length ((eSol true).f r.kids)]) (lk [])) := by
  unfold Dimpl_nodeo1o2 at h
  refine x_call (fn := Try.f63) (c := bodyOf Try.f63) (bs0 := []) Try.func63 (by kernel_rfl) (by kernel_rfl) ?_
  replace h := Option.some.inj h; subst h
  exact x_end 17 [(8, .fixb 10 ⟨true, 6, (eSol true).f [a1, a2]⟩)] [] (ocons (boxSol true true [a1, a2]) onil) (ocons (len_row (L := [a1, a2]) (eSol true)) onil) (by kernel_rfl)
/-! impl.convex -/
def Dimpl_convex_1 (_n : Nat) (_b2_0 : Bool) (_b2_1 _b2_2 _b2_3 _b2_4 : Int) (l503 : List Pl) (rec1 : (Int × Bool × Int × Int × Int × Int × List Sol) → Option Sol) (a : (Int × Bool × Int × Int × Int × Int × List Sol)) : Option Sol :=
  match a with
  | (t7, b6_0, b6_1, b6_2, b6_3, b6_4, b6_5) => frk (decide (t7 ≥ 0)) ((lget l503 t7).bind fun v5 => (Dimpl_Leaf false).bind fun v6 => (Dimpl_nodeo1o2 v5 (Sol.mk b6_0 (Pl.mk b6_1 b6_2 b6_3 b6_4) b6_5) v6).bind fun v7 => rec1 (w64 (t7 - 1), v7.inn, v7.pl.A, v7.pl.B, v7.pl.C, v7.pl.D, v7.kids)) (some (Sol.mk b6_0 (Pl.mk b6_1 b6_2 b6_3 b6_4) b6_5))
theorem Timpl_convex_1 {Y} (n : Nat) (b2_0 : Bool) (b2_1 b2_2 b2_3 b2_4 : Int) (l503 : List Pl) : ∀ (m : Nat) (a : (Int × Bool × Int × Int × Int × Int × List Sol)) (r : Sol), loopN (Dimpl_convex_1 n b2_0 b2_1 b2_2 b2_3 b2_4 l503) m a = some r → Wk Try.prog H Y 30 [.code (cp [1, 1, 1, 1, 0, 1, 0] (bodyOf Try.f30)), .blk 2, .code (cp [1, 1, 1, 1, 1] (bodyOf Try.f30))] (FinX Try.prog Try.f30 [] (.agg [bl r.inn, i64 r.pl.A, i64 r.pl.B, i64 r.pl.C, i64 r.pl.D, .sl true 6 r.kids.length ((eSol true).f r.kids)]) []) ⟨[(2, .ptr 2 0), (3, .msl 503 l503.length), (6, .ptr 6 0), (7, i64 a.1)], [(2, ⟨true, 0, [bl b2_0, i64 b2_1, i64 b2_2, i64 b2_3, i64 b2_4, .nil]⟩), (6, ⟨true, 0, [bl a.2.1, i64 a.2.2.1, i64 a.2.2.2.1, i64 a.2.2.2.2.1, i64 a.2.2.2.2.2.1, .sl true 6 a.2.2.2.2.2.2.length ((eSol true).f a.2.2.2.2.2.2)]⟩), (503, ⟨true, 4, (ePl).f l503⟩)]⟩ := by
  refine loopN_ind (fun _rec1 hrec1 a r h => ?_)
  obtain ⟨t7, b6_0, b6_1, b6_2, b6_3, b6_4, b6_5⟩ := a
  unfold Dimpl_convex_1 at h
  refine x_frk 7 [] onil h (by kernel_rfl) (fun h => ?_) (fun h => ?_)
  · obtain ⟨v5, hv5, h⟩ := bind_some h
    obtain ⟨v6, hv6, h⟩ := bind_some h
    obtain ⟨v7, hv7, h⟩ := bind_some h
    exact x_to 20 [(2, .unit), (0, .cells [i64 v5.A, i64 v5.B, i64 v5.C, i64 v5.D]), (1, .call [] [] (.agg [bl v6.inn, i64 v6.pl.A, i64 v6.pl.B, i64 v6.pl.C, i64 v6.pl.D, .sl true 6 v6.kids.length ((eSol true).f v6.kids)]) []), (0, .call [] [] (.agg [bl v7.inn, i64 v7.pl.A, i64 v7.pl.B, i64 v7.pl.C, i64 v7.pl.D, .sl true 6 v7.kids.length ((eSol true).f v7.kids)]) [])] (ocons (inr hv5) (ocons (ldA ePl hv5 0 4 rfl rfl) (ocons (Timpl_Leaf (Y := Y) false _ hv6) (ocons (Timpl_nodeo1o2 (Y := Y) v5 (Sol.mk b6_0 (Pl.mk b6_1 b6_2 b6_3 b6_4) b6_5) v6 _ hv7) onil)))) (hrec1 (w64 (t7 - 1), v7.inn, v7.pl.A, v7.pl.B, v7.pl.C, v7.pl.D, v7.kids) r h) (by kernel_rfl)
  · replace h := Option.some.inj h; subst h
    exact x_end 6 [] [] onil onil (by kernel_rfl)
def Dimpl_convex_0 (n : Nat) (b2_0 : Bool) (b2_1 b2_2 b2_3 b2_4 : Int) (l503 : List Pl) : Option Sol :=
  (Dimpl_Leaf true).bind fun v4 => loopN (Dimpl_convex_1 n b2_0 b2_1 b2_2 b2_3 b2_4 l503) n (w64 ((l503.length : Int) - 1), v4.inn, v4.pl.A, v4.pl.B, v4.pl.C, v4.pl.D, v4.kids)
theorem Timpl_convex_0 {Y} (n : Nat) (b2_0 : Bool) (b2_1 b2_2 b2_3 b2_4 : Int) (l503 : List Pl) (r : Sol) (h : Dimpl_convex_0 n b2_0 b2_1 b2_2 b2_3 b2_4 l503 = some r) : Wk Try.prog H Y 30 [.code (cp [1, 1, 1, 0] (bodyOf Try.f30)), .code (cp [1, 1, 1, 1] (bodyOf Try.f30))] (FinX Try.prog Try.f30 [] (.agg [bl r.inn, i64 r.pl.A, i64 r.pl.B, i64 r.pl.C, i64 r.pl.D, .sl true 6 r.kids.length ((eSol true).f r.kids)]) []) ⟨[(2, .ptr 2 0), (3, .msl 503 l503.length)], [(2, ⟨true, 0, [bl b2_0, i64 b2_1, i64 b2_2, i64 b2_3, i64 b2_4, .nil]⟩), (503, ⟨true, 4, (ePl).f l503⟩)]⟩ := by
  unfold Dimpl_convex_0 at h
  obtain ⟨v4, hv4, h⟩ := bind_some h
  exact x_to 14 [(0, .call [] [] (.agg [bl v4.inn, i64 v4.pl.A, i64 v4.pl.B, i64 v4.pl.C, i64 v4.pl.D, .sl true 6 v4.kids.length ((eSol true).f v4.kids)]) [])] (ocons (Timpl_Leaf (Y := Y) true _ hv4) onil) (Timpl_convex_1 n b2_0 b2_1 b2_2 b2_3 b2_4 l503 n (w64 ((l503.length : Int) - 1), v4.inn, v4.pl.A, v4.pl.B, v4.pl.C, v4.pl.D, v4.kids) r h) (by kernel_rfl)
def Dimpl_convex_2 (n : Nat) (t8 : List Pl) (t9 : Int) (b2_0 : Bool) (b2_1 b2_2 b2_3 b2_4 : Int) (rec0 : (Int × List Pl) → Option Sol) (a : (Int × List Pl)) : Option Sol :=
  match a with
  | (t10, l503) => frk (decide (t10 < t9)) ((lget t8 t10).bind fun v0 => (Dimpl_flip v0).bind fun v1 => (Dimpl_room n l503 v1).bind fun v2 => frk v2 (chk (apB 32 (l503.length + 1)) (rec0 (w64 (t10 + 1), (l503 ++ [v0])))) (rec0 (w64 (t10 + 1), l503))) (Dimpl_convex_0 n b2_0 b2_1 b2_2 b2_3 b2_4 l503)
theorem Timpl_convex_2 {Y} (n : Nat) (t8 : List Pl) (t9 : Int) (b2_0 : Bool) (b2_1 b2_2 b2_3 b2_4 : Int) : ∀ (m : Nat) (a : (Int × List Pl)) (r : Sol), loopN (Dimpl_convex_2 n t8 t9 b2_0 b2_1 b2_2 b2_3 b2_4) m a = some r → Wk Try.prog H Y 30 [.code (cp [1, 1, 0, 1, 0] (bodyOf Try.f30)), .blk 0, .code (cp [1, 1, 1] (bodyOf Try.f30))] (FinX Try.prog Try.f30 [] (.agg [bl r.inn, i64 r.pl.A, i64 r.pl.B, i64 r.pl.C, i64 r.pl.D, .sl true 6 r.kids.length ((eSol true).f r.kids)]) []) ⟨[(2, .ptr 2 0), (3, .msl 503 a.2.length), (8, .sl false 4 t8.length ((ePl).f t8)), (9, i64 t9), (10, i64 a.1)], [(2, ⟨true, 0, [bl b2_0, i64 b2_1, i64 b2_2, i64 b2_3, i64 b2_4, .nil]⟩), (503, ⟨true, 4, (ePl).f a.2⟩)]⟩ := by
  refine loopN_ind (fun _rec0 hrec0 a r h => ?_)
  obtain ⟨t10, l503⟩ := a
  unfold Dimpl_convex_2 at h
  refine x_frk 6 [] onil h (by kernel_rfl) (fun h => ?_) (fun h => ?_)
  · obtain ⟨v0, hv0, h⟩ := bind_some h
    obtain ⟨v1, hv1, h⟩ := bind_some h
    obtain ⟨v2, hv2, h⟩ := bind_some h
    refine x_frk 17 [(0, .val (.cptr (ePl.c v0 ++ (ePl).f ((t8).drop (Int.toNat t10 + 1))))), (5, .call [] [] (.agg [i64 v1.A, i64 v1.B, i64 v1.C, i64 v1.D]) []), (0, .call [] [(ePl).f l503] (bl v2) [])] (ocons (ix ePl hv0) (ocons (Timpl_flip (Y := Y) v0 _ hv1) (ocons (Timpl_room (Y := Y) n l503 v1 _ hv2) (ocons (len_row (L := l503) ePl) (ocons (Enc.share ePl ePl sPl l503) onil))))) h (by kernel_rfl) (fun h => ?_) (fun h => ?_)
    · obtain ⟨c3, h⟩ := chk_some h
      exact x_to 14 [(3, .app false (List.length (l503 ++ [v0])) ((ePl).f (l503 ++ [v0]))), (3, .ren 21 503)] (ocons (len_row' (L := l503) ePl) (ocons (app_one (L := l503) (M := [v0]) ePl c3) (ocons (app_new (L := l503) (M := [v0]) ePl) (ocons (app_m (L := l503) (M := [v0]) ePl rfl) (ocons (len_row' (L := [v0]) ePl) (ocons (Enc.noOwn ePl (fun _ => rfl) [v0]) (ocons (show 21 < 1000 ∧ 503 < 1000 by decide) onil))))))) (hrec0 (w64 (t10 + 1), (l503 ++ [v0])) r h) (by kernel_rfl)
    · exact x_to 7 [] onil (hrec0 (w64 (t10 + 1), l503) r h) (by kernel_rfl)
  · exact x_to 2 [] onil (Timpl_convex_0 n b2_0 b2_1 b2_2 b2_3 b2_4 l503 r h) (by kernel_rfl)
def Dimpl_convex (n : Nat) (a0 : (List Pl)) : Option Sol :=
  loopN (Dimpl_convex_2 n a0 (a0.length : Int) false 0 0 0 0) n (0, [])
theorem Timpl_convex {Y} (n : Nat) (a0 : (List Pl)) (r : Sol) (h : Dimpl_convex n a0 = some r) : Big Try.prog H Y (.call 30 [.sl false 4 a0.length ((ePl).f a0)] (lk []) (.agg [bl r.inn, i64 r.pl.A, i64 r.pl.B, i64 r.pl.C, i64 r.pl.D, .sl true 6 r.kids.length ((eSol true).f r.kids)]) (lk [])) := by
  unfold Dimpl_convex at h
  refine x_call (fn := Try.f30) (c := bodyOf Try.f30) (bs0 := []) Try.func30 (by kernel_rfl) (by kernel_rfl) ?_
  exact x_to 17 [(2, .virt 3 503 4)] (ocons (rflV .nil) (ocons (show 503 < 1000 ∧ 4 ≠ 0 by decide) onil)) (Timpl_convex_2 n a0 (a0.length : Int) false 0 0 0 0 n (0, []) r h) (by kernel_rfl)
/-! impl.merger).leaf -/
def Dimpl_merger_leaf (a0 : (Int × Int × Bool)) (a1 a2 : Bool) : Option (Sol × (Int × Int × Bool)) :=
  frk (a0.1 == 1) (frk a1 ((Dimpl_Leaf a2).bind fun v0 => some (v0, a0)) ((Dimpl_Leaf false).bind fun v1 => some (v1, a0))) (frk (a0.1 == 2) (frk a1 ((Dimpl_Leaf true).bind fun v2 => some (v2, a0)) ((Dimpl_Leaf a2).bind fun v3 => some (v3, a0))) (frk (a0.1 == 3) (frk a1 ((Dimpl_Leaf (!a2)).bind fun v4 => some (v4, a0)) ((Dimpl_Leaf false).bind fun v5 => some (v5, a0))) ((Dimpl_Leaf (!(a1 == a2))).bind fun v6 => some (v6, a0))))
theorem Timpl_merger_leaf {Y} (a0 : (Int × Int × Bool)) (a1 a2 : Bool) (r : (Sol × (Int × Int × Bool))) (h : Dimpl_merger_leaf a0 a1 a2 = some r) : Big Try.prog H Y (.call 108 [.ptr 1000 0, bl a1, bl a2] (lk [(1000, ⟨true, 0, [i64 a0.1, i64 a0.2.1, bl a0.2.2]⟩)]) (.agg [bl r.1.inn, i64 r.1.pl.A, i64 r.1.pl.B, i64 r.1.pl.C, i64 r.1.pl.D, .sl true 6 r.1.kids.length ((eSol true).f r.1.kids)]) (lk [(1000, ⟨true, 0, [i64 r.2.1, i64 r.2.2.1, bl r.2.2.2]⟩)])) := by
  unfold Dimpl_merger_leaf at h
  refine x_call (fn := Try.f108) (c := bodyOf Try.f108) (bs0 := [(1000, ⟨true, 0, [.bad, .bad, .bad]⟩)]) Try.func108 (by kernel_rfl) (by kernel_rfl) ?_
  refine x_frk 18 [] onil h (by kernel_rfl) (fun h => ?_) (fun h => ?_)
  · refine x_frk 4 [] onil h (by kernel_rfl) (fun h => ?_) (fun h => ?_)
    · obtain ⟨v0, hv0, h⟩ := bind_some h
      replace h := Option.some.inj h; subst h
      exact x_end 5 [(2, .call [] [] (.agg [bl v0.inn, i64 v0.pl.A, i64 v0.pl.B, i64 v0.pl.C, i64 v0.pl.D, .sl true 6 v0.kids.length ((eSol true).f v0.kids)]) [])] [] (ocons (Timpl_Leaf (Y := Y) a2 _ hv0) onil) onil (by kernel_rfl)
    · obtain ⟨v1, hv1, h⟩ := bind_some h
      replace h := Option.some.inj h; subst h
      exact x_end 5 [(2, .call [] [] (.agg [bl v1.inn, i64 v1.pl.A, i64 v1.pl.B, i64 v1.pl.C, i64 v1.pl.D, .sl true 6 v1.kids.length ((eSol true).f v1.kids)]) [])] [] (ocons (Timpl_Leaf (Y := Y) false _ hv1) onil) onil (by kernel_rfl)
  · refine x_frk 5 [] onil h (by kernel_rfl) (fun h => ?_) (fun h => ?_)
    · refine x_frk 4 [] onil h (by kernel_rfl) (fun h => ?_) (fun h => ?_)
      · obtain ⟨v2, hv2, h⟩ := bind_some h
        replace h := Option.some.inj h; subst h
        exact x_end 5 [(2, .call [] [] (.agg [bl v2.inn, i64 v2.pl.A, i64 v2.pl.B, i64 v2.pl.C, i64 v2.pl.D, .sl true 6 v2.kids.length ((eSol true).f v2.kids)]) [])] [] (ocons (Timpl_Leaf (Y := Y) true _ hv2) onil) onil (by kernel_rfl)
      · obtain ⟨v3, hv3, h⟩ := bind_some h
        replace h := Option.some.inj h; subst h
        exact x_end 5 [(2, .call [] [] (.agg [bl v3.inn, i64 v3.pl.A, i64 v3.pl.B, i64 v3.pl.C, i64 v3.pl.D, .sl true 6 v3.kids.length ((eSol true).f v3.kids)]) [])] [] (ocons (Timpl_Leaf (Y := Y) a2 _ hv3) onil) onil (by kernel_rfl)
    · refine x_frk 5 [] onil h (by kernel_rfl) (fun h => ?_) (fun h => ?_)
      · refine x_frk 4 [] onil h (by kernel_rfl) (fun h => ?_) (fun h => ?_)
        · obtain ⟨v4, hv4, h⟩ := bind_some h
          replace h := Option.some.inj h; subst h
          exact x_end 6 [(3, .call [] [] (.agg [bl v4.inn, i64 v4.pl.A, i64 v4.pl.B, i64 v4.pl.C, i64 v4.pl.D, .sl true 6 v4.kids.length ((eSol true).f v4.kids)]) [])] [] (ocons (Timpl_Leaf (Y := Y) (!a2) _ hv4) onil) onil (by kernel_rfl)
        · obtain ⟨v5, hv5, h⟩ := bind_some h
          replace h := Option.some.inj h; subst h
          exact x_end 6 [(3, .call [] [] (.agg [bl v5.inn, i64 v5.pl.A, i64 v5.pl.B, i64 v5.pl.C, i64 v5.pl.D, .sl true 6 v5.kids.length ((eSol true).f v5.kids)]) [])] [] (ocons (Timpl_Leaf (Y := Y) false _ hv5) onil) onil (by kernel_rfl)
      · obtain ⟨v6, hv6, h⟩ := bind_some h
        replace h := Option.some.inj h; subst h
        exact x_end 10 [(3, .call [] [] (.agg [bl v6.inn, i64 v6.pl.A, i64 v6.pl.B, i64 v6.pl.C, i64 v6.pl.D, .sl true 6 v6.kids.length ((eSol true).f v6.kids)]) [])] [] (ocons (Timpl_Leaf (Y := Y) (!(a1 == a2)) _ hv6) onil) onil (by kernel_rfl)
end Evl.T
