/- Walks. No condition. -/
import Derived.Test.YtgaenniknmphcaaJd
import Derived.Test.YtgaenniknmphcaaWs
import Derived.Test.YtgaenniknmphcaaChecked
namespace Evl.T
open Go Evl Go.Proofs
set_option maxRecDepth 100000
def HF : FuncId → Bool := fun f => [].contains f
def HB : Hints := { mv := hasP [(36, 47), (59, 41)], own := hasP [(60, 1), (76, 0)], mt := hasP [(54, 0)], eqt := fun t => [31, 121].contains t }
def H : Hints := withMarks HB Try.prog HF fun _ _ => True
/-! laws.szSolidS -/
def Dlaws_szSolidS_in_0 (_n : Nat) (self : (Sol × Int) → Option Int) (t0 : List Sol) (rec0 : (Int × Int) → Option Int) (a : (Int × Int)) : Option Int :=
  match a with
  | (t1, t5) => frk (decide (t5 < (t0.length : Int))) ((lget t0 t5).bind fun v0 => (self (v0, t1)).bind fun v1 => frk (decide (v1 < 0)) (some (-1)) (rec0 (v1, w64 (t5 + 1)))) (some t1)
theorem Tlaws_szSolidS_in_0 {Y} (n : Nat) (self : (Sol × Int) → Option Int) (hself : ∀ (a : (Sol × Int)) (r : Int), self a = some r → Big Try.prog H Y (.call 6 [.agg [bl a.1.inn, i64 a.1.pl.A, i64 a.1.pl.B, i64 a.1.pl.C, i64 a.1.pl.D, .sl false 6 a.1.kids.length ((eSol false).f a.1.kids)], i64 a.2] (lk []) (i64 r) (lk []))) (t0 : List Sol) : ∀ (m : Nat) (a : (Int × Int)) (r : Int), loopN (Dlaws_szSolidS_in_0 n self t0) m a = some r → Wk Try.prog H Y 19 [.code (cp [1, 1, 1, 0, 1, 0] (bodyOf Try.f19)), .blk 0, .code (cp [1, 1, 1, 1] (bodyOf Try.f19))] (FinX Try.prog Try.f19 [] (i64 r) []) ⟨[(0, .sl false 6 t0.length ((eSol false).f t0)), (1, i64 a.1), (5, i64 a.2)], []⟩ := by
  refine loopN_ind (fun _rec0 hrec0 a r h => ?_)
  obtain ⟨t1, t5⟩ := a
  unfold Dlaws_szSolidS_in_0 at h
  refine x_frk 9 [] onil h (by kernel_rfl) (fun h => ?_) (fun h => ?_)
  · obtain ⟨v0, hv0, h⟩ := bind_some h
    obtain ⟨v1, hv1, h⟩ := bind_some h
    refine x_frk 18 [(2, .val (.cptr ((eSol false).c v0 ++ (eSol false).f ((t0).drop (Int.toNat t5 + 1))))), (2, .call [] [] (i64 v1) [])] (ocons (ix (eSol false) hv0) (ocons (hself (v0, t1) _ hv1) onil)) h (by kernel_rfl) (fun h => ?_) (fun h => ?_)
    · replace h := Option.some.inj h; subst h
      exact x_end 4 [] [] onil onil (by kernel_rfl)
    · exact x_to 8 [] onil (hrec0 (v1, w64 (t5 + 1)) r h) (by kernel_rfl)
  · replace h := Option.some.inj h; subst h
    exact x_end 6 [] [] onil onil (by kernel_rfl)
def Dlaws_szSolidS_in (n : Nat) (self : (Sol × Int) → Option Int) (a0 : (List Sol)) (a1 : Int) : Option Int :=
  frk (decide ((w64 (a1 - (a0.length : Int))) < 0)) (some (-1)) (loopN (Dlaws_szSolidS_in_0 n self a0) n (w64 (a1 - (a0.length : Int)), 0))
theorem Tlaws_szSolidS_in {Y} (n : Nat) (self : (Sol × Int) → Option Int) (hself : ∀ (a : (Sol × Int)) (r : Int), self a = some r → Big Try.prog H Y (.call 6 [.agg [bl a.1.inn, i64 a.1.pl.A, i64 a.1.pl.B, i64 a.1.pl.C, i64 a.1.pl.D, .sl false 6 a.1.kids.length ((eSol false).f a.1.kids)], i64 a.2] (lk []) (i64 r) (lk []))) (a0 : (List Sol)) (a1 r : Int) (h : Dlaws_szSolidS_in n self a0 a1 = some r) : Big Try.prog H Y (.call 19 [.sl false 6 a0.length ((eSol false).f a0), i64 a1] (lk []) (i64 r) (lk [])) := by
  unfold Dlaws_szSolidS_in at h
  refine x_call (fn := Try.f19) (c := bodyOf Try.f19) (bs0 := []) Try.func19 (by kernel_rfl) (by kernel_rfl) ?_
  refine x_frk 18 [] onil h (by kernel_rfl) (fun h => ?_) (fun h => ?_)
  · replace h := Option.some.inj h; subst h
    exact x_end 4 [] [] onil onil (by kernel_rfl)
  · exact x_to 7 [] onil (Tlaws_szSolidS_in_0 n self hself a0 n (w64 (a1 - (a0.length : Int)), 0) r h) (by kernel_rfl)
/-! laws.szSolid -/
def Dlaws_szSolid_b (n : Nat) (self : (Sol × Int) → Option Int) (a : (Sol × Int)) : Option Int :=
  match a with
  | (a0, a1) => (Dlaws_szSolidS_in n self a0.kids a1).bind fun v0 => frk (decide (v0 < 0)) (some (-1)) (some v0)
def Dlaws_szSolid (n : Nat) (a0 : Sol) (a1 : Int) : Option Int := loopN (Dlaws_szSolid_b n) n (a0, a1)
theorem Tlaws_szSolid_b {Y} (n : Nat) : ∀ (m : Nat) (a : (Sol × Int)) (r : Int), loopN (Dlaws_szSolid_b n) m a = some r → ∀ (_ : Unit), Big Try.prog H Y (.call 6 [.agg [bl a.1.inn, i64 a.1.pl.A, i64 a.1.pl.B, i64 a.1.pl.C, i64 a.1.pl.D, .sl false 6 a.1.kids.length ((eSol false).f a.1.kids)], i64 a.2] (lk []) (i64 r) (lk [])) := by
  refine loopN_ind (fun self hs a r h => ?_)
  have hself : ∀ (a : (Sol × Int)) (r : Int), self a = some r → Big Try.prog H Y (.call 6 [.agg [bl a.1.inn, i64 a.1.pl.A, i64 a.1.pl.B, i64 a.1.pl.C, i64 a.1.pl.D, .sl false 6 a.1.kids.length ((eSol false).f a.1.kids)], i64 a.2] (lk []) (i64 r) (lk [])) := fun a r h => hs a r h ()
  intro _
  obtain ⟨a0, a1⟩ := a
  unfold Dlaws_szSolid_b at h
  refine x_call (fn := Try.f6) (c := bodyOf Try.f6) (bs0 := []) Try.func6 (by kernel_rfl) (by kernel_rfl) ?_
  obtain ⟨v0, hv0, h⟩ := bind_some h
  refine x_frk 19 [(5, .call [] [] (i64 v0) [])] (ocons (Tlaws_szSolidS_in (Y := Y) n self hself a0.kids a1 _ hv0) onil) h (by kernel_rfl) (fun h => ?_) (fun h => ?_)
  · replace h := Option.some.inj h; subst h
    exact x_end 4 [] [] onil onil (by kernel_rfl)
  · replace h := Option.some.inj h; subst h
    exact x_end 6 [] [] onil onil (by kernel_rfl)
theorem Tlaws_szSolid {Y} (n : Nat) (a0 : Sol) (a1 r : Int) (h : Dlaws_szSolid n a0 a1 = some r) : Big Try.prog H Y (.call 6 [.agg [bl a0.inn, i64 a0.pl.A, i64 a0.pl.B, i64 a0.pl.C, i64 a0.pl.D, .sl false 6 a0.kids.length ((eSol false).f a0.kids)], i64 a1] (lk []) (i64 r) (lk [])) := Tlaws_szSolid_b n n (a0, a1) r h ()
/-! laws.toPlane -/
def Dlaws_toPlane (a0 : Pl) : Option Pl :=
  some a0
theorem Tlaws_toPlane {Y} (a0 : Pl) (r : Pl) (h : Dlaws_toPlane a0 = some r) : Big Try.prog H Y (.call 24 [.agg [i64 a0.A, i64 a0.B, i64 a0.C, i64 a0.D]] (lk []) (.agg [i64 r.A, i64 r.B, i64 r.C, i64 r.D]) (lk [])) := by
  unfold Dlaws_toPlane at h
  refine x_call (fn := Try.f24) (c := bodyOf Try.f24) (bs0 := []) Try.func24 (by kernel_rfl) (by kernel_rfl) ?_
  replace h := Option.some.inj h; subst h
  exact x_end 42 [] [] onil onil (by kernel_rfl)
/-! laws.toSolidS -/
def Dlaws_toSolidS_in_0 (_n : Nat) (self : Sol → Option Sol) (t0 : List Sol) (rec0 : (Int × List Sol) → Option (List Sol)) (a : (Int × List Sol)) : Option (List Sol) :=
  match a with
  | (t4, l7) => frk (decide (t4 < (t0.length : Int))) ((lget t0 t4).bind fun v1 => (self v1).bind fun v2 => (lget l7 t4).bind fun _v3 => rec0 (w64 (t4 + 1), (l7.set (Int.toNat t4) v2))) (some l7)
theorem Tlaws_toSolidS_in_0 {Y} (n : Nat) (self : Sol → Option Sol) (hself : ∀ (a : Sol) (r : Sol), self a = some r → Big Try.prog H Y (.call 8 [.agg [bl a.inn, i64 a.pl.A, i64 a.pl.B, i64 a.pl.C, i64 a.pl.D, .sl false 6 a.kids.length ((eSol false).f a.kids)]] (lk []) (.agg [bl r.inn, i64 r.pl.A, i64 r.pl.B, i64 r.pl.C, i64 r.pl.D, .sl true 6 r.kids.length ((eSol true).f r.kids)]) (lk []))) (t0 : List Sol) : ∀ (m : Nat) (a : (Int × List Sol)) (r : (List Sol)), loopN (Dlaws_toSolidS_in_0 n self t0) m a = some r → Wk Try.prog H Y 25 [.code (cp [1, 1, 0, 1, 0] (bodyOf Try.f25)), .blk 0, .code (cp [1, 1, 1] (bodyOf Try.f25))] (FinX Try.prog Try.f25 [] (.sl true 6 r.length ((eSol true).f r)) []) ⟨[(0, .sl false 6 t0.length ((eSol false).f t0)), (3, .msl 7 a.2.length), (4, i64 a.1)], [(7, ⟨true, 6, (eSol true).f a.2⟩)]⟩ := by
  refine loopN_ind (fun _rec0 hrec0 a r h => ?_)
  obtain ⟨t4, l7⟩ := a
  unfold Dlaws_toSolidS_in_0 at h
  refine x_frk 9 [] onil h (by kernel_rfl) (fun h => ?_) (fun h => ?_)
  · obtain ⟨v1, hv1, h⟩ := bind_some h
    obtain ⟨v2, hv2, h⟩ := bind_some h
    obtain ⟨_v3, hv3, h⟩ := bind_some h
    exact x_to 23 [(4, .val (.cptr ((eSol false).c v1 ++ (eSol false).f ((t0).drop (Int.toNat t4 + 1))))), (1, .call [] [] (.agg [bl v2.inn, i64 v2.pl.A, i64 v2.pl.B, i64 v2.pl.C, i64 v2.pl.D, .sl true 6 v2.kids.length ((eSol true).f v2.kids)]) []), (0, .unit), (0, .cells ((eSol true).f (l7.set (Int.toNat t4) v2))), (0, .fix 3 (.msl 7 (l7.set (Int.toNat t4) v2).length)), (0, .fix 14 (.msl 7 (l7.set (Int.toNat t4) v2).length))] (ocons (ix (eSol false) hv1) (ocons (hself v1 _ hv2) (ocons (inr hv3) (ocons (stA (eSol true) hv3 0 6 [bl v2.inn, i64 v2.pl.A, i64 v2.pl.B, i64 v2.pl.C, i64 v2.pl.D, .sl true 6 v2.kids.length ((eSol true).f v2.kids)] v2 rfl rfl) (ocons (setLen 7 l7 (Int.toNat t4) v2) (ocons (setLen 7 l7 (Int.toNat t4) v2) onil)))))) (hrec0 (w64 (t4 + 1), (l7.set (Int.toNat t4) v2)) r h) (by kernel_rfl)
  · replace h := Option.some.inj h; subst h
    exact x_end 6 [] [] onil (ocons (len_row (L := l7) (eSol true)) onil) (by kernel_rfl)
def Dlaws_toSolidS_in (n : Nat) (self : Sol → Option Sol) (a0 : (List Sol)) : Option (List Sol) :=
  chk (mkB (a0.length : Int) 64) (loopN (Dlaws_toSolidS_in_0 n self a0) n (0, (List.replicate (Int.toNat (a0.length : Int)) zSol)))
theorem Tlaws_toSolidS_in {Y} (n : Nat) (self : Sol → Option Sol) (hself : ∀ (a : Sol) (r : Sol), self a = some r → Big Try.prog H Y (.call 8 [.agg [bl a.inn, i64 a.pl.A, i64 a.pl.B, i64 a.pl.C, i64 a.pl.D, .sl false 6 a.kids.length ((eSol false).f a.kids)]] (lk []) (.agg [bl r.inn, i64 r.pl.A, i64 r.pl.B, i64 r.pl.C, i64 r.pl.D, .sl true 6 r.kids.length ((eSol true).f r.kids)]) (lk []))) (a0 : (List Sol)) (r : (List Sol)) (h : Dlaws_toSolidS_in n self a0 = some r) : Big Try.prog H Y (.call 25 [.sl false 6 a0.length ((eSol false).f a0)] (lk []) (.sl true 6 r.length ((eSol true).f r)) (lk [])) := by
  unfold Dlaws_toSolidS_in at h
  refine x_call (fn := Try.f25) (c := bodyOf Try.f25) (bs0 := []) Try.func25 (by kernel_rfl) (by kernel_rfl) ?_
  obtain ⟨c0, h⟩ := chk_some h
  exact x_to 20 [(3, .mk (List.replicate (Int.toNat (a0.length : Int)) ()).length (eZs.f (List.replicate (Int.toNat (a0.length : Int)) ()))), (1, .wkb 7 ⟨true, 6, eZs.f (List.replicate (Int.toNat (a0.length : Int)) ())⟩ ⟨true, 6, (eSol true).f (List.replicate (Int.toNat (a0.length : Int)) zSol)⟩), (0, .fix 3 (.msl 7 (List.replicate (Int.toNat (a0.length : Int)) zSol).length)), (0, .fix 7 (.msl 7 (List.replicate (Int.toNat (a0.length : Int)) zSol).length))] (ocons (rflI (a0.length : Int)) (ocons (mkOk eZs c0 () rfl) (ocons (rflB ⟨true, 6, eZs.f (List.replicate (Int.toNat (a0.length : Int)) ())⟩) (ocons (wkZs true true (Int.toNat (a0.length : Int))) (ocons (congrArg (AV.msl 7) (zLen (Int.toNat (a0.length : Int)))) (ocons (congrArg (AV.msl 7) (zLen (Int.toNat (a0.length : Int)))) onil)))))) (Tlaws_toSolidS_in_0 n self hself a0 n (0, (List.replicate (Int.toNat (a0.length : Int)) zSol)) r h) (by kernel_rfl)
/-! laws.toSolid -/
def Dlaws_toSolid_b (n : Nat) (self : Sol → Option Sol) (a : Sol) : Option Sol :=
  match a with
  | a0 => (Dlaws_toPlane a0.pl).bind fun v0 => (Dlaws_toSolidS_in n self a0.kids).bind fun v1 => some (Sol.mk a0.inn v0 v1)
def Dlaws_toSolid (n : Nat) (a0 : Sol) : Option Sol := loopN (Dlaws_toSolid_b n) n a0
theorem Tlaws_toSolid_b {Y} (n : Nat) : ∀ (m : Nat) (a : Sol) (r : Sol), loopN (Dlaws_toSolid_b n) m a = some r → ∀ (_ : Unit), Big Try.prog H Y (.call 8 [.agg [bl a.inn, i64 a.pl.A, i64 a.pl.B, i64 a.pl.C, i64 a.pl.D, .sl false 6 a.kids.length ((eSol false).f a.kids)]] (lk []) (.agg [bl r.inn, i64 r.pl.A, i64 r.pl.B, i64 r.pl.C, i64 r.pl.D, .sl true 6 r.kids.length ((eSol true).f r.kids)]) (lk [])) := by
  refine loopN_ind (fun self hs a r h => ?_)
  have hself : ∀ (a : Sol) (r : Sol), self a = some r → Big Try.prog H Y (.call 8 [.agg [bl a.inn, i64 a.pl.A, i64 a.pl.B, i64 a.pl.C, i64 a.pl.D, .sl false 6 a.kids.length ((eSol false).f a.kids)]] (lk []) (.agg [bl r.inn, i64 r.pl.A, i64 r.pl.B, i64 r.pl.C, i64 r.pl.D, .sl true 6 r.kids.length ((eSol true).f r.kids)]) (lk [])) := fun a r h => hs a r h ()
  intro _
  obtain ⟨a0, rfl⟩ : ∃ x, x = a := ⟨a, rfl⟩
  unfold Dlaws_toSolid_b at h
  refine x_call (fn := Try.f8) (c := bodyOf Try.f8) (bs0 := []) Try.func8 (by kernel_rfl) (by kernel_rfl) ?_
  obtain ⟨v0, hv0, h⟩ := bind_some h
  obtain ⟨v1, hv1, h⟩ := bind_some h
  replace h := Option.some.inj h; subst h
  exact x_end 37 [(9, .call [] [] (.agg [i64 v0.A, i64 v0.B, i64 v0.C, i64 v0.D]) []), (4, .call [] [] (.sl true 6 v1.length ((eSol true).f v1)) [])] [] (ocons (Tlaws_toPlane (Y := Y) a0.pl _ hv0) (ocons (Tlaws_toSolidS_in (Y := Y) n self hself a0.kids _ hv1) onil)) (ocons (len_row (L := v1) (eSol true)) onil) (by kernel_rfl)
theorem Tlaws_toSolid {Y} (n : Nat) (a0 : Sol) (r : Sol) (h : Dlaws_toSolid n a0 = some r) : Big Try.prog H Y (.call 8 [.agg [bl a0.inn, i64 a0.pl.A, i64 a0.pl.B, i64 a0.pl.C, i64 a0.pl.D, .sl false 6 a0.kids.length ((eSol false).f a0.kids)]] (lk []) (.agg [bl r.inn, i64 r.pl.A, i64 r.pl.B, i64 r.pl.C, i64 r.pl.D, .sl true 6 r.kids.length ((eSol true).f r.kids)]) (lk [])) := Tlaws_toSolid_b n n a0 r h ()
/-! spec.l8Leaf -/
def Dspec_l8Leaf (a0 : Sol) : Option Bool :=
  some ((a0.kids.length : Int) == 0)
theorem Tspec_l8Leaf {Y} (a0 : Sol) (r : Bool) (h : Dspec_l8Leaf a0 = some r) : Big Try.prog H Y (.call 89 [.agg [bl a0.inn, i64 a0.pl.A, i64 a0.pl.B, i64 a0.pl.C, i64 a0.pl.D, .sl false 6 a0.kids.length ((eSol false).f a0.kids)]] (lk []) (bl r) (lk [])) := by
  unfold Dspec_l8Leaf at h
  refine x_call (fn := Try.f89) (c := bodyOf Try.f89) (bs0 := []) Try.func89 (by kernel_rfl) (by kernel_rfl) ?_
  replace h := Option.some.inj h; subst h
  exact x_end 13 [] [] onil onil (by kernel_rfl)
/-! spec.l8Count -/
def Dspec_l8Count_1 (_n : Nat) (self : (Sol × Int) → Option Int) (t1 : Int) (_b2_0 : Bool) (_b2_1 _b2_2 _b2_3 _b2_4 : Int) (b2_5 : List Sol) (rec0 : (Int × Int) → Option Int) (a : (Int × Int)) : Option Int :=
  match a with
  | (t5, t6) => frk (decide (t6 < (b2_5.length : Int))) ((lget b2_5 t6).bind fun v1 => (self (v1, w64 (t1 - t5))).bind fun v2 => rec0 (w64 (t5 + v2), w64 (t6 + 1))) (some t5)
theorem Tspec_l8Count_1 {Y} (n : Nat) (self : (Sol × Int) → Option Int) (hself : ∀ (a : (Sol × Int)) (r : Int), self a = some r → Big Try.prog H Y (.call 46 [.agg [bl a.1.inn, i64 a.1.pl.A, i64 a.1.pl.B, i64 a.1.pl.C, i64 a.1.pl.D, .sl false 6 a.1.kids.length ((eSol false).f a.1.kids)], i64 a.2] (lk []) (i64 r) (lk []))) (t1 : Int) (b2_0 : Bool) (b2_1 b2_2 b2_3 b2_4 : Int) (b2_5 : List Sol) : ∀ (m : Nat) (a : (Int × Int)) (r : Int), loopN (Dspec_l8Count_1 n self t1 b2_0 b2_1 b2_2 b2_3 b2_4 b2_5) m a = some r → Wk Try.prog H Y 46 [.code (cp [1, 1, 1, 0, 1, 0] (bodyOf Try.f46)), .blk 0, .code (cp [1, 1, 1, 1] (bodyOf Try.f46))] (FinX Try.prog Try.f46 [] (i64 r) []) ⟨[(1, i64 t1), (2, .ptr 2 0), (5, i64 a.1), (6, i64 a.2)], [(2, ⟨true, 0, [bl b2_0, i64 b2_1, i64 b2_2, i64 b2_3, i64 b2_4, .sl false 6 b2_5.length ((eSol false).f b2_5)]⟩)]⟩ := by
  refine loopN_ind (fun _rec0 hrec0 a r h => ?_)
  obtain ⟨t5, t6⟩ := a
  unfold Dspec_l8Count_1 at h
  refine x_frk 10 [] onil h (by kernel_rfl) (fun h => ?_) (fun h => ?_)
  · obtain ⟨v1, hv1, h⟩ := bind_some h
    obtain ⟨v2, hv2, h⟩ := bind_some h
    exact x_to 24 [(4, .val (.cptr ((eSol false).c v1 ++ (eSol false).f ((b2_5).drop (Int.toNat t6 + 1))))), (4, .call [] [] (i64 v2) [])] (ocons (ix (eSol false) hv1) (ocons (hself (v1, w64 (t1 - t5)) _ hv2) onil)) (hrec0 (w64 (t5 + v2), w64 (t6 + 1)) r h) (by kernel_rfl)
  · replace h := Option.some.inj h; subst h
    exact x_end 6 [] [] onil onil (by kernel_rfl)
def Dspec_l8Count_0 (n : Nat) (self : (Sol × Int) → Option Int) (t1 : Int) (t12 b2_0 : Bool) (b2_1 b2_2 b2_3 b2_4 : Int) (b2_5 : List Sol) : Option Int :=
  frk t12 (some 0) (loopN (Dspec_l8Count_1 n self t1 b2_0 b2_1 b2_2 b2_3 b2_4 b2_5) n (1, 0))
theorem Tspec_l8Count_0 {Y} (n : Nat) (self : (Sol × Int) → Option Int) (hself : ∀ (a : (Sol × Int)) (r : Int), self a = some r → Big Try.prog H Y (.call 46 [.agg [bl a.1.inn, i64 a.1.pl.A, i64 a.1.pl.B, i64 a.1.pl.C, i64 a.1.pl.D, .sl false 6 a.1.kids.length ((eSol false).f a.1.kids)], i64 a.2] (lk []) (i64 r) (lk []))) (t1 : Int) (t12 b2_0 : Bool) (b2_1 b2_2 b2_3 b2_4 : Int) (b2_5 : List Sol) (r : Int) (h : Dspec_l8Count_0 n self t1 t12 b2_0 b2_1 b2_2 b2_3 b2_4 b2_5 = some r) : Wk Try.prog H Y 46 [.code (cp [1, 0, 1] (bodyOf Try.f46)), .code (cp [1, 1] (bodyOf Try.f46))] (FinX Try.prog Try.f46 [] (i64 r) []) ⟨[(1, i64 t1), (2, .ptr 2 0), (12, bl t12)], [(2, ⟨true, 0, [bl b2_0, i64 b2_1, i64 b2_2, i64 b2_3, i64 b2_4, .sl false 6 b2_5.length ((eSol false).f b2_5)]⟩)]⟩ := by
  unfold Dspec_l8Count_0 at h
  refine x_frk 0 [] onil h (by kernel_rfl) (fun h => ?_) (fun h => ?_)
  · replace h := Option.some.inj h; subst h
    exact x_end 4 [] [] onil onil (by kernel_rfl)
  · exact x_to 11 [] onil (Tspec_l8Count_1 n self hself t1 b2_0 b2_1 b2_2 b2_3 b2_4 b2_5 n (1, 0) r h) (by kernel_rfl)
def Dspec_l8Count_b (n : Nat) (self : (Sol × Int) → Option Int) (a : (Sol × Int)) : Option Int :=
  match a with
  | (a0, a1) => (Dspec_l8Leaf a0).bind fun v0 => frk v0 (some 0) (Dspec_l8Count_0 n self a1 (decide (a1 ≤ 0)) a0.inn a0.pl.A a0.pl.B a0.pl.C a0.pl.D a0.kids)
def Dspec_l8Count (n : Nat) (a0 : Sol) (a1 : Int) : Option Int := loopN (Dspec_l8Count_b n) n (a0, a1)
theorem Tspec_l8Count_b {Y} (n : Nat) : ∀ (m : Nat) (a : (Sol × Int)) (r : Int), loopN (Dspec_l8Count_b n) m a = some r → ∀ (_ : Unit), Big Try.prog H Y (.call 46 [.agg [bl a.1.inn, i64 a.1.pl.A, i64 a.1.pl.B, i64 a.1.pl.C, i64 a.1.pl.D, .sl false 6 a.1.kids.length ((eSol false).f a.1.kids)], i64 a.2] (lk []) (i64 r) (lk [])) := by
  refine loopN_ind (fun self hs a r h => ?_)
  have hself : ∀ (a : (Sol × Int)) (r : Int), self a = some r → Big Try.prog H Y (.call 46 [.agg [bl a.1.inn, i64 a.1.pl.A, i64 a.1.pl.B, i64 a.1.pl.C, i64 a.1.pl.D, .sl false 6 a.1.kids.length ((eSol false).f a.1.kids)], i64 a.2] (lk []) (i64 r) (lk [])) := fun a r h => hs a r h ()
  intro _
  obtain ⟨a0, a1⟩ := a
  unfold Dspec_l8Count_b at h
  refine x_call (fn := Try.f46) (c := bodyOf Try.f46) (bs0 := []) Try.func46 (by kernel_rfl) (by kernel_rfl) ?_
  obtain ⟨v0, hv0, h⟩ := bind_some h
  refine x_frk 11 [(3, .call [] [] (bl v0) [])] (ocons (Tspec_l8Leaf (Y := Y) a0 _ hv0) onil) h (by kernel_rfl) (fun h => ?_) (fun h => ?_)
  · replace h := Option.some.inj h; subst h
    exact x_end 9 [] [] onil onil (by kernel_rfl)
  · exact x_to 4 [] onil (Tspec_l8Count_0 n self hself a1 (decide (a1 ≤ 0)) a0.inn a0.pl.A a0.pl.B a0.pl.C a0.pl.D a0.kids r h) (by kernel_rfl)
theorem Tspec_l8Count {Y} (n : Nat) (a0 : Sol) (a1 r : Int) (h : Dspec_l8Count n a0 a1 = some r) : Big Try.prog H Y (.call 46 [.agg [bl a0.inn, i64 a0.pl.A, i64 a0.pl.B, i64 a0.pl.C, i64 a0.pl.D, .sl false 6 a0.kids.length ((eSol false).f a0.kids)], i64 a1] (lk []) (i64 r) (lk [])) := Tspec_l8Count_b n n (a0, a1) r h ()
/-! spec.l1In -/
def Dspec_l1In (a0 a1 a2 : Int) : Option Bool :=
  frk (decide (a0 ≥ a1)) (some (decide (a0 ≤ a2))) (some false)
theorem Tspec_l1In {Y} (a0 a1 a2 : Int) (r : Bool) (h : Dspec_l1In a0 a1 a2 = some r) : Big Try.prog H Y (.call 48 [i64 a0, i64 a1, i64 a2] (lk []) (bl r) (lk [])) := by
  unfold Dspec_l1In at h
  refine x_call (fn := Try.f48) (c := bodyOf Try.f48) (bs0 := []) Try.func48 (by kernel_rfl) (by kernel_rfl) ?_
  refine x_frk 10 [] onil h (by kernel_rfl) (fun h => ?_) (fun h => ?_)
  · replace h := Option.some.inj h; subst h
    exact x_end 6 [] [] onil onil (by kernel_rfl)
  · replace h := Option.some.inj h; subst h
    exact x_end 6 [] [] onil onil (by kernel_rfl)
/-! spec.l3In -/
def Dspec_l3In (a0 : Pl) : Option Bool :=
  (Dspec_l1In a0.A (-500) 500).bind fun v0 => frk v0 ((Dspec_l1In a0.B (-500) 500).bind fun v1 => frk v1 ((Dspec_l1In a0.C (-500) 500).bind fun v2 => frk v2 ((Dspec_l1In a0.D (-500) 500).bind fun v3 => some v3) (some false)) (some false)) (some false)
theorem Tspec_l3In {Y} (a0 : Pl) (r : Bool) (h : Dspec_l3In a0 = some r) : Big Try.prog H Y (.call 115 [.agg [i64 a0.A, i64 a0.B, i64 a0.C, i64 a0.D]] (lk []) (bl r) (lk [])) := by
  unfold Dspec_l3In at h
  refine x_call (fn := Try.f115) (c := bodyOf Try.f115) (bs0 := []) Try.func115 (by kernel_rfl) (by kernel_rfl) ?_
  obtain ⟨v0, hv0, h⟩ := bind_some h
  refine x_frk 18 [(8, .call [] [] (bl v0) [])] (ocons (Tspec_l1In (Y := Y) a0.A (-500) 500 _ hv0) onil) h (by kernel_rfl) (fun h => ?_) (fun h => ?_)
  · obtain ⟨v1, hv1, h⟩ := bind_some h
    refine x_frk 8 [(5, .call [] [] (bl v1) [])] (ocons (Tspec_l1In (Y := Y) a0.B (-500) 500 _ hv1) onil) h (by kernel_rfl) (fun h => ?_) (fun h => ?_)
    · obtain ⟨v2, hv2, h⟩ := bind_some h
      refine x_frk 8 [(5, .call [] [] (bl v2) [])] (ocons (Tspec_l1In (Y := Y) a0.C (-500) 500 _ hv2) onil) h (by kernel_rfl) (fun h => ?_) (fun h => ?_)
      · obtain ⟨v3, hv3, h⟩ := bind_some h
        replace h := Option.some.inj h; subst h
        exact x_end 9 [(5, .call [] [] (bl v3) [])] [] (ocons (Tspec_l1In (Y := Y) a0.D (-500) 500 _ hv3) onil) onil (by kernel_rfl)
      · replace h := Option.some.inj h; subst h
        exact x_end 9 [] [] onil onil (by kernel_rfl)
    · replace h := Option.some.inj h; subst h
      exact x_end 17 [] [] onil onil (by kernel_rfl)
  · replace h := Option.some.inj h; subst h
    exact x_end 25 [] [] onil onil (by kernel_rfl)
/-! spec.l3Abs -/
def Dspec_l3Abs (a0 : Int) : Option Int :=
  frk (decide (a0 < 0)) (some (w64 (0 - a0))) (some a0)
theorem Tspec_l3Abs {Y} (a0 r : Int) (h : Dspec_l3Abs a0 = some r) : Big Try.prog H Y (.call 116 [i64 a0] (lk []) (i64 r) (lk [])) := by
  unfold Dspec_l3Abs at h
  refine x_call (fn := Try.f116) (c := bodyOf Try.f116) (bs0 := []) Try.func116 (by kernel_rfl) (by kernel_rfl) ?_
  refine x_frk 10 [] onil h (by kernel_rfl) (fun h => ?_) (fun h => ?_)
  · replace h := Option.some.inj h; subst h
    exact x_end 6 [] [] onil onil (by kernel_rfl)
  · replace h := Option.some.inj h; subst h
    exact x_end 6 [] [] onil onil (by kernel_rfl)
/-! spec.l3Gcd -/
def Dspec_l3Gcd_0 (_n : Nat) (rec0 : (Int × Int) → Option Int) (a : (Int × Int)) : Option Int :=
  match a with
  | (t0, t1) => frk (decide (t1 > 0)) ((rm .i64 t0 t1).bind fun v2 => rec0 (t1, v2)) (some t0)
theorem Tspec_l3Gcd_0 {Y} (n : Nat) : ∀ (m : Nat) (a : (Int × Int)) (r : Int), loopN (Dspec_l3Gcd_0 n) m a = some r → Wk Try.prog H Y 92 [.code (cp [1, 1, 1, 0, 0] (bodyOf Try.f92)), .blk 0, .code (cp [1, 1, 1, 1] (bodyOf Try.f92))] (FinX Try.prog Try.f92 [] (i64 r) []) ⟨[(0, i64 a.1), (1, i64 a.2)], []⟩ := by
  refine loopN_ind (fun _rec0 hrec0 a r h => ?_)
  obtain ⟨_t0, t1⟩ := a
  unfold Dspec_l3Gcd_0 at h
  refine x_frk 7 [] onil h (by kernel_rfl) (fun h => ?_) (fun h => ?_)
  · obtain ⟨v2, hv2, h⟩ := bind_some h
    exact x_to 20 [(2, .val (i64 v2))] (ocons (rmOk hv2) onil) (hrec0 (t1, v2) r h) (by kernel_rfl)
  · replace h := Option.some.inj h; subst h
    exact x_end 6 [] [] onil onil (by kernel_rfl)
def Dspec_l3Gcd (n : Nat) (a0 a1 : Int) : Option Int :=
  (Dspec_l3Abs a0).bind fun v0 => (Dspec_l3Abs a1).bind fun v1 => loopN (Dspec_l3Gcd_0 n) n (v0, v1)
theorem Tspec_l3Gcd {Y} (n : Nat) (a0 a1 r : Int) (h : Dspec_l3Gcd n a0 a1 = some r) : Big Try.prog H Y (.call 92 [i64 a0, i64 a1] (lk []) (i64 r) (lk [])) := by
  unfold Dspec_l3Gcd at h
  refine x_call (fn := Try.f92) (c := bodyOf Try.f92) (bs0 := []) Try.func92 (by kernel_rfl) (by kernel_rfl) ?_
  obtain ⟨v0, hv0, h⟩ := bind_some h
  obtain ⟨v1, hv1, h⟩ := bind_some h
  exact x_to 18 [(2, .call [] [] (i64 v0) []), (2, .call [] [] (i64 v1) [])] (ocons (Tspec_l3Abs (Y := Y) a0 _ hv0) (ocons (Tspec_l3Abs (Y := Y) a1 _ hv1) onil)) (Tspec_l3Gcd_0 n n (v0, v1) r h) (by kernel_rfl)
/-! spec.PlaneOk -/
def Dspec_PlaneOk (n : Nat) (a0 : Pl) : Option Bool :=
  (Dspec_l3In a0).bind fun v0 => frk v0 (frk (a0.A != 0) ((Dspec_l3Gcd n a0.A a0.B).bind fun v1 => (Dspec_l3Gcd n a0.C a0.D).bind fun v2 => (Dspec_l3Gcd n v1 v2).bind fun v3 => some (v3 == 1)) (frk (a0.B != 0) ((Dspec_l3Gcd n a0.A a0.B).bind fun v4 => (Dspec_l3Gcd n a0.C a0.D).bind fun v5 => (Dspec_l3Gcd n v4 v5).bind fun v6 => some (v6 == 1)) (frk (a0.C != 0) ((Dspec_l3Gcd n a0.A a0.B).bind fun v7 => (Dspec_l3Gcd n a0.C a0.D).bind fun v8 => (Dspec_l3Gcd n v7 v8).bind fun v9 => some (v9 == 1)) (some false)))) (some false)
theorem Tspec_PlaneOk {Y} (n : Nat) (a0 : Pl) (r : Bool) (h : Dspec_PlaneOk n a0 = some r) : Big Try.prog H Y (.call 90 [.agg [i64 a0.A, i64 a0.B, i64 a0.C, i64 a0.D]] (lk []) (bl r) (lk [])) := by
  unfold Dspec_PlaneOk at h
  refine x_call (fn := Try.f90) (c := bodyOf Try.f90) (bs0 := []) Try.func90 (by kernel_rfl) (by kernel_rfl) ?_
  obtain ⟨v0, hv0, h⟩ := bind_some h
  refine x_frk 10 [(3, .call [] [] (bl v0) [])] (ocons (Tspec_l3In (Y := Y) a0 _ hv0) onil) h (by kernel_rfl) (fun h => ?_) (fun h => ?_)
  · refine x_frk 4 [] onil h (by kernel_rfl) (fun h => ?_) (fun h => ?_)
    · obtain ⟨v1, hv1, h⟩ := bind_some h
      obtain ⟨v2, hv2, h⟩ := bind_some h
      obtain ⟨v3, hv3, h⟩ := bind_some h
      replace h := Option.some.inj h; subst h
      exact x_end 26 [(15, .call [] [] (i64 v1) []), (4, .call [] [] (i64 v2) []), (0, .call [] [] (i64 v3) [])] [] (ocons (Tspec_l3Gcd (Y := Y) n a0.A a0.B _ hv1) (ocons (Tspec_l3Gcd (Y := Y) n a0.C a0.D _ hv2) (ocons (Tspec_l3Gcd (Y := Y) n v1 v2 _ hv3) onil))) onil (by kernel_rfl)
    · refine x_frk 5 [] onil h (by kernel_rfl) (fun h => ?_) (fun h => ?_)
      · obtain ⟨v4, hv4, h⟩ := bind_some h
        obtain ⟨v5, hv5, h⟩ := bind_some h
        obtain ⟨v6, hv6, h⟩ := bind_some h
        replace h := Option.some.inj h; subst h
        exact x_end 21 [(10, .call [] [] (i64 v4) []), (4, .call [] [] (i64 v5) []), (0, .call [] [] (i64 v6) [])] [] (ocons (Tspec_l3Gcd (Y := Y) n a0.A a0.B _ hv4) (ocons (Tspec_l3Gcd (Y := Y) n a0.C a0.D _ hv5) (ocons (Tspec_l3Gcd (Y := Y) n v4 v5 _ hv6) onil))) onil (by kernel_rfl)
      · refine x_frk 6 [] onil h (by kernel_rfl) (fun h => ?_) (fun h => ?_)
        · obtain ⟨v7, hv7, h⟩ := bind_some h
          obtain ⟨v8, hv8, h⟩ := bind_some h
          obtain ⟨v9, hv9, h⟩ := bind_some h
          replace h := Option.some.inj h; subst h
          exact x_end 15 [(4, .call [] [] (i64 v7) []), (4, .call [] [] (i64 v8) []), (0, .call [] [] (i64 v9) [])] [] (ocons (Tspec_l3Gcd (Y := Y) n a0.A a0.B _ hv7) (ocons (Tspec_l3Gcd (Y := Y) n a0.C a0.D _ hv8) (ocons (Tspec_l3Gcd (Y := Y) n v7 v8 _ hv9) onil))) onil (by kernel_rfl)
        · replace h := Option.some.inj h; subst h
          exact x_end 15 [] [] onil onil (by kernel_rfl)
  · replace h := Option.some.inj h; subst h
    exact x_end 30 [] [] onil onil (by kernel_rfl)
/-! spec.l4Cross -/
def Dspec_l4Cross (a0 : Pl) (a1 : Pl) : Option (Int × Int × Int) :=
  some (w64 ((w64 (a0.B * a1.C)) - (w64 (a0.C * a1.B))), w64 ((w64 (a0.C * a1.A)) - (w64 (a0.A * a1.C))), w64 ((w64 (a0.A * a1.B)) - (w64 (a0.B * a1.A))))
theorem Tspec_l4Cross {Y} (a0 : Pl) (a1 : Pl) (r : (Int × Int × Int)) (h : Dspec_l4Cross a0 a1 = some r) : Big Try.prog H Y (.call 120 [.agg [i64 a0.A, i64 a0.B, i64 a0.C, i64 a0.D], .agg [i64 a1.A, i64 a1.B, i64 a1.C, i64 a1.D]] (lk []) (.agg [i64 r.1, i64 r.2.1, i64 r.2.2]) (lk [])) := by
  unfold Dspec_l4Cross at h
  refine x_call (fn := Try.f120) (c := bodyOf Try.f120) (bs0 := []) Try.func120 (by kernel_rfl) (by kernel_rfl) ?_
  replace h := Option.some.inj h; subst h
  exact x_end 44 [] [] onil onil (by kernel_rfl)
/-! spec.l3Sign -/
def Dspec_l3Sign (a0 : Int) : Option Int :=
  frk (decide (a0 > 0)) (some 1) (frk (decide (a0 < 0)) (some (-1)) (some 0))
theorem Tspec_l3Sign {Y} (a0 r : Int) (h : Dspec_l3Sign a0 = some r) : Big Try.prog H Y (.call 104 [i64 a0] (lk []) (i64 r) (lk [])) := by
  unfold Dspec_l3Sign at h
  refine x_call (fn := Try.f104) (c := bodyOf Try.f104) (bs0 := []) Try.func104 (by kernel_rfl) (by kernel_rfl) ?_
  refine x_frk 12 [] onil h (by kernel_rfl) (fun h => ?_) (fun h => ?_)
  · replace h := Option.some.inj h; subst h
    exact x_end 4 [] [] onil onil (by kernel_rfl)
  · refine x_frk 6 [] onil h (by kernel_rfl) (fun h => ?_) (fun h => ?_)
    · replace h := Option.some.inj h; subst h
      exact x_end 4 [] [] onil onil (by kernel_rfl)
    · replace h := Option.some.inj h; subst h
      exact x_end 6 [] [] onil onil (by kernel_rfl)
/-! spec.l4Parallel -/
def Dspec_l4Parallel (a0 : Pl) (a1 : Pl) : Option Int :=
  (Dspec_l4Cross a0 a1).bind fun v0 => frk (!(v0.1 == 0 && (v0.2.1 == 0 && (v0.2.2 == 0 && true)))) (some 0) ((Dspec_l3Sign (w64 ((w64 ((w64 (a0.A * a1.A)) + (w64 (a0.B * a1.B)))) + (w64 (a0.C * a1.C))))).bind fun v1 => some v1)
theorem Tspec_l4Parallel {Y} (a0 : Pl) (a1 : Pl) (r : Int) (h : Dspec_l4Parallel a0 a1 = some r) : Big Try.prog H Y (.call 119 [.agg [i64 a0.A, i64 a0.B, i64 a0.C, i64 a0.D], .agg [i64 a1.A, i64 a1.B, i64 a1.C, i64 a1.D]] (lk []) (i64 r) (lk [])) := by
  unfold Dspec_l4Parallel at h
  refine x_call (fn := Try.f119) (c := bodyOf Try.f119) (bs0 := []) Try.func119 (by kernel_rfl) (by kernel_rfl) ?_
  obtain ⟨v0, hv0, h⟩ := bind_some h
  refine x_frk 15 [(5, .call [] [] (.agg [i64 v0.1, i64 v0.2.1, i64 v0.2.2]) [])] (ocons (Tspec_l4Cross (Y := Y) a0 a1 _ hv0) onil) h (by kernel_rfl) (fun h => ?_) (fun h => ?_)
  · replace h := Option.some.inj h; subst h
    exact x_end 4 [] [] onil onil (by kernel_rfl)
  · obtain ⟨v1, hv1, h⟩ := bind_some h
    replace h := Option.some.inj h; subst h
    exact x_end 23 [(17, .call [] [] (i64 v1) [])] [] (ocons (Tspec_l3Sign (Y := Y) (w64 ((w64 ((w64 (a0.A * a1.A)) + (w64 (a0.B * a1.B)))) + (w64 (a0.C * a1.C)))) _ hv1) onil) onil (by kernel_rfl)
/-! spec.l6Clash2 -/
def Dspec_l6Clash2 (a0 : Pl) (a1 : Pl) : Option Bool :=
  (Dspec_l4Parallel a0 a1).bind fun v0 => frk (decide (v0 ≥ 0)) (some false) ((Dspec_l3Abs a1.A).bind fun v1 => (Dspec_l3Abs a1.B).bind fun v2 => (Dspec_l3Abs a1.C).bind fun v3 => (Dspec_l3Abs a0.A).bind fun v4 => (Dspec_l3Abs a0.B).bind fun v5 => (Dspec_l3Abs a0.C).bind fun v6 => some (decide ((w64 ((w64 ((w64 ((w64 (v1 + v2)) + v3)) * a0.D)) + (w64 ((w64 ((w64 (v4 + v5)) + v6)) * a1.D)))) ≤ 0)))
theorem Tspec_l6Clash2 {Y} (a0 : Pl) (a1 : Pl) (r : Bool) (h : Dspec_l6Clash2 a0 a1 = some r) : Big Try.prog H Y (.call 97 [.agg [i64 a0.A, i64 a0.B, i64 a0.C, i64 a0.D], .agg [i64 a1.A, i64 a1.B, i64 a1.C, i64 a1.D]] (lk []) (bl r) (lk [])) := by
  unfold Dspec_l6Clash2 at h
  refine x_call (fn := Try.f97) (c := bodyOf Try.f97) (bs0 := []) Try.func97 (by kernel_rfl) (by kernel_rfl) ?_
  obtain ⟨v0, hv0, h⟩ := bind_some h
  refine x_frk 14 [(5, .call [] [] (i64 v0) [])] (ocons (Tspec_l4Parallel (Y := Y) a0 a1 _ hv0) onil) h (by kernel_rfl) (fun h => ?_) (fun h => ?_)
  · replace h := Option.some.inj h; subst h
    exact x_end 4 [] [] onil onil (by kernel_rfl)
  · obtain ⟨v1, hv1, h⟩ := bind_some h
    obtain ⟨v2, hv2, h⟩ := bind_some h
    obtain ⟨v3, hv3, h⟩ := bind_some h
    obtain ⟨v4, hv4, h⟩ := bind_some h
    obtain ⟨v5, hv5, h⟩ := bind_some h
    obtain ⟨v6, hv6, h⟩ := bind_some h
    replace h := Option.some.inj h; subst h
    exact x_end 45 [(2, .call [] [] (i64 v1) []), (2, .call [] [] (i64 v2) []), (3, .call [] [] (i64 v3) []), (4, .call [] [] (i64 v4) []), (2, .call [] [] (i64 v5) []), (3, .call [] [] (i64 v6) [])] [] (ocons (Tspec_l3Abs (Y := Y) a1.A _ hv1) (ocons (Tspec_l3Abs (Y := Y) a1.B _ hv2) (ocons (Tspec_l3Abs (Y := Y) a1.C _ hv3) (ocons (Tspec_l3Abs (Y := Y) a0.A _ hv4) (ocons (Tspec_l3Abs (Y := Y) a0.B _ hv5) (ocons (Tspec_l3Abs (Y := Y) a0.C _ hv6) onil)))))) onil (by kernel_rfl)
/-! spec.l4Det3 -/
def Dspec_l4Det3 (a0 : Pl) (a1 : Pl) (a2 : Pl) : Option Int :=
  (Dspec_l4Cross a1 a2).bind fun v0 => some (w64 ((w64 ((w64 (a0.A * v0.1)) + (w64 (a0.B * v0.2.1)))) + (w64 (a0.C * v0.2.2))))
theorem Tspec_l4Det3 {Y} (a0 : Pl) (a1 : Pl) (a2 : Pl) (r : Int) (h : Dspec_l4Det3 a0 a1 a2 = some r) : Big Try.prog H Y (.call 102 [.agg [i64 a0.A, i64 a0.B, i64 a0.C, i64 a0.D], .agg [i64 a1.A, i64 a1.B, i64 a1.C, i64 a1.D], .agg [i64 a2.A, i64 a2.B, i64 a2.C, i64 a2.D]] (lk []) (i64 r) (lk [])) := by
  unfold Dspec_l4Det3 at h
  refine x_call (fn := Try.f102) (c := bodyOf Try.f102) (bs0 := []) Try.func102 (by kernel_rfl) (by kernel_rfl) ?_
  obtain ⟨v0, hv0, h⟩ := bind_some h
  replace h := Option.some.inj h; subst h
  exact x_end 36 [(6, .call [] [] (.agg [i64 v0.1, i64 v0.2.1, i64 v0.2.2]) [])] [] (ocons (Tspec_l4Cross (Y := Y) a1 a2 _ hv0) onil) onil (by kernel_rfl)
/-! spec.l6Sum -/
def Dspec_l6Sum_1 (_n : Nat) (rec0 : (Bool × Bool × Int × Int) → Option Bool) (t0 : List Int) (t1 : List Int) (t5 t6 : Bool) (t7 t8 : Int) : Option Bool :=
  (lget t0 t8).bind fun v2 => (Dspec_l3Abs v2).bind fun v3 => (lget t1 t8).bind fun v4 => rec0 (t5, t6, w64 (t7 + (w64 (v3 * v4))), w64 (t8 + 1))
theorem Tspec_l6Sum_1 {Y} (n : Nat) (rec0 : (Bool × Bool × Int × Int) → Option Bool) (t0 : List Int) (t1 : List Int) (hrec0 : ∀ (a : (Bool × Bool × Int × Int)) (r : Bool), rec0 a = some r → Wk Try.prog H Y 121 [.code (cp [1, 1, 1, 1, 0, 1, 0] (bodyOf Try.f121)), .blk 0, .code (cp [1, 1, 1, 1, 1] (bodyOf Try.f121))] (FinX Try.prog Try.f121 [] (bl r) []) ⟨[(0, .sl false 1 t0.length ((eInt).f t0)), (1, .sl false 1 t1.length ((eInt).f t1)), (5, bl a.1), (6, bl a.2.1), (7, i64 a.2.2.1), (8, i64 a.2.2.2)], []⟩) (t5 t6 : Bool) (t7 t8 : Int) (r : Bool) (h : Dspec_l6Sum_1 n rec0 t0 t1 t5 t6 t7 t8 = some r) : Wk Try.prog H Y 121 [.code (cp [1, 1, 1, 1, 0, 1, 0, 0, 1, 0, 0, 1, 1] (bodyOf Try.f121)), .blk 1, .code (cp [1, 1, 1, 1, 0, 1, 0, 0, 1, 1] (bodyOf Try.f121)), .lp (cp [1, 1, 1, 1, 0, 1, 0] (bodyOf Try.f121)), .blk 0, .code (cp [1, 1, 1, 1, 1] (bodyOf Try.f121))] (FinX Try.prog Try.f121 [] (bl r) []) ⟨[(0, .sl false 1 t0.length ((eInt).f t0)), (1, .sl false 1 t1.length ((eInt).f t1)), (5, bl t5), (6, bl t6), (7, i64 t7), (8, i64 t8)], []⟩ := by
  unfold Dspec_l6Sum_1 at h
  obtain ⟨v2, hv2, h⟩ := bind_some h
  obtain ⟨v3, hv3, h⟩ := bind_some h
  obtain ⟨v4, hv4, h⟩ := bind_some h
  exact x_to 22 [(3, .val (.cptr (eInt.c v2 ++ (eInt).f ((t0).drop (Int.toNat t8 + 1))))), (1, .call [] [] (i64 v3) []), (2, .val (.cptr (eInt.c v4 ++ (eInt).f ((t1).drop (Int.toNat t8 + 1)))))] (ocons (ix eInt hv2) (ocons (Tspec_l3Abs (Y := Y) v2 _ hv3) (ocons (ix eInt hv4) onil))) (hrec0 (t5, t6, w64 (t7 + (w64 (v3 * v4))), w64 (t8 + 1)) r h) (by kernel_rfl)
def Dspec_l6Sum_0 (n : Nat) (rec0 : (Bool × Bool × Int × Int) → Option Bool) (t0 : List Int) (t1 : List Int) (t5 t6 : Bool) (t7 t8 : Int) : Option Bool :=
  frk t6 ((lget t0 t8).bind fun v1 => Dspec_l6Sum_1 n rec0 t0 t1 t5 (decide (v1 < 0)) t7 t8) (Dspec_l6Sum_1 n rec0 t0 t1 t5 false t7 t8)
theorem Tspec_l6Sum_0 {Y} (n : Nat) (rec0 : (Bool × Bool × Int × Int) → Option Bool) (t0 : List Int) (t1 : List Int) (hrec0 : ∀ (a : (Bool × Bool × Int × Int)) (r : Bool), rec0 a = some r → Wk Try.prog H Y 121 [.code (cp [1, 1, 1, 1, 0, 1, 0] (bodyOf Try.f121)), .blk 0, .code (cp [1, 1, 1, 1, 1] (bodyOf Try.f121))] (FinX Try.prog Try.f121 [] (bl r) []) ⟨[(0, .sl false 1 t0.length ((eInt).f t0)), (1, .sl false 1 t1.length ((eInt).f t1)), (5, bl a.1), (6, bl a.2.1), (7, i64 a.2.2.1), (8, i64 a.2.2.2)], []⟩) (t5 t6 : Bool) (t7 t8 : Int) (r : Bool) (h : Dspec_l6Sum_0 n rec0 t0 t1 t5 t6 t7 t8 = some r) : Wk Try.prog H Y 121 [.code (cp [1, 1, 1, 1, 0, 1, 0, 0, 1, 0, 0, 1, 0] (bodyOf Try.f121)), .code (cp [1, 1, 1, 1, 0, 1, 0, 0, 1, 0, 0, 1, 1] (bodyOf Try.f121)), .blk 1, .code (cp [1, 1, 1, 1, 0, 1, 0, 0, 1, 1] (bodyOf Try.f121)), .lp (cp [1, 1, 1, 1, 0, 1, 0] (bodyOf Try.f121)), .blk 0, .code (cp [1, 1, 1, 1, 1] (bodyOf Try.f121))] (FinX Try.prog Try.f121 [] (bl r) []) ⟨[(0, .sl false 1 t0.length ((eInt).f t0)), (1, .sl false 1 t1.length ((eInt).f t1)), (5, bl t5), (6, bl t6), (7, i64 t7), (8, i64 t8)], []⟩ := by
  unfold Dspec_l6Sum_0 at h
  refine x_frk 3 [] onil h (by kernel_rfl) (fun h => ?_) (fun h => ?_)
  · obtain ⟨v1, hv1, h⟩ := bind_some h
    exact x_to 8 [(2, .val (.cptr (eInt.c v1 ++ (eInt).f ((t0).drop (Int.toNat t8 + 1)))))] (ocons (ix eInt hv1) onil) (Tspec_l6Sum_1 n rec0 t0 t1 hrec0 t5 (decide (v1 < 0)) t7 t8 r h) (by kernel_rfl)
  · exact x_to 8 [] onil (Tspec_l6Sum_1 n rec0 t0 t1 hrec0 t5 false t7 t8 r h) (by kernel_rfl)
def Dspec_l6Sum_2 (_n : Nat) (t5 t6 : Bool) (t7 : Int) : Option Bool :=
  frk t5 (some (decide (t7 ≤ 0))) (frk t6 (some (decide (t7 ≤ 0))) (some false))
theorem Tspec_l6Sum_2 {Y} (n : Nat) (t5 t6 : Bool) (t7 : Int) (r : Bool) (h : Dspec_l6Sum_2 n t5 t6 t7 = some r) : Wk Try.prog H Y 121 [.code (cp [1, 1, 1, 1, 1, 0] (bodyOf Try.f121)), .code (cp [1, 1, 1, 1, 1, 1] (bodyOf Try.f121))] (FinX Try.prog Try.f121 [] (bl r) []) ⟨[(5, bl t5), (6, bl t6), (7, i64 t7)], []⟩ := by
  unfold Dspec_l6Sum_2 at h
  refine x_frk 3 [] onil h (by kernel_rfl) (fun h => ?_) (fun h => ?_)
  · replace h := Option.some.inj h; subst h
    exact x_end 8 [] [] onil onil (by kernel_rfl)
  · refine x_frk 3 [] onil h (by kernel_rfl) (fun h => ?_) (fun h => ?_)
    · replace h := Option.some.inj h; subst h
      exact x_end 5 [] [] onil onil (by kernel_rfl)
    · replace h := Option.some.inj h; subst h
      exact x_end 5 [] [] onil onil (by kernel_rfl)
def Dspec_l6Sum_3 (n : Nat) (t0 : List Int) (t1 : List Int) (rec0 : (Bool × Bool × Int × Int) → Option Bool) (a : (Bool × Bool × Int × Int)) : Option Bool :=
  match a with
  | (t5, t6, t7, t8) => frk (decide (t8 < (t0.length : Int))) (frk t5 ((lget t0 t8).bind fun v0 => Dspec_l6Sum_0 n rec0 t0 t1 (decide (v0 > 0)) t6 t7 t8) (Dspec_l6Sum_0 n rec0 t0 t1 false t6 t7 t8)) (Dspec_l6Sum_2 n t5 t6 t7)
theorem Tspec_l6Sum_3 {Y} (n : Nat) (t0 : List Int) (t1 : List Int) : ∀ (m : Nat) (a : (Bool × Bool × Int × Int)) (r : Bool), loopN (Dspec_l6Sum_3 n t0 t1) m a = some r → Wk Try.prog H Y 121 [.code (cp [1, 1, 1, 1, 0, 1, 0] (bodyOf Try.f121)), .blk 0, .code (cp [1, 1, 1, 1, 1] (bodyOf Try.f121))] (FinX Try.prog Try.f121 [] (bl r) []) ⟨[(0, .sl false 1 t0.length ((eInt).f t0)), (1, .sl false 1 t1.length ((eInt).f t1)), (5, bl a.1), (6, bl a.2.1), (7, i64 a.2.2.1), (8, i64 a.2.2.2)], []⟩ := by
  refine loopN_ind (fun rec0 hrec0 a r h => ?_)
  obtain ⟨t5, t6, t7, t8⟩ := a
  unfold Dspec_l6Sum_3 at h
  refine x_frk 9 [] onil h (by kernel_rfl) (fun h => ?_) (fun h => ?_)
  · refine x_frk 7 [] onil h (by kernel_rfl) (fun h => ?_) (fun h => ?_)
    · obtain ⟨v0, hv0, h⟩ := bind_some h
      exact x_to 9 [(2, .val (.cptr (eInt.c v0 ++ (eInt).f ((t0).drop (Int.toNat t8 + 1)))))] (ocons (ix eInt hv0) onil) (Tspec_l6Sum_0 n rec0 t0 t1 hrec0 (decide (v0 > 0)) t6 t7 t8 r h) (by kernel_rfl)
    · exact x_to 9 [] onil (Tspec_l6Sum_0 n rec0 t0 t1 hrec0 false t6 t7 t8 r h) (by kernel_rfl)
  · exact x_to 2 [] onil (Tspec_l6Sum_2 n t5 t6 t7 r h) (by kernel_rfl)
def Dspec_l6Sum (n : Nat) (a0 : (List Int)) (a1 : (List Int)) : Option Bool :=
  loopN (Dspec_l6Sum_3 n a0 a1) n (true, true, 0, 0)
theorem Tspec_l6Sum {Y} (n : Nat) (a0 : (List Int)) (a1 : (List Int)) (r : Bool) (h : Dspec_l6Sum n a0 a1 = some r) : Big Try.prog H Y (.call 121 [.sl false 1 a0.length ((eInt).f a0), .sl false 1 a1.length ((eInt).f a1)] (lk []) (bl r) (lk [])) := by
  unfold Dspec_l6Sum at h
  refine x_call (fn := Try.f121) (c := bodyOf Try.f121) (bs0 := []) Try.func121 (by kernel_rfl) (by kernel_rfl) ?_
  exact x_to 22 [] onil (Tspec_l6Sum_3 n a0 a1 n (true, true, 0, 0) r h) (by kernel_rfl)
/-! spec.l6Clash3 -/
def Dspec_l6Clash3_0 (n : Nat) (_b3_0 _b3_1 _b3_2 b3_3 _b4_0 _b4_1 _b4_2 b4_3 _b5_0 _b5_1 _b5_2 b5_3 b7_0 _b7_1 _b7_2 b8_0 _b8_1 _b8_2 b9_0 _b9_1 _b9_2 : Int) : Option Bool :=
  (Dspec_l6Sum n [b7_0, b8_0, b9_0] [b3_3, b4_3, b5_3]).bind fun v4 => some v4
theorem Tspec_l6Clash3_0 {Y} (n : Nat) (b3_0 b3_1 b3_2 b3_3 b4_0 b4_1 b4_2 b4_3 b5_0 b5_1 b5_2 b5_3 b7_0 b7_1 b7_2 b8_0 b8_1 b8_2 b9_0 b9_1 b9_2 : Int) (r : Bool) (h : Dspec_l6Clash3_0 n b3_0 b3_1 b3_2 b3_3 b4_0 b4_1 b4_2 b4_3 b5_0 b5_1 b5_2 b5_3 b7_0 b7_1 b7_2 b8_0 b8_1 b8_2 b9_0 b9_1 b9_2 = some r) : Wk Try.prog H Y 98 [.code (cp [1, 1, 1, 1, 1, 0, 1, 0, 0, 1, 0, 0, 1, 0, 0] (bodyOf Try.f98)), .code (cp [1, 1, 1, 1, 1, 0, 1, 0, 0, 1, 0, 0, 1, 0, 1] (bodyOf Try.f98)), .blk 1, .code (cp [1, 1, 1, 1, 1, 0, 1, 0, 0, 1, 1] (bodyOf Try.f98)), .lp (cp [1, 1, 1, 1, 1, 0, 1, 0] (bodyOf Try.f98)), .blk 0, .code (cp [1, 1, 1, 1, 1, 1] (bodyOf Try.f98))] (FinX Try.prog Try.f98 [] (bl r) []) ⟨[(3, .ptr 3 0), (4, .ptr 4 0), (5, .ptr 5 0), (7, .ptr 7 0), (8, .ptr 8 0), (9, .ptr 9 0), (10, i64 0)], [(3, ⟨true, 0, [i64 b3_0, i64 b3_1, i64 b3_2, i64 b3_3]⟩), (4, ⟨true, 0, [i64 b4_0, i64 b4_1, i64 b4_2, i64 b4_3]⟩), (5, ⟨true, 0, [i64 b5_0, i64 b5_1, i64 b5_2, i64 b5_3]⟩), (7, ⟨true, 0, [i64 b7_0, i64 b7_1, i64 b7_2]⟩), (8, ⟨true, 0, [i64 b8_0, i64 b8_1, i64 b8_2]⟩), (9, ⟨true, 0, [i64 b9_0, i64 b9_1, i64 b9_2]⟩)]⟩ := by
  unfold Dspec_l6Clash3_0 at h
  obtain ⟨v4, hv4, h⟩ := bind_some h
  replace h := Option.some.inj h; subst h
  exact x_end 21 [(17, .call [] [(eInt).f [b3_3, b4_3, b5_3], (eInt).f [b7_0, b8_0, b9_0]] (bl v4) [])] [] (ocons (Tspec_l6Sum (Y := Y) n [b7_0, b8_0, b9_0] [b3_3, b4_3, b5_3] _ hv4) (ocons (len_row (L := [b7_0, b8_0, b9_0]) eInt) (ocons (Enc.share eInt eInt sInt [b7_0, b8_0, b9_0]) (ocons (len_row (L := [b3_3, b4_3, b5_3]) eInt) (ocons (Enc.share eInt eInt sInt [b3_3, b4_3, b5_3]) onil))))) onil (by kernel_rfl)
def Dspec_l6Clash3_2 (n : Nat) (_b3_0 _b3_1 _b3_2 b3_3 _b4_0 _b4_1 _b4_2 b4_3 _b5_0 _b5_1 _b5_2 b5_3 _b7_0 b7_1 _b7_2 _b8_0 b8_1 _b8_2 _b9_0 b9_1 _b9_2 : Int) : Option Bool :=
  (Dspec_l6Sum n [b7_1, b8_1, b9_1] [b3_3, b4_3, b5_3]).bind fun v6 => some v6
theorem Tspec_l6Clash3_2 {Y} (n : Nat) (b3_0 b3_1 b3_2 b3_3 b4_0 b4_1 b4_2 b4_3 b5_0 b5_1 b5_2 b5_3 b7_0 b7_1 b7_2 b8_0 b8_1 b8_2 b9_0 b9_1 b9_2 : Int) (r : Bool) (h : Dspec_l6Clash3_2 n b3_0 b3_1 b3_2 b3_3 b4_0 b4_1 b4_2 b4_3 b5_0 b5_1 b5_2 b5_3 b7_0 b7_1 b7_2 b8_0 b8_1 b8_2 b9_0 b9_1 b9_2 = some r) : Wk Try.prog H Y 98 [.code (cp [1, 1, 1, 1, 1, 0, 1, 0, 0, 1, 0, 0, 1, 0, 0] (bodyOf Try.f98)), .code (cp [1, 1, 1, 1, 1, 0, 1, 0, 0, 1, 0, 0, 1, 0, 1] (bodyOf Try.f98)), .blk 1, .code (cp [1, 1, 1, 1, 1, 0, 1, 0, 0, 1, 1] (bodyOf Try.f98)), .lp (cp [1, 1, 1, 1, 1, 0, 1, 0] (bodyOf Try.f98)), .blk 0, .code (cp [1, 1, 1, 1, 1, 1] (bodyOf Try.f98))] (FinX Try.prog Try.f98 [] (bl r) []) ⟨[(3, .ptr 3 0), (4, .ptr 4 0), (5, .ptr 5 0), (7, .ptr 7 0), (8, .ptr 8 0), (9, .ptr 9 0), (10, i64 1)], [(3, ⟨true, 0, [i64 b3_0, i64 b3_1, i64 b3_2, i64 b3_3]⟩), (4, ⟨true, 0, [i64 b4_0, i64 b4_1, i64 b4_2, i64 b4_3]⟩), (5, ⟨true, 0, [i64 b5_0, i64 b5_1, i64 b5_2, i64 b5_3]⟩), (7, ⟨true, 0, [i64 b7_0, i64 b7_1, i64 b7_2]⟩), (8, ⟨true, 0, [i64 b8_0, i64 b8_1, i64 b8_2]⟩), (9, ⟨true, 0, [i64 b9_0, i64 b9_1, i64 b9_2]⟩)]⟩ := by
  unfold Dspec_l6Clash3_2 at h
  obtain ⟨v6, hv6, h⟩ := bind_some h
  replace h := Option.some.inj h; subst h
  exact x_end 21 [(17, .call [] [(eInt).f [b3_3, b4_3, b5_3], (eInt).f [b7_1, b8_1, b9_1]] (bl v6) [])] [] (ocons (Tspec_l6Sum (Y := Y) n [b7_1, b8_1, b9_1] [b3_3, b4_3, b5_3] _ hv6) (ocons (len_row (L := [b7_1, b8_1, b9_1]) eInt) (ocons (Enc.share eInt eInt sInt [b7_1, b8_1, b9_1]) (ocons (len_row (L := [b3_3, b4_3, b5_3]) eInt) (ocons (Enc.share eInt eInt sInt [b3_3, b4_3, b5_3]) onil))))) onil (by kernel_rfl)
def Dspec_l6Clash3_4 (n : Nat) (_b3_0 _b3_1 _b3_2 b3_3 _b4_0 _b4_1 _b4_2 b4_3 _b5_0 _b5_1 _b5_2 b5_3 _b7_0 _b7_1 b7_2 _b8_0 _b8_1 b8_2 _b9_0 _b9_1 b9_2 : Int) : Option Bool :=
  (Dspec_l6Sum n [b7_2, b8_2, b9_2] [b3_3, b4_3, b5_3]).bind fun v8 => some v8
theorem Tspec_l6Clash3_4 {Y} (n : Nat) (b3_0 b3_1 b3_2 b3_3 b4_0 b4_1 b4_2 b4_3 b5_0 b5_1 b5_2 b5_3 b7_0 b7_1 b7_2 b8_0 b8_1 b8_2 b9_0 b9_1 b9_2 : Int) (r : Bool) (h : Dspec_l6Clash3_4 n b3_0 b3_1 b3_2 b3_3 b4_0 b4_1 b4_2 b4_3 b5_0 b5_1 b5_2 b5_3 b7_0 b7_1 b7_2 b8_0 b8_1 b8_2 b9_0 b9_1 b9_2 = some r) : Wk Try.prog H Y 98 [.code (cp [1, 1, 1, 1, 1, 0, 1, 0, 0, 1, 0, 0, 1, 0, 0] (bodyOf Try.f98)), .code (cp [1, 1, 1, 1, 1, 0, 1, 0, 0, 1, 0, 0, 1, 0, 1] (bodyOf Try.f98)), .blk 1, .code (cp [1, 1, 1, 1, 1, 0, 1, 0, 0, 1, 1] (bodyOf Try.f98)), .lp (cp [1, 1, 1, 1, 1, 0, 1, 0] (bodyOf Try.f98)), .blk 0, .code (cp [1, 1, 1, 1, 1, 1] (bodyOf Try.f98))] (FinX Try.prog Try.f98 [] (bl r) []) ⟨[(3, .ptr 3 0), (4, .ptr 4 0), (5, .ptr 5 0), (7, .ptr 7 0), (8, .ptr 8 0), (9, .ptr 9 0), (10, i64 2)], [(3, ⟨true, 0, [i64 b3_0, i64 b3_1, i64 b3_2, i64 b3_3]⟩), (4, ⟨true, 0, [i64 b4_0, i64 b4_1, i64 b4_2, i64 b4_3]⟩), (5, ⟨true, 0, [i64 b5_0, i64 b5_1, i64 b5_2, i64 b5_3]⟩), (7, ⟨true, 0, [i64 b7_0, i64 b7_1, i64 b7_2]⟩), (8, ⟨true, 0, [i64 b8_0, i64 b8_1, i64 b8_2]⟩), (9, ⟨true, 0, [i64 b9_0, i64 b9_1, i64 b9_2]⟩)]⟩ := by
  unfold Dspec_l6Clash3_4 at h
  obtain ⟨v8, hv8, h⟩ := bind_some h
  replace h := Option.some.inj h; subst h
  exact x_end 21 [(17, .call [] [(eInt).f [b3_3, b4_3, b5_3], (eInt).f [b7_2, b8_2, b9_2]] (bl v8) [])] [] (ocons (Tspec_l6Sum (Y := Y) n [b7_2, b8_2, b9_2] [b3_3, b4_3, b5_3] _ hv8) (ocons (len_row (L := [b7_2, b8_2, b9_2]) eInt) (ocons (Enc.share eInt eInt sInt [b7_2, b8_2, b9_2]) (ocons (len_row (L := [b3_3, b4_3, b5_3]) eInt) (ocons (Enc.share eInt eInt sInt [b3_3, b4_3, b5_3]) onil))))) onil (by kernel_rfl)
def Dspec_l6Clash3_5 (n : Nat) (t44 : Bool) (_b3_0 _b3_1 _b3_2 b3_3 _b4_0 _b4_1 _b4_2 b4_3 _b5_0 _b5_1 _b5_2 b5_3 _b7_0 _b7_1 b7_2 _b8_0 _b8_1 b8_2 _b9_0 _b9_1 b9_2 : Int) : Option Bool :=
  frk t44 ((Dspec_l6Sum n [b7_2, b8_2, b9_2] [b3_3, b4_3, b5_3]).bind fun v9 => some v9) (some false)
theorem Tspec_l6Clash3_5 {Y} (n : Nat) (t44 : Bool) (b3_0 b3_1 b3_2 b3_3 b4_0 b4_1 b4_2 b4_3 b5_0 b5_1 b5_2 b5_3 b7_0 b7_1 b7_2 b8_0 b8_1 b8_2 b9_0 b9_1 b9_2 : Int) (r : Bool) (h : Dspec_l6Clash3_5 n t44 b3_0 b3_1 b3_2 b3_3 b4_0 b4_1 b4_2 b4_3 b5_0 b5_1 b5_2 b5_3 b7_0 b7_1 b7_2 b8_0 b8_1 b8_2 b9_0 b9_1 b9_2 = some r) : Wk Try.prog H Y 98 [.code (cp [1, 1, 1, 1, 1, 0, 1, 0, 0, 1, 0, 0, 1] (bodyOf Try.f98)), .blk 1, .code (cp [1, 1, 1, 1, 1, 0, 1, 0, 0, 1, 1] (bodyOf Try.f98)), .lp (cp [1, 1, 1, 1, 1, 0, 1, 0] (bodyOf Try.f98)), .blk 0, .code (cp [1, 1, 1, 1, 1, 1] (bodyOf Try.f98))] (FinX Try.prog Try.f98 [] (bl r) []) ⟨[(3, .ptr 3 0), (4, .ptr 4 0), (5, .ptr 5 0), (7, .ptr 7 0), (8, .ptr 8 0), (9, .ptr 9 0), (10, i64 2), (44, bl t44)], [(3, ⟨true, 0, [i64 b3_0, i64 b3_1, i64 b3_2, i64 b3_3]⟩), (4, ⟨true, 0, [i64 b4_0, i64 b4_1, i64 b4_2, i64 b4_3]⟩), (5, ⟨true, 0, [i64 b5_0, i64 b5_1, i64 b5_2, i64 b5_3]⟩), (7, ⟨true, 0, [i64 b7_0, i64 b7_1, i64 b7_2]⟩), (8, ⟨true, 0, [i64 b8_0, i64 b8_1, i64 b8_2]⟩), (9, ⟨true, 0, [i64 b9_0, i64 b9_1, i64 b9_2]⟩)]⟩ := by
  unfold Dspec_l6Clash3_5 at h
  refine x_frk 0 [] onil h (by kernel_rfl) (fun h => ?_) (fun h => ?_)
  · obtain ⟨v9, hv9, h⟩ := bind_some h
    replace h := Option.some.inj h; subst h
    exact x_end 22 [(17, .call [] [(eInt).f [b3_3, b4_3, b5_3], (eInt).f [b7_2, b8_2, b9_2]] (bl v9) [])] [] (ocons (Tspec_l6Sum (Y := Y) n [b7_2, b8_2, b9_2] [b3_3, b4_3, b5_3] _ hv9) (ocons (len_row (L := [b7_2, b8_2, b9_2]) eInt) (ocons (Enc.share eInt eInt sInt [b7_2, b8_2, b9_2]) (ocons (len_row (L := [b3_3, b4_3, b5_3]) eInt) (ocons (Enc.share eInt eInt sInt [b3_3, b4_3, b5_3]) onil))))) onil (by kernel_rfl)
  · replace h := Option.some.inj h; subst h
    exact x_end 21 [] [] onil onil (by kernel_rfl)
def Dspec_l6Clash3_3 (n : Nat) (t44 : Bool) (b3_0 b3_1 b3_2 b3_3 b4_0 b4_1 b4_2 b4_3 b5_0 b5_1 b5_2 b5_3 b7_0 b7_1 b7_2 b8_0 b8_1 b8_2 b9_0 b9_1 b9_2 : Int) : Option Bool :=
  frk t44 ((Dspec_l6Sum n [b7_1, b8_1, b9_1] [b3_3, b4_3, b5_3]).bind fun v7 => some v7) (frk (b7_2 != 0) (Dspec_l6Clash3_4 n b3_0 b3_1 b3_2 b3_3 b4_0 b4_1 b4_2 b4_3 b5_0 b5_1 b5_2 b5_3 b7_0 b7_1 b7_2 b8_0 b8_1 b8_2 b9_0 b9_1 b9_2) (frk (b8_2 != 0) (Dspec_l6Clash3_4 n b3_0 b3_1 b3_2 b3_3 b4_0 b4_1 b4_2 b4_3 b5_0 b5_1 b5_2 b5_3 b7_0 b7_1 b7_2 b8_0 b8_1 b8_2 b9_0 b9_1 b9_2) (Dspec_l6Clash3_5 n (b9_2 != 0) b3_0 b3_1 b3_2 b3_3 b4_0 b4_1 b4_2 b4_3 b5_0 b5_1 b5_2 b5_3 b7_0 b7_1 b7_2 b8_0 b8_1 b8_2 b9_0 b9_1 b9_2)))
theorem Tspec_l6Clash3_3 {Y} (n : Nat) (t44 : Bool) (b3_0 b3_1 b3_2 b3_3 b4_0 b4_1 b4_2 b4_3 b5_0 b5_1 b5_2 b5_3 b7_0 b7_1 b7_2 b8_0 b8_1 b8_2 b9_0 b9_1 b9_2 : Int) (r : Bool) (h : Dspec_l6Clash3_3 n t44 b3_0 b3_1 b3_2 b3_3 b4_0 b4_1 b4_2 b4_3 b5_0 b5_1 b5_2 b5_3 b7_0 b7_1 b7_2 b8_0 b8_1 b8_2 b9_0 b9_1 b9_2 = some r) : Wk Try.prog H Y 98 [.code (cp [1, 1, 1, 1, 1, 0, 1, 0, 0, 1, 0, 0, 1] (bodyOf Try.f98)), .blk 1, .code (cp [1, 1, 1, 1, 1, 0, 1, 0, 0, 1, 1] (bodyOf Try.f98)), .lp (cp [1, 1, 1, 1, 1, 0, 1, 0] (bodyOf Try.f98)), .blk 0, .code (cp [1, 1, 1, 1, 1, 1] (bodyOf Try.f98))] (FinX Try.prog Try.f98 [] (bl r) []) ⟨[(3, .ptr 3 0), (4, .ptr 4 0), (5, .ptr 5 0), (7, .ptr 7 0), (8, .ptr 8 0), (9, .ptr 9 0), (10, i64 1), (44, bl t44)], [(3, ⟨true, 0, [i64 b3_0, i64 b3_1, i64 b3_2, i64 b3_3]⟩), (4, ⟨true, 0, [i64 b4_0, i64 b4_1, i64 b4_2, i64 b4_3]⟩), (5, ⟨true, 0, [i64 b5_0, i64 b5_1, i64 b5_2, i64 b5_3]⟩), (7, ⟨true, 0, [i64 b7_0, i64 b7_1, i64 b7_2]⟩), (8, ⟨true, 0, [i64 b8_0, i64 b8_1, i64 b8_2]⟩), (9, ⟨true, 0, [i64 b9_0, i64 b9_1, i64 b9_2]⟩)]⟩ := by
  unfold Dspec_l6Clash3_3 at h
  refine x_frk 0 [] onil h (by kernel_rfl) (fun h => ?_) (fun h => ?_)
  · obtain ⟨v7, hv7, h⟩ := bind_some h
    replace h := Option.some.inj h; subst h
    exact x_end 22 [(17, .call [] [(eInt).f [b3_3, b4_3, b5_3], (eInt).f [b7_1, b8_1, b9_1]] (bl v7) [])] [] (ocons (Tspec_l6Sum (Y := Y) n [b7_1, b8_1, b9_1] [b3_3, b4_3, b5_3] _ hv7) (ocons (len_row (L := [b7_1, b8_1, b9_1]) eInt) (ocons (Enc.share eInt eInt sInt [b7_1, b8_1, b9_1]) (ocons (len_row (L := [b3_3, b4_3, b5_3]) eInt) (ocons (Enc.share eInt eInt sInt [b3_3, b4_3, b5_3]) onil))))) onil (by kernel_rfl)
  · refine x_frk 26 [] onil h (by kernel_rfl) (fun h => ?_) (fun h => ?_)
    · exact x_to 14 [] onil (Tspec_l6Clash3_4 n b3_0 b3_1 b3_2 b3_3 b4_0 b4_1 b4_2 b4_3 b5_0 b5_1 b5_2 b5_3 b7_0 b7_1 b7_2 b8_0 b8_1 b8_2 b9_0 b9_1 b9_2 r h) (by kernel_rfl)
    · refine x_frk 6 [] onil h (by kernel_rfl) (fun h => ?_) (fun h => ?_)
      · exact x_to 8 [] onil (Tspec_l6Clash3_4 n b3_0 b3_1 b3_2 b3_3 b4_0 b4_1 b4_2 b4_3 b5_0 b5_1 b5_2 b5_3 b7_0 b7_1 b7_2 b8_0 b8_1 b8_2 b9_0 b9_1 b9_2 r h) (by kernel_rfl)
      · exact x_to 6 [] onil (Tspec_l6Clash3_5 n (b9_2 != 0) b3_0 b3_1 b3_2 b3_3 b4_0 b4_1 b4_2 b4_3 b5_0 b5_1 b5_2 b5_3 b7_0 b7_1 b7_2 b8_0 b8_1 b8_2 b9_0 b9_1 b9_2 r h) (by kernel_rfl)
def Dspec_l6Clash3_1 (n : Nat) (t44 : Bool) (b3_0 b3_1 b3_2 b3_3 b4_0 b4_1 b4_2 b4_3 b5_0 b5_1 b5_2 b5_3 b7_0 b7_1 b7_2 b8_0 b8_1 b8_2 b9_0 b9_1 b9_2 : Int) : Option Bool :=
  frk t44 ((Dspec_l6Sum n [b7_0, b8_0, b9_0] [b3_3, b4_3, b5_3]).bind fun v5 => some v5) (frk (b7_1 != 0) (Dspec_l6Clash3_2 n b3_0 b3_1 b3_2 b3_3 b4_0 b4_1 b4_2 b4_3 b5_0 b5_1 b5_2 b5_3 b7_0 b7_1 b7_2 b8_0 b8_1 b8_2 b9_0 b9_1 b9_2) (frk (b8_1 != 0) (Dspec_l6Clash3_2 n b3_0 b3_1 b3_2 b3_3 b4_0 b4_1 b4_2 b4_3 b5_0 b5_1 b5_2 b5_3 b7_0 b7_1 b7_2 b8_0 b8_1 b8_2 b9_0 b9_1 b9_2) (Dspec_l6Clash3_3 n (b9_1 != 0) b3_0 b3_1 b3_2 b3_3 b4_0 b4_1 b4_2 b4_3 b5_0 b5_1 b5_2 b5_3 b7_0 b7_1 b7_2 b8_0 b8_1 b8_2 b9_0 b9_1 b9_2)))
theorem Tspec_l6Clash3_1 {Y} (n : Nat) (t44 : Bool) (b3_0 b3_1 b3_2 b3_3 b4_0 b4_1 b4_2 b4_3 b5_0 b5_1 b5_2 b5_3 b7_0 b7_1 b7_2 b8_0 b8_1 b8_2 b9_0 b9_1 b9_2 : Int) (r : Bool) (h : Dspec_l6Clash3_1 n t44 b3_0 b3_1 b3_2 b3_3 b4_0 b4_1 b4_2 b4_3 b5_0 b5_1 b5_2 b5_3 b7_0 b7_1 b7_2 b8_0 b8_1 b8_2 b9_0 b9_1 b9_2 = some r) : Wk Try.prog H Y 98 [.code (cp [1, 1, 1, 1, 1, 0, 1, 0, 0, 1, 0, 0, 1] (bodyOf Try.f98)), .blk 1, .code (cp [1, 1, 1, 1, 1, 0, 1, 0, 0, 1, 1] (bodyOf Try.f98)), .lp (cp [1, 1, 1, 1, 1, 0, 1, 0] (bodyOf Try.f98)), .blk 0, .code (cp [1, 1, 1, 1, 1, 1] (bodyOf Try.f98))] (FinX Try.prog Try.f98 [] (bl r) []) ⟨[(3, .ptr 3 0), (4, .ptr 4 0), (5, .ptr 5 0), (7, .ptr 7 0), (8, .ptr 8 0), (9, .ptr 9 0), (10, i64 0), (44, bl t44)], [(3, ⟨true, 0, [i64 b3_0, i64 b3_1, i64 b3_2, i64 b3_3]⟩), (4, ⟨true, 0, [i64 b4_0, i64 b4_1, i64 b4_2, i64 b4_3]⟩), (5, ⟨true, 0, [i64 b5_0, i64 b5_1, i64 b5_2, i64 b5_3]⟩), (7, ⟨true, 0, [i64 b7_0, i64 b7_1, i64 b7_2]⟩), (8, ⟨true, 0, [i64 b8_0, i64 b8_1, i64 b8_2]⟩), (9, ⟨true, 0, [i64 b9_0, i64 b9_1, i64 b9_2]⟩)]⟩ := by
  unfold Dspec_l6Clash3_1 at h
  refine x_frk 0 [] onil h (by kernel_rfl) (fun h => ?_) (fun h => ?_)
  · obtain ⟨v5, hv5, h⟩ := bind_some h
    replace h := Option.some.inj h; subst h
    exact x_end 22 [(17, .call [] [(eInt).f [b3_3, b4_3, b5_3], (eInt).f [b7_0, b8_0, b9_0]] (bl v5) [])] [] (ocons (Tspec_l6Sum (Y := Y) n [b7_0, b8_0, b9_0] [b3_3, b4_3, b5_3] _ hv5) (ocons (len_row (L := [b7_0, b8_0, b9_0]) eInt) (ocons (Enc.share eInt eInt sInt [b7_0, b8_0, b9_0]) (ocons (len_row (L := [b3_3, b4_3, b5_3]) eInt) (ocons (Enc.share eInt eInt sInt [b3_3, b4_3, b5_3]) onil))))) onil (by kernel_rfl)
  · refine x_frk 26 [] onil h (by kernel_rfl) (fun h => ?_) (fun h => ?_)
    · exact x_to 14 [] onil (Tspec_l6Clash3_2 n b3_0 b3_1 b3_2 b3_3 b4_0 b4_1 b4_2 b4_3 b5_0 b5_1 b5_2 b5_3 b7_0 b7_1 b7_2 b8_0 b8_1 b8_2 b9_0 b9_1 b9_2 r h) (by kernel_rfl)
    · refine x_frk 6 [] onil h (by kernel_rfl) (fun h => ?_) (fun h => ?_)
      · exact x_to 8 [] onil (Tspec_l6Clash3_2 n b3_0 b3_1 b3_2 b3_3 b4_0 b4_1 b4_2 b4_3 b5_0 b5_1 b5_2 b5_3 b7_0 b7_1 b7_2 b8_0 b8_1 b8_2 b9_0 b9_1 b9_2 r h) (by kernel_rfl)
      · exact x_to 6 [] onil (Tspec_l6Clash3_3 n (b9_1 != 0) b3_0 b3_1 b3_2 b3_3 b4_0 b4_1 b4_2 b4_3 b5_0 b5_1 b5_2 b5_3 b7_0 b7_1 b7_2 b8_0 b8_1 b8_2 b9_0 b9_1 b9_2 r h) (by kernel_rfl)
def Dspec_l6Clash3 (n : Nat) (a0 : Pl) (a1 : Pl) (a2 : Pl) : Option Bool :=
  (Dspec_l4Det3 a0 a1 a2).bind fun v0 => frk (v0 != 0) (some false) ((Dspec_l4Cross a1 a2).bind fun v1 => (Dspec_l4Cross a2 a0).bind fun v2 => (Dspec_l4Cross a0 a1).bind fun v3 => frk (v1.1 != 0) (Dspec_l6Clash3_0 n a0.A a0.B a0.C a0.D a1.A a1.B a1.C a1.D a2.A a2.B a2.C a2.D v1.1 v1.2.1 v1.2.2 v2.1 v2.2.1 v2.2.2 v3.1 v3.2.1 v3.2.2) (frk (v2.1 != 0) (Dspec_l6Clash3_0 n a0.A a0.B a0.C a0.D a1.A a1.B a1.C a1.D a2.A a2.B a2.C a2.D v1.1 v1.2.1 v1.2.2 v2.1 v2.2.1 v2.2.2 v3.1 v3.2.1 v3.2.2) (Dspec_l6Clash3_1 n (v3.1 != 0) a0.A a0.B a0.C a0.D a1.A a1.B a1.C a1.D a2.A a2.B a2.C a2.D v1.1 v1.2.1 v1.2.2 v2.1 v2.2.1 v2.2.2 v3.1 v3.2.1 v3.2.2)))
theorem Tspec_l6Clash3 {Y} (n : Nat) (a0 : Pl) (a1 : Pl) (a2 : Pl) (r : Bool) (h : Dspec_l6Clash3 n a0 a1 a2 = some r) : Big Try.prog H Y (.call 98 [.agg [i64 a0.A, i64 a0.B, i64 a0.C, i64 a0.D], .agg [i64 a1.A, i64 a1.B, i64 a1.C, i64 a1.D], .agg [i64 a2.A, i64 a2.B, i64 a2.C, i64 a2.D]] (lk []) (bl r) (lk [])) := by
  unfold Dspec_l6Clash3 at h
  refine x_call (fn := Try.f98) (c := bodyOf Try.f98) (bs0 := []) Try.func98 (by kernel_rfl) (by kernel_rfl) ?_
  obtain ⟨v0, hv0, h⟩ := bind_some h
  refine x_frk 16 [(7, .call [] [] (i64 v0) [])] (ocons (Tspec_l4Det3 (Y := Y) a0 a1 a2 _ hv0) onil) h (by kernel_rfl) (fun h => ?_) (fun h => ?_)
  · replace h := Option.some.inj h; subst h
    exact x_end 4 [] [] onil onil (by kernel_rfl)
  · obtain ⟨v1, hv1, h⟩ := bind_some h
    obtain ⟨v2, hv2, h⟩ := bind_some h
    obtain ⟨v3, hv3, h⟩ := bind_some h
    refine x_frk 49 [(2, .call [] [] (.agg [i64 v1.1, i64 v1.2.1, i64 v1.2.2]) []), (4, .call [] [] (.agg [i64 v2.1, i64 v2.2.1, i64 v2.2.2]) []), (4, .call [] [] (.agg [i64 v3.1, i64 v3.2.1, i64 v3.2.2]) [])] (ocons (Tspec_l4Cross (Y := Y) a1 a2 _ hv1) (ocons (Tspec_l4Cross (Y := Y) a2 a0 _ hv2) (ocons (Tspec_l4Cross (Y := Y) a0 a1 _ hv3) onil))) h (by kernel_rfl) (fun h => ?_) (fun h => ?_)
    · exact x_to 14 [] onil (Tspec_l6Clash3_0 n a0.A a0.B a0.C a0.D a1.A a1.B a1.C a1.D a2.A a2.B a2.C a2.D v1.1 v1.2.1 v1.2.2 v2.1 v2.2.1 v2.2.2 v3.1 v3.2.1 v3.2.2 r h) (by kernel_rfl)
    · refine x_frk 6 [] onil h (by kernel_rfl) (fun h => ?_) (fun h => ?_)
      · exact x_to 8 [] onil (Tspec_l6Clash3_0 n a0.A a0.B a0.C a0.D a1.A a1.B a1.C a1.D a2.A a2.B a2.C a2.D v1.1 v1.2.1 v1.2.2 v2.1 v2.2.1 v2.2.2 v3.1 v3.2.1 v3.2.2 r h) (by kernel_rfl)
      · exact x_to 6 [] onil (Tspec_l6Clash3_1 n (v3.1 != 0) a0.A a0.B a0.C a0.D a1.A a1.B a1.C a1.D a2.A a2.B a2.C a2.D v1.1 v1.2.1 v1.2.2 v2.1 v2.2.1 v2.2.2 v3.1 v3.2.1 v3.2.2 r h) (by kernel_rfl)
/-! spec.l6Clash4 -/
def Dspec_l6Clash4 (n : Nat) (a0 : Pl) (a1 : Pl) (a2 : Pl) (a3 : Pl) : Option Bool :=
  (Dspec_l4Det3 a1 a2 a3).bind fun v0 => (Dspec_l4Det3 a0 a2 a3).bind fun v1 => (Dspec_l4Det3 a0 a1 a3).bind fun v2 => (Dspec_l4Det3 a0 a1 a2).bind fun v3 => (Dspec_l6Sum n [v0, w64 (0 - v1), v2, w64 (0 - v3)] [a0.D, a1.D, a2.D, a3.D]).bind fun v4 => some v4
theorem Tspec_l6Clash4 {Y} (n : Nat) (a0 : Pl) (a1 : Pl) (a2 : Pl) (a3 : Pl) (r : Bool) (h : Dspec_l6Clash4 n a0 a1 a2 a3 = some r) : Big Try.prog H Y (.call 99 [.agg [i64 a0.A, i64 a0.B, i64 a0.C, i64 a0.D], .agg [i64 a1.A, i64 a1.B, i64 a1.C, i64 a1.D], .agg [i64 a2.A, i64 a2.B, i64 a2.C, i64 a2.D], .agg [i64 a3.A, i64 a3.B, i64 a3.C, i64 a3.D]] (lk []) (bl r) (lk [])) := by
  unfold Dspec_l6Clash4 at h
  refine x_call (fn := Try.f99) (c := bodyOf Try.f99) (bs0 := []) Try.func99 (by kernel_rfl) (by kernel_rfl) ?_
  obtain ⟨v0, hv0, h⟩ := bind_some h
  obtain ⟨v1, hv1, h⟩ := bind_some h
  obtain ⟨v2, hv2, h⟩ := bind_some h
  obtain ⟨v3, hv3, h⟩ := bind_some h
  obtain ⟨v4, hv4, h⟩ := bind_some h
  replace h := Option.some.inj h; subst h
  exact x_end 46 [(8, .call [] [] (i64 v0) []), (3, .call [] [] (i64 v1) []), (4, .call [] [] (i64 v2) []), (3, .call [] [] (i64 v3) []), (13, .call [] [(eInt).f [a0.D, a1.D, a2.D, a3.D], (eInt).f [v0, w64 (0 - v1), v2, w64 (0 - v3)]] (bl v4) [])] [] (ocons (Tspec_l4Det3 (Y := Y) a1 a2 a3 _ hv0) (ocons (Tspec_l4Det3 (Y := Y) a0 a2 a3 _ hv1) (ocons (Tspec_l4Det3 (Y := Y) a0 a1 a3 _ hv2) (ocons (Tspec_l4Det3 (Y := Y) a0 a1 a2 _ hv3) (ocons (Tspec_l6Sum (Y := Y) n [v0, w64 (0 - v1), v2, w64 (0 - v3)] [a0.D, a1.D, a2.D, a3.D] _ hv4) (ocons (len_row (L := [v0, w64 (0 - v1), v2, w64 (0 - v3)]) eInt) (ocons (Enc.share eInt eInt sInt [v0, w64 (0 - v1), v2, w64 (0 - v3)]) (ocons (len_row (L := [a0.D, a1.D, a2.D, a3.D]) eInt) (ocons (Enc.share eInt eInt sInt [a0.D, a1.D, a2.D, a3.D]) onil))))))))) onil (by kernel_rfl)
/-! spec.l6With -/
def Dspec_l6With_0 (n : Nat) (rec1 : Int → Option Bool) (_rec0 : Int → Option Bool) (t6 : Int) (t0 : List Pl) (t5 b3_0 b3_1 b3_2 b3_3 t7 : Int) (rec2 : Int → Option Bool) (a : Int) : Option Bool :=
  match a with
  | t8 => frk (decide (t8 < t5)) ((lget t0 t6).bind fun v5 => (lget t0 t7).bind fun v6 => (lget t0 t8).bind fun v7 => (Dspec_l6Clash4 n v5 v6 v7 (Pl.mk b3_0 b3_1 b3_2 b3_3)).bind fun v8 => frk v8 (some true) (rec2 (w64 (t8 + 1)))) (rec1 (w64 (t7 + 1)))
theorem Tspec_l6With_0 {Y} (n : Nat) (rec1 : Int → Option Bool) (rec0 : Int → Option Bool) (t6 : Int) (t0 : List Pl) (t5 b3_0 b3_1 b3_2 b3_3 : Int) (hrec1 : ∀ (a : Int) (r : Bool), rec1 a = some r → Wk Try.prog H Y 65 [.code (cp [1, 1, 0, 1, 0, 0, 1, 0, 0, 1, 1, 0] (bodyOf Try.f65)), .blk 2, .blk 1, .code (cp [1, 1, 0, 1, 0, 0, 1, 1] (bodyOf Try.f65)), .lp (cp [1, 1, 0, 1, 0] (bodyOf Try.f65)), .blk 0, .code (cp [1, 1, 1] (bodyOf Try.f65))] (FinX Try.prog Try.f65 [] (bl r) []) ⟨[(0, .sl false 4 t0.length ((ePl).f t0)), (3, .ptr 3 0), (5, i64 t5), (6, i64 t6), (7, i64 a)], [(3, ⟨true, 0, [i64 b3_0, i64 b3_1, i64 b3_2, i64 b3_3]⟩)]⟩) (_hrec0 : ∀ (a : Int) (r : Bool), rec0 a = some r → Wk Try.prog H Y 65 [.code (cp [1, 1, 0, 1, 0] (bodyOf Try.f65)), .blk 0, .code (cp [1, 1, 1] (bodyOf Try.f65))] (FinX Try.prog Try.f65 [] (bl r) []) ⟨[(0, .sl false 4 t0.length ((ePl).f t0)), (3, .ptr 3 0), (5, i64 t5), (6, i64 a)], [(3, ⟨true, 0, [i64 b3_0, i64 b3_1, i64 b3_2, i64 b3_3]⟩)]⟩) (t7 : Int) : ∀ (m : Nat) (a : Int) (r : Bool), loopN (Dspec_l6With_0 n rec1 rec0 t6 t0 t5 b3_0 b3_1 b3_2 b3_3 t7) m a = some r → Wk Try.prog H Y 65 [.code (cp [1, 1, 0, 1, 0, 0, 1, 0, 0, 1, 1, 0, 0, 1, 0, 0, 1, 1, 0] (bodyOf Try.f65)), .blk 4, .blk 3, .code (cp [1, 1, 0, 1, 0, 0, 1, 0, 0, 1, 1, 0, 0, 1, 1] (bodyOf Try.f65)), .lp (cp [1, 1, 0, 1, 0, 0, 1, 0, 0, 1, 1, 0] (bodyOf Try.f65)), .blk 2, .blk 1, .code (cp [1, 1, 0, 1, 0, 0, 1, 1] (bodyOf Try.f65)), .lp (cp [1, 1, 0, 1, 0] (bodyOf Try.f65)), .blk 0, .code (cp [1, 1, 1] (bodyOf Try.f65))] (FinX Try.prog Try.f65 [] (bl r) []) ⟨[(0, .sl false 4 t0.length ((ePl).f t0)), (3, .ptr 3 0), (5, i64 t5), (6, i64 t6), (7, i64 t7), (8, i64 a)], [(3, ⟨true, 0, [i64 b3_0, i64 b3_1, i64 b3_2, i64 b3_3]⟩)]⟩ := by
  refine loopN_ind (fun _rec2 hrec2 a r h => ?_)
  obtain ⟨t8, rfl⟩ : ∃ x, x = a := ⟨a, rfl⟩
  unfold Dspec_l6With_0 at h
  refine x_frk 8 [] onil h (by kernel_rfl) (fun h => ?_) (fun h => ?_)
  · obtain ⟨v5, hv5, h⟩ := bind_some h
    obtain ⟨v6, hv6, h⟩ := bind_some h
    obtain ⟨v7, hv7, h⟩ := bind_some h
    obtain ⟨v8, hv8, h⟩ := bind_some h
    refine x_frk 20 [(2, .val (.cptr (ePl.c v5 ++ (ePl).f ((t0).drop (Int.toNat t6 + 1))))), (3, .val (.cptr (ePl.c v6 ++ (ePl).f ((t0).drop (Int.toNat t7 + 1))))), (3, .val (.cptr (ePl.c v7 ++ (ePl).f ((t0).drop (Int.toNat t8 + 1))))), (2, .call [] [] (bl v8) [])] (ocons (ix ePl hv5) (ocons (ix ePl hv6) (ocons (ix ePl hv7) (ocons (Tspec_l6Clash4 (Y := Y) n v5 v6 v7 (Pl.mk b3_0 b3_1 b3_2 b3_3) _ hv8) onil)))) h (by kernel_rfl) (fun h => ?_) (fun h => ?_)
    · replace h := Option.some.inj h; subst h
      exact x_end 4 [] [] onil onil (by kernel_rfl)
    · exact x_to 8 [] onil (hrec2 (w64 (t8 + 1)) r h) (by kernel_rfl)
  · exact x_to 8 [] onil (hrec1 (w64 (t7 + 1)) r h) (by kernel_rfl)
def Dspec_l6With_1 (n : Nat) (rec0 : Int → Option Bool) (t0 : List Pl) (t5 b3_0 b3_1 b3_2 b3_3 t6 : Int) (rec1 : Int → Option Bool) (a : Int) : Option Bool :=
  match a with
  | t7 => frk (decide (t7 < t5)) ((lget t0 t6).bind fun v2 => (lget t0 t7).bind fun v3 => (Dspec_l6Clash3 n v2 v3 (Pl.mk b3_0 b3_1 b3_2 b3_3)).bind fun v4 => frk v4 (some true) (loopN (Dspec_l6With_0 n rec1 rec0 t6 t0 t5 b3_0 b3_1 b3_2 b3_3 t7) n (w64 (t7 + 1)))) (rec0 (w64 (t6 + 1)))
theorem Tspec_l6With_1 {Y} (n : Nat) (rec0 : Int → Option Bool) (t0 : List Pl) (t5 b3_0 b3_1 b3_2 b3_3 : Int) (hrec0 : ∀ (a : Int) (r : Bool), rec0 a = some r → Wk Try.prog H Y 65 [.code (cp [1, 1, 0, 1, 0] (bodyOf Try.f65)), .blk 0, .code (cp [1, 1, 1] (bodyOf Try.f65))] (FinX Try.prog Try.f65 [] (bl r) []) ⟨[(0, .sl false 4 t0.length ((ePl).f t0)), (3, .ptr 3 0), (5, i64 t5), (6, i64 a)], [(3, ⟨true, 0, [i64 b3_0, i64 b3_1, i64 b3_2, i64 b3_3]⟩)]⟩) (t6 : Int) : ∀ (m : Nat) (a : Int) (r : Bool), loopN (Dspec_l6With_1 n rec0 t0 t5 b3_0 b3_1 b3_2 b3_3 t6) m a = some r → Wk Try.prog H Y 65 [.code (cp [1, 1, 0, 1, 0, 0, 1, 0, 0, 1, 1, 0] (bodyOf Try.f65)), .blk 2, .blk 1, .code (cp [1, 1, 0, 1, 0, 0, 1, 1] (bodyOf Try.f65)), .lp (cp [1, 1, 0, 1, 0] (bodyOf Try.f65)), .blk 0, .code (cp [1, 1, 1] (bodyOf Try.f65))] (FinX Try.prog Try.f65 [] (bl r) []) ⟨[(0, .sl false 4 t0.length ((ePl).f t0)), (3, .ptr 3 0), (5, i64 t5), (6, i64 t6), (7, i64 a)], [(3, ⟨true, 0, [i64 b3_0, i64 b3_1, i64 b3_2, i64 b3_3]⟩)]⟩ := by
  refine loopN_ind (fun rec1 hrec1 a r h => ?_)
  obtain ⟨t7, rfl⟩ : ∃ x, x = a := ⟨a, rfl⟩
  unfold Dspec_l6With_1 at h
  refine x_frk 8 [] onil h (by kernel_rfl) (fun h => ?_) (fun h => ?_)
  · obtain ⟨v2, hv2, h⟩ := bind_some h
    obtain ⟨v3, hv3, h⟩ := bind_some h
    obtain ⟨v4, hv4, h⟩ := bind_some h
    refine x_frk 17 [(2, .val (.cptr (ePl.c v2 ++ (ePl).f ((t0).drop (Int.toNat t6 + 1))))), (3, .val (.cptr (ePl.c v3 ++ (ePl).f ((t0).drop (Int.toNat t7 + 1))))), (2, .call [] [] (bl v4) [])] (ocons (ix ePl hv2) (ocons (ix ePl hv3) (ocons (Tspec_l6Clash3 (Y := Y) n v2 v3 (Pl.mk b3_0 b3_1 b3_2 b3_3) _ hv4) onil))) h (by kernel_rfl) (fun h => ?_) (fun h => ?_)
    · replace h := Option.some.inj h; subst h
      exact x_end 4 [] [] onil onil (by kernel_rfl)
    · exact x_to 8 [] onil (Tspec_l6With_0 n rec1 rec0 t6 t0 t5 b3_0 b3_1 b3_2 b3_3 hrec1 hrec0 t7 n (w64 (t7 + 1)) r h) (by kernel_rfl)
  · exact x_to 8 [] onil (hrec0 (w64 (t6 + 1)) r h) (by kernel_rfl)
def Dspec_l6With_2 (n : Nat) (t0 : List Pl) (t5 b3_0 b3_1 b3_2 b3_3 : Int) (rec0 : Int → Option Bool) (a : Int) : Option Bool :=
  match a with
  | t6 => frk (decide (t6 < t5)) ((lget t0 t6).bind fun v0 => (Dspec_l6Clash2 v0 (Pl.mk b3_0 b3_1 b3_2 b3_3)).bind fun v1 => frk v1 (some true) (loopN (Dspec_l6With_1 n rec0 t0 t5 b3_0 b3_1 b3_2 b3_3 t6) n (w64 (t6 + 1)))) (some false)
theorem Tspec_l6With_2 {Y} (n : Nat) (t0 : List Pl) (t5 b3_0 b3_1 b3_2 b3_3 : Int) : ∀ (m : Nat) (a : Int) (r : Bool), loopN (Dspec_l6With_2 n t0 t5 b3_0 b3_1 b3_2 b3_3) m a = some r → Wk Try.prog H Y 65 [.code (cp [1, 1, 0, 1, 0] (bodyOf Try.f65)), .blk 0, .code (cp [1, 1, 1] (bodyOf Try.f65))] (FinX Try.prog Try.f65 [] (bl r) []) ⟨[(0, .sl false 4 t0.length ((ePl).f t0)), (3, .ptr 3 0), (5, i64 t5), (6, i64 a)], [(3, ⟨true, 0, [i64 b3_0, i64 b3_1, i64 b3_2, i64 b3_3]⟩)]⟩ := by
  refine loopN_ind (fun rec0 hrec0 a r h => ?_)
  obtain ⟨t6, rfl⟩ : ∃ x, x = a := ⟨a, rfl⟩
  unfold Dspec_l6With_2 at h
  refine x_frk 8 [] onil h (by kernel_rfl) (fun h => ?_) (fun h => ?_)
  · obtain ⟨v0, hv0, h⟩ := bind_some h
    obtain ⟨v1, hv1, h⟩ := bind_some h
    refine x_frk 13 [(2, .val (.cptr (ePl.c v0 ++ (ePl).f ((t0).drop (Int.toNat t6 + 1))))), (2, .call [] [] (bl v1) [])] (ocons (ix ePl hv0) (ocons (Tspec_l6Clash2 (Y := Y) v0 (Pl.mk b3_0 b3_1 b3_2 b3_3) _ hv1) onil)) h (by kernel_rfl) (fun h => ?_) (fun h => ?_)
    · replace h := Option.some.inj h; subst h
      exact x_end 4 [] [] onil onil (by kernel_rfl)
    · exact x_to 8 [] onil (Tspec_l6With_1 n rec0 t0 t5 b3_0 b3_1 b3_2 b3_3 hrec0 t6 n (w64 (t6 + 1)) r h) (by kernel_rfl)
  · replace h := Option.some.inj h; subst h
    exact x_end 5 [] [] onil onil (by kernel_rfl)
def Dspec_l6With (n : Nat) (a0 : (List Pl)) (a1 : Pl) : Option Bool :=
  loopN (Dspec_l6With_2 n a0 (a0.length : Int) a1.A a1.B a1.C a1.D) n 0
theorem Tspec_l6With {Y} (n : Nat) (a0 : (List Pl)) (a1 : Pl) (r : Bool) (h : Dspec_l6With n a0 a1 = some r) : Big Try.prog H Y (.call 65 [.sl false 4 a0.length ((ePl).f a0), .agg [i64 a1.A, i64 a1.B, i64 a1.C, i64 a1.D]] (lk []) (bl r) (lk [])) := by
  unfold Dspec_l6With at h
  refine x_call (fn := Try.f65) (c := bodyOf Try.f65) (bs0 := []) Try.func65 (by kernel_rfl) (by kernel_rfl) ?_
  exact x_to 17 [] onil (Tspec_l6With_2 n a0 (a0.length : Int) a1.A a1.B a1.C a1.D n 0 r h) (by kernel_rfl)
/-! spec.l3Flip -/
def Dspec_l3Flip (a0 : Pl) : Option Pl :=
  some (Pl.mk (w64 (0 - a0.A)) (w64 (0 - a0.B)) (w64 (0 - a0.C)) (w64 (0 - a0.D)))
theorem Tspec_l3Flip {Y} (a0 : Pl) (r : Pl) (h : Dspec_l3Flip a0 = some r) : Big Try.prog H Y (.call 62 [.agg [i64 a0.A, i64 a0.B, i64 a0.C, i64 a0.D]] (lk []) (.agg [i64 r.A, i64 r.B, i64 r.C, i64 r.D]) (lk [])) := by
  unfold Dspec_l3Flip at h
  refine x_call (fn := Try.f62) (c := bodyOf Try.f62) (bs0 := []) Try.func62 (by kernel_rfl) (by kernel_rfl) ?_
  replace h := Option.some.inj h; subst h
  exact x_end 22 [] [] onil onil (by kernel_rfl)
/-! spec.l8Path -/
def Dspec_l8Path (a0 : (List Pl)) (a1 : Pl) : Option (List Pl) :=
  chk (apB 32 (0 + a0.length)) (chk (apB 32 (([] ++ a0).length + 1)) (some (([] ++ a0) ++ [a1])))
theorem Tspec_l8Path {Y} (a0 : (List Pl)) (a1 : Pl) (r : (List Pl)) (h : Dspec_l8Path a0 a1 = some r) : Big Try.prog H Y (.call 91 [.sl false 4 a0.length ((ePl).f a0), .agg [i64 a1.A, i64 a1.B, i64 a1.C, i64 a1.D]] (lk []) (.sl true 4 r.length ((ePl).f r)) (lk [])) := by
  unfold Dspec_l8Path at h
  refine x_call (fn := Try.f91) (c := bodyOf Try.f91) (bs0 := []) Try.func91 (by kernel_rfl) (by kernel_rfl) ?_
  obtain ⟨c0, h⟩ := chk_some h
  obtain ⟨c1, h⟩ := chk_some h
  replace h := Option.some.inj h; subst h
  exact x_end 15 [(4, .app false (List.length ([] ++ a0)) ((ePl).f ([] ++ a0))), (2, .app false (List.length (([] ++ a0) ++ [a1])) ((ePl).f (([] ++ a0) ++ [a1])))] [] (ocons (len_row' (L := []) ePl) (ocons (app_one (L := []) (M := a0) ePl c0) (ocons (app_new (L := []) (M := a0) ePl) (ocons (app_m (L := []) (M := a0) ePl rfl) (ocons (len_row' (L := a0) ePl) (ocons (len_row' (L := ([] ++ a0)) ePl) (ocons (app_one (L := ([] ++ a0)) (M := [a1]) ePl c1) (ocons (app_new (L := ([] ++ a0)) (M := [a1]) ePl) (ocons (app_m (L := ([] ++ a0)) (M := [a1]) ePl rfl) (ocons (len_row' (L := [a1]) ePl) (ocons (Enc.noOwn ePl (fun _ => rfl) [a1]) onil))))))))))) (ocons (len_row (L := (([] ++ a0) ++ [a1])) ePl) onil) (by kernel_rfl)
/-! spec.l8Look -/
def Dspec_l8Look_0 (_n : Nat) (self : (Sol × (List Pl)) → Option Bool) (t1 : List Pl) (t42 _b2_0 : Bool) (b2_1 b2_2 b2_3 b2_4 : Int) (b2_5 : List Sol) : Option Bool :=
  frk t42 (some false) ((lget b2_5 0).bind fun v5 => (Dspec_l8Path t1 (Pl.mk b2_1 b2_2 b2_3 b2_4)).bind fun v6 => (self (v5, v6)).bind fun v7 => frk v7 ((lget b2_5 1).bind fun v8 => (Dspec_l3Flip (Pl.mk b2_1 b2_2 b2_3 b2_4)).bind fun v9 => (Dspec_l8Path t1 v9).bind fun v10 => (self (v8, v10)).bind fun v11 => some v11) (some false))
theorem Tspec_l8Look_0 {Y} (n : Nat) (self : (Sol × (List Pl)) → Option Bool) (hself : ∀ (a : (Sol × (List Pl))) (r : Bool), self a = some r → Big Try.prog H Y (.call 47 [.agg [bl a.1.inn, i64 a.1.pl.A, i64 a.1.pl.B, i64 a.1.pl.C, i64 a.1.pl.D, .sl false 6 a.1.kids.length ((eSol false).f a.1.kids)], .sl false 4 a.2.length ((ePl).f a.2)] (lk []) (bl r) (lk []))) (t1 : List Pl) (t42 b2_0 : Bool) (b2_1 b2_2 b2_3 b2_4 : Int) (b2_5 : List Sol) (r : Bool) (h : Dspec_l8Look_0 n self t1 t42 b2_0 b2_1 b2_2 b2_3 b2_4 b2_5 = some r) : Wk Try.prog H Y 47 [.code (cp [1, 1, 0, 1] (bodyOf Try.f47)), .code (cp [1, 1, 1] (bodyOf Try.f47))] (FinX Try.prog Try.f47 [] (bl r) []) ⟨[(1, .sl false 4 t1.length ((ePl).f t1)), (2, .ptr 2 0), (42, bl t42)], [(2, ⟨true, 0, [bl b2_0, i64 b2_1, i64 b2_2, i64 b2_3, i64 b2_4, .sl false 6 b2_5.length ((eSol false).f b2_5)]⟩)]⟩ := by
  unfold Dspec_l8Look_0 at h
  refine x_frk 0 [] onil h (by kernel_rfl) (fun h => ?_) (fun h => ?_)
  · replace h := Option.some.inj h; subst h
    exact x_end 4 [] [] onil onil (by kernel_rfl)
  · obtain ⟨v5, hv5, h⟩ := bind_some h
    obtain ⟨v6, hv6, h⟩ := bind_some h
    obtain ⟨v7, hv7, h⟩ := bind_some h
    refine x_frk 13 [(2, .val (.cptr ((eSol false).c v5 ++ (eSol false).f ((b2_5).drop (Int.toNat 0 + 1))))), (4, .call [] [] (.sl false 4 v6.length ((ePl).f v6)) []), (0, .call [] [] (bl v7) [])] (ocons (ix (eSol false) hv5) (ocons (shSl (L := v6) ePl ePl sPl (Tspec_l8Path (Y := Y) t1 (Pl.mk b2_1 b2_2 b2_3 b2_4) _ hv6)) (ocons (hself (v5, v6) _ hv7) onil))) h (by kernel_rfl) (fun h => ?_) (fun h => ?_)
    · obtain ⟨v8, hv8, h⟩ := bind_some h
      obtain ⟨v9, hv9, h⟩ := bind_some h
      obtain ⟨v10, hv10, h⟩ := bind_some h
      obtain ⟨v11, hv11, h⟩ := bind_some h
      replace h := Option.some.inj h; subst h
      exact x_end 13 [(2, .val (.cptr ((eSol false).c v8 ++ (eSol false).f ((b2_5).drop (Int.toNat 1 + 1))))), (4, .call [] [] (.agg [i64 v9.A, i64 v9.B, i64 v9.C, i64 v9.D]) []), (0, .call [] [] (.sl false 4 v10.length ((ePl).f v10)) []), (0, .call [] [] (bl v11) [])] [] (ocons (ix (eSol false) hv8) (ocons (Tspec_l3Flip (Y := Y) (Pl.mk b2_1 b2_2 b2_3 b2_4) _ hv9) (ocons (shSl (L := v10) ePl ePl sPl (Tspec_l8Path (Y := Y) t1 v9 _ hv10)) (ocons (hself (v8, v10) _ hv11) onil)))) onil (by kernel_rfl)
    · replace h := Option.some.inj h; subst h
      exact x_end 13 [] [] onil onil (by kernel_rfl)
def Dspec_l8Look_b (n : Nat) (self : (Sol × (List Pl)) → Option Bool) (a : (Sol × (List Pl))) : Option Bool :=
  match a with
  | (a0, a1) => (Dspec_l8Leaf a0).bind fun v0 => frk v0 (some (a0.pl.A == 0 && (a0.pl.B == 0 && (a0.pl.C == 0 && (a0.pl.D == 0 && true))))) (frk ((a0.kids.length : Int) != 2) (some false) (frk a0.inn (some false) ((Dspec_PlaneOk n a0.pl).bind fun v1 => frk (!v1) (some false) (frk ((a1.length : Int) == 24) (some false) ((Dspec_l6With n a1 a0.pl).bind fun v2 => frk v2 (some false) ((Dspec_l3Flip a0.pl).bind fun v3 => (Dspec_l6With n a1 v3).bind fun v4 => Dspec_l8Look_0 n self a1 v4 a0.inn a0.pl.A a0.pl.B a0.pl.C a0.pl.D a0.kids))))))
def Dspec_l8Look (n : Nat) (a0 : Sol) (a1 : (List Pl)) : Option Bool := loopN (Dspec_l8Look_b n) n (a0, a1)
theorem Tspec_l8Look_b {Y} (n : Nat) : ∀ (m : Nat) (a : (Sol × (List Pl))) (r : Bool), loopN (Dspec_l8Look_b n) m a = some r → ∀ (_ : Unit), Big Try.prog H Y (.call 47 [.agg [bl a.1.inn, i64 a.1.pl.A, i64 a.1.pl.B, i64 a.1.pl.C, i64 a.1.pl.D, .sl false 6 a.1.kids.length ((eSol false).f a.1.kids)], .sl false 4 a.2.length ((ePl).f a.2)] (lk []) (bl r) (lk [])) := by
  refine loopN_ind (fun self hs a r h => ?_)
  have hself : ∀ (a : (Sol × (List Pl))) (r : Bool), self a = some r → Big Try.prog H Y (.call 47 [.agg [bl a.1.inn, i64 a.1.pl.A, i64 a.1.pl.B, i64 a.1.pl.C, i64 a.1.pl.D, .sl false 6 a.1.kids.length ((eSol false).f a.1.kids)], .sl false 4 a.2.length ((ePl).f a.2)] (lk []) (bl r) (lk [])) := fun a r h => hs a r h ()
  intro _
  obtain ⟨a0, a1⟩ := a
  unfold Dspec_l8Look_b at h
  refine x_call (fn := Try.f47) (c := bodyOf Try.f47) (bs0 := []) Try.func47 (by kernel_rfl) (by kernel_rfl) ?_
  obtain ⟨v0, hv0, h⟩ := bind_some h
  refine x_frk 11 [(3, .call [] [] (bl v0) [])] (ocons (Tspec_l8Leaf (Y := Y) a0 _ hv0) onil) h (by kernel_rfl) (fun h => ?_) (fun h => ?_)
  · replace h := Option.some.inj h; subst h
    exact x_end 8 [] [] onil onil (by kernel_rfl)
  · refine x_frk 9 [] onil h (by kernel_rfl) (fun h => ?_) (fun h => ?_)
    · replace h := Option.some.inj h; subst h
      exact x_end 33 [] [] onil onil (by kernel_rfl)
    · refine x_frk 4 [] onil h (by kernel_rfl) (fun h => ?_) (fun h => ?_)
      · replace h := Option.some.inj h; subst h
        exact x_end 29 [] [] onil onil (by kernel_rfl)
      · obtain ⟨v1, hv1, h⟩ := bind_some h
        refine x_frk 6 [(2, .call [] [] (bl v1) [])] (ocons (Tspec_PlaneOk (Y := Y) n a0.pl _ hv1) onil) h (by kernel_rfl) (fun h => ?_) (fun h => ?_)
        · replace h := Option.some.inj h; subst h
          exact x_end 23 [] [] onil onil (by kernel_rfl)
        · refine x_frk 5 [] onil h (by kernel_rfl) (fun h => ?_) (fun h => ?_)
          · replace h := Option.some.inj h; subst h
            exact x_end 18 [] [] onil onil (by kernel_rfl)
          · obtain ⟨v2, hv2, h⟩ := bind_some h
            refine x_frk 6 [(3, .call [] [] (bl v2) [])] (ocons (Tspec_l6With (Y := Y) n a1 a0.pl _ hv2) onil) h (by kernel_rfl) (fun h => ?_) (fun h => ?_)
            · replace h := Option.some.inj h; subst h
              exact x_end 12 [] [] onil onil (by kernel_rfl)
            · obtain ⟨v3, hv3, h⟩ := bind_some h
              obtain ⟨v4, hv4, h⟩ := bind_some h
              exact x_to 7 [(3, .call [] [] (.agg [i64 v3.A, i64 v3.B, i64 v3.C, i64 v3.D]) []), (0, .call [] [] (bl v4) [])] (ocons (Tspec_l3Flip (Y := Y) a0.pl _ hv3) (ocons (Tspec_l6With (Y := Y) n a1 v3 _ hv4) onil)) (Tspec_l8Look_0 n self hself a1 v4 a0.inn a0.pl.A a0.pl.B a0.pl.C a0.pl.D a0.kids r h) (by kernel_rfl)
theorem Tspec_l8Look {Y} (n : Nat) (a0 : Sol) (a1 : (List Pl)) (r : Bool) (h : Dspec_l8Look n a0 a1 = some r) : Big Try.prog H Y (.call 47 [.agg [bl a0.inn, i64 a0.pl.A, i64 a0.pl.B, i64 a0.pl.C, i64 a0.pl.D, .sl false 6 a0.kids.length ((eSol false).f a0.kids)], .sl false 4 a1.length ((ePl).f a1)] (lk []) (bl r) (lk [])) := Tspec_l8Look_b n n (a0, a1) r h ()
/-! spec.SolidOk -/
def Dspec_SolidOk (n : Nat) (a0 : Sol) : Option Bool :=
  (Dspec_l8Count n a0 301).bind fun v0 => frk (decide (v0 ≤ 300)) ((Dspec_l8Look n a0 []).bind fun v1 => some v1) (some false)
theorem Tspec_SolidOk {Y} (n : Nat) (a0 : Sol) (r : Bool) (h : Dspec_SolidOk n a0 = some r) : Big Try.prog H Y (.call 20 [.agg [bl a0.inn, i64 a0.pl.A, i64 a0.pl.B, i64 a0.pl.C, i64 a0.pl.D, .sl false 6 a0.kids.length ((eSol false).f a0.kids)]] (lk []) (bl r) (lk [])) := by
  unfold Dspec_SolidOk at h
  refine x_call (fn := Try.f20) (c := bodyOf Try.f20) (bs0 := []) Try.func20 (by kernel_rfl) (by kernel_rfl) ?_
  obtain ⟨v0, hv0, h⟩ := bind_some h
  refine x_frk 11 [(3, .call [] [] (i64 v0) [])] (ocons (Tspec_l8Count (Y := Y) n a0 301 _ hv0) onil) h (by kernel_rfl) (fun h => ?_) (fun h => ?_)
  · obtain ⟨v1, hv1, h⟩ := bind_some h
    replace h := Option.some.inj h; subst h
    exact x_end 6 [(2, .call [] [(ePl).f []] (bl v1) [])] [] (ocons (Tspec_l8Look (Y := Y) n a0 [] _ hv1) (ocons (len_row (L := []) ePl) (ocons (Enc.share ePl ePl sPl []) onil))) onil (by kernel_rfl)
  · replace h := Option.some.inj h; subst h
    exact x_end 6 [] [] onil onil (by kernel_rfl)
/-! spec.l8Cells -/
def Dspec_l8Cells_b (_n : Nat) (self : (Sol × Bool × (List Pl)) → Option (List (List Pl))) (a : (Sol × Bool × (List Pl))) : Option (List (List Pl)) :=
  match a with
  | (a0, a1, a2) => (Dspec_l8Leaf a0).bind fun v0 => frk v0 (frk (a0.inn == a1) (chk (apB 32 (0 + a2.length)) (some [([] ++ a2)])) (some [])) ((lget a0.kids 0).bind fun v2 => (Dspec_l8Path a2 a0.pl).bind fun v3 => (self (v2, a1, v3)).bind fun v4 => (lget a0.kids 1).bind fun v5 => (Dspec_l3Flip a0.pl).bind fun v6 => (Dspec_l8Path a2 v6).bind fun v7 => (self (v5, a1, v7)).bind fun v8 => chk (apB 24 (v4.length + v8.length)) (some (v4 ++ v8)))
def Dspec_l8Cells (n : Nat) (a0 : Sol) (a1 : Bool) (a2 : (List Pl)) : Option (List (List Pl)) := loopN (Dspec_l8Cells_b n) n (a0, a1, a2)
theorem Tspec_l8Cells_b {Y} (n : Nat) : ∀ (m : Nat) (a : (Sol × Bool × (List Pl))) (r : (List (List Pl))), loopN (Dspec_l8Cells_b n) m a = some r → ∀ (_ : Unit), Big Try.prog H Y (.call 59 [.agg [bl a.1.inn, i64 a.1.pl.A, i64 a.1.pl.B, i64 a.1.pl.C, i64 a.1.pl.D, .sl false 6 a.1.kids.length ((eSol false).f a.1.kids)], bl a.2.1, .sl false 4 a.2.2.length ((ePl).f a.2.2)] (lk []) (.sl true 1 r.length ((ePls true).f r)) (lk [])) := by
  refine loopN_ind (fun self hs a r h => ?_)
  have hself : ∀ (a : (Sol × Bool × (List Pl))) (r : (List (List Pl))), self a = some r → Big Try.prog H Y (.call 59 [.agg [bl a.1.inn, i64 a.1.pl.A, i64 a.1.pl.B, i64 a.1.pl.C, i64 a.1.pl.D, .sl false 6 a.1.kids.length ((eSol false).f a.1.kids)], bl a.2.1, .sl false 4 a.2.2.length ((ePl).f a.2.2)] (lk []) (.sl true 1 r.length ((ePls true).f r)) (lk [])) := fun a r h => hs a r h ()
  intro _
  obtain ⟨a0, a1, a2⟩ := a
  unfold Dspec_l8Cells_b at h
  refine x_call (fn := Try.f59) (c := bodyOf Try.f59) (bs0 := []) Try.func59 (by kernel_rfl) (by kernel_rfl) ?_
  obtain ⟨v0, hv0, h⟩ := bind_some h
  refine x_frk 11 [(3, .call [] [] (bl v0) [])] (ocons (Tspec_l8Leaf (Y := Y) a0 _ hv0) onil) h (by kernel_rfl) (fun h => ?_) (fun h => ?_)
  · refine x_frk 8 [] onil h (by kernel_rfl) (fun h => ?_) (fun h => ?_)
    · obtain ⟨c1, h⟩ := chk_some h
      replace h := Option.some.inj h; subst h
      exact x_end 8 [(2, .app false (List.length ([] ++ a2)) ((ePl).f ([] ++ a2)))] [] (ocons (len_row' (L := []) ePl) (ocons (app_one (L := []) (M := a2) ePl c1) (ocons (app_new (L := []) (M := a2) ePl) (ocons (app_m (L := []) (M := a2) ePl rfl) (ocons (len_row' (L := a2) ePl) (ocons (len_row (L := ([] ++ a2)) ePl) onil)))))) (ocons (len_row (L := [([] ++ a2)]) (ePls true)) onil) (by kernel_rfl)
    · replace h := Option.some.inj h; subst h
      exact x_end 6 [] [] onil (ocons (len_row (L := []) (ePls true)) onil) (by kernel_rfl)
  · obtain ⟨v2, hv2, h⟩ := bind_some h
    obtain ⟨v3, hv3, h⟩ := bind_some h
    obtain ⟨v4, hv4, h⟩ := bind_some h
    obtain ⟨v5, hv5, h⟩ := bind_some h
    obtain ⟨v6, hv6, h⟩ := bind_some h
    obtain ⟨v7, hv7, h⟩ := bind_some h
    obtain ⟨v8, hv8, h⟩ := bind_some h
    obtain ⟨c9, h⟩ := chk_some h
    replace h := Option.some.inj h; subst h
    exact x_end 32 [(2, .val (.cptr ((eSol false).c v2 ++ (eSol false).f ((a0.kids).drop (Int.toNat 0 + 1))))), (5, .call [] [] (.sl false 4 v3.length ((ePl).f v3)) []), (0, .call [] [] (.sl true 1 v4.length ((ePls true).f v4)) []), (4, .val (.cptr ((eSol false).c v5 ++ (eSol false).f ((a0.kids).drop (Int.toNat 1 + 1))))), (5, .call [] [] (.agg [i64 v6.A, i64 v6.B, i64 v6.C, i64 v6.D]) []), (0, .call [] [] (.sl false 4 v7.length ((ePl).f v7)) []), (0, .call [] [] (.sl true 1 v8.length ((ePls true).f v8)) []), (0, .app true (List.length (v4 ++ v8)) ((ePls true).f (v4 ++ v8)))] [] (ocons (ix (eSol false) hv2) (ocons (shSl (L := v3) ePl ePl sPl (Tspec_l8Path (Y := Y) a2 a0.pl _ hv3)) (ocons (hself (v2, a1, v3) _ hv4) (ocons (ix (eSol false) hv5) (ocons (Tspec_l3Flip (Y := Y) a0.pl _ hv6) (ocons (shSl (L := v7) ePl ePl sPl (Tspec_l8Path (Y := Y) a2 v6 _ hv7)) (ocons (hself (v5, a1, v7) _ hv8) (ocons (len_row' (L := v4) (ePls true)) (ocons (app_one (L := v4) (M := v8) (ePls true) c9) (ocons (app_new (L := v4) (M := v8) (ePls true)) (ocons (app_m (L := v4) (M := v8) (ePls true) rfl) (ocons (len_row' (L := v8) (ePls true)) onil)))))))))))) (ocons (len_row (L := (v4 ++ v8)) (ePls true)) onil) (by kernel_rfl)
theorem Tspec_l8Cells {Y} (n : Nat) (a0 : Sol) (a1 : Bool) (a2 : (List Pl)) (r : (List (List Pl))) (h : Dspec_l8Cells n a0 a1 a2 = some r) : Big Try.prog H Y (.call 59 [.agg [bl a0.inn, i64 a0.pl.A, i64 a0.pl.B, i64 a0.pl.C, i64 a0.pl.D, .sl false 6 a0.kids.length ((eSol false).f a0.kids)], bl a1, .sl false 4 a2.length ((ePl).f a2)] (lk []) (.sl true 1 r.length ((ePls true).f r)) (lk [])) := Tspec_l8Cells_b n n (a0, a1, a2) r h ()
/-! spec.Cells -/
def Dspec_Cells (n : Nat) (a0 : Sol) (a1 : Bool) : Option (List (List Pl)) :=
  (Dspec_SolidOk n a0).bind fun v0 => frk (!v0) (some []) ((Dspec_l8Cells n a0 a1 []).bind fun v1 => some v1)
theorem Tspec_Cells {Y} (n : Nat) (a0 : Sol) (a1 : Bool) (r : (List (List Pl))) (h : Dspec_Cells n a0 a1 = some r) : Big Try.prog H Y (.call 33 [.agg [bl a0.inn, i64 a0.pl.A, i64 a0.pl.B, i64 a0.pl.C, i64 a0.pl.D, .sl false 6 a0.kids.length ((eSol false).f a0.kids)], bl a1] (lk []) (.sl true 1 r.length ((ePls true).f r)) (lk [])) := by
  unfold Dspec_Cells at h
  refine x_call (fn := Try.f33) (c := bodyOf Try.f33) (bs0 := []) Try.func33 (by kernel_rfl) (by kernel_rfl) ?_
  obtain ⟨v0, hv0, h⟩ := bind_some h
  refine x_frk 12 [(3, .call [] [] (bl v0) [])] (ocons (Tspec_SolidOk (Y := Y) n a0 _ hv0) onil) h (by kernel_rfl) (fun h => ?_) (fun h => ?_)
  · replace h := Option.some.inj h; subst h
    exact x_end 5 [] [] onil (ocons (len_row (L := []) (ePls true)) onil) (by kernel_rfl)
  · obtain ⟨v1, hv1, h⟩ := bind_some h
    replace h := Option.some.inj h; subst h
    exact x_end 9 [(3, .call [] [(ePl).f []] (.sl true 1 v1.length ((ePls true).f v1)) [])] [] (ocons (Tspec_l8Cells (Y := Y) n a0 a1 [] _ hv1) (ocons (len_row (L := []) ePl) (ocons (Enc.share ePl ePl sPl []) (ocons (show hasSh (.sl true 1 v1.length ((ePls true).f v1)) = false by simp [hasSh, hasShL, nSh, nShI, nShB, nShP, nShT, nShN, nShPs]) onil)))) (ocons (len_row (L := v1) (ePls true)) onil) (by kernel_rfl)
/-! spec.l3CmpInt -/
def Dspec_l3CmpInt (a0 a1 : Int) : Option Int :=
  frk (decide (a0 < a1)) (some (-1)) (frk (decide (a0 > a1)) (some 1) (some 0))
theorem Tspec_l3CmpInt {Y} (a0 a1 r : Int) (h : Dspec_l3CmpInt a0 a1 = some r) : Big Try.prog H Y (.call 118 [i64 a0, i64 a1] (lk []) (i64 r) (lk [])) := by
  unfold Dspec_l3CmpInt at h
  refine x_call (fn := Try.f118) (c := bodyOf Try.f118) (bs0 := []) Try.func118 (by kernel_rfl) (by kernel_rfl) ?_
  refine x_frk 13 [] onil h (by kernel_rfl) (fun h => ?_) (fun h => ?_)
  · replace h := Option.some.inj h; subst h
    exact x_end 4 [] [] onil onil (by kernel_rfl)
  · refine x_frk 7 [] onil h (by kernel_rfl) (fun h => ?_) (fun h => ?_)
    · replace h := Option.some.inj h; subst h
      exact x_end 4 [] [] onil onil (by kernel_rfl)
    · replace h := Option.some.inj h; subst h
      exact x_end 6 [] [] onil onil (by kernel_rfl)
/-! spec.CmpPlane -/
def Dspec_CmpPlane (_n : Nat) (a0 : Pl) (a1 : Pl) : Option Int :=
  frk (a0.A != a1.A) ((Dspec_l3CmpInt a0.A a1.A).bind fun v0 => some v0) (frk (a0.B != a1.B) ((Dspec_l3CmpInt a0.B a1.B).bind fun v1 => some v1) (frk (a0.C != a1.C) ((Dspec_l3CmpInt a0.C a1.C).bind fun v2 => some v2) (frk (a0.D != a1.D) ((Dspec_l3CmpInt a0.D a1.D).bind fun v3 => some v3) (some 0))))
theorem Tspec_CmpPlane {Y} (n : Nat) (a0 : Pl) (a1 : Pl) (r : Int) (h : Dspec_CmpPlane n a0 a1 = some r) : Big Try.prog H Y (.call 96 [.agg [i64 a0.A, i64 a0.B, i64 a0.C, i64 a0.D], .agg [i64 a1.A, i64 a1.B, i64 a1.C, i64 a1.D]] (lk []) (i64 r) (lk [])) := by
  unfold Dspec_CmpPlane at h
  refine x_call (fn := Try.f96) (c := bodyOf Try.f96) (bs0 := []) Try.func96 (by kernel_rfl) (by kernel_rfl) ?_
  refine x_frk 61 [] onil h (by kernel_rfl) (fun h => ?_) (fun h => ?_)
  · obtain ⟨v0, hv0, h⟩ := bind_some h
    replace h := Option.some.inj h; subst h
    exact x_end 13 [(8, .call [] [] (i64 v0) [])] [] (ocons (Tspec_l3CmpInt (Y := Y) a0.A a1.A _ hv0) onil) onil (by kernel_rfl)
  · refine x_frk 31 [] onil h (by kernel_rfl) (fun h => ?_) (fun h => ?_)
    · obtain ⟨v1, hv1, h⟩ := bind_some h
      replace h := Option.some.inj h; subst h
      exact x_end 13 [(8, .call [] [] (i64 v1) [])] [] (ocons (Tspec_l3CmpInt (Y := Y) a0.B a1.B _ hv1) onil) onil (by kernel_rfl)
    · refine x_frk 31 [] onil h (by kernel_rfl) (fun h => ?_) (fun h => ?_)
      · obtain ⟨v2, hv2, h⟩ := bind_some h
        replace h := Option.some.inj h; subst h
        exact x_end 13 [(8, .call [] [] (i64 v2) [])] [] (ocons (Tspec_l3CmpInt (Y := Y) a0.C a1.C _ hv2) onil) onil (by kernel_rfl)
      · refine x_frk 31 [] onil h (by kernel_rfl) (fun h => ?_) (fun h => ?_)
        · obtain ⟨v3, hv3, h⟩ := bind_some h
          replace h := Option.some.inj h; subst h
          exact x_end 13 [(8, .call [] [] (i64 v3) [])] [] (ocons (Tspec_l3CmpInt (Y := Y) a0.D a1.D _ hv3) onil) onil (by kernel_rfl)
        · replace h := Option.some.inj h; subst h
          exact x_end 21 [] [] onil onil (by kernel_rfl)
/-! spec.l8Planes -/
def Dspec_l8Planeso1_3 (_n : Nat) (self : (Sol × (List Pl)) → Option (List Pl)) (t6 : Int) (_b2_0 : Bool) (_b2_1 _b2_2 _b2_3 _b2_4 : Int) (b2_5 : List Sol) (b5_0 b5_1 b5_2 b5_3 : Int) (l701 : List Pl) : Option (List Pl) :=
  (lsl l701 0 t6).bind fun v6 => chk (apB 32 (0 + v6.length)) (chk (apB 32 (([] ++ v6).length + 1)) ((lsl l701 t6 (l701.length : Int)).bind fun v9 => chk (apB 32 ((([] ++ v6) ++ [(Pl.mk b5_0 b5_1 b5_2 b5_3)]).length + v9.length)) ((lget b2_5 1).bind fun v11 => (lget b2_5 0).bind fun v12 => (self (v12, ((([] ++ v6) ++ [(Pl.mk b5_0 b5_1 b5_2 b5_3)]) ++ v9))).bind fun v13 => (self (v11, v13)).bind fun v14 => some v14)))
theorem Tspec_l8Planeso1_3 {Y} (n : Nat) (self : (Sol × (List Pl)) → Option (List Pl)) (hself : ∀ (a : (Sol × (List Pl))) (r : (List Pl)), self a = some r → Big Try.prog H Y (.call 60 [.agg [bl a.1.inn, i64 a.1.pl.A, i64 a.1.pl.B, i64 a.1.pl.C, i64 a.1.pl.D, .sl false 6 a.1.kids.length ((eSol false).f a.1.kids)], .sl true 4 a.2.length ((ePl).f a.2)] (lk []) (.sl true 4 r.length ((ePl).f r)) (lk []))) (t6 : Int) (b2_0 : Bool) (b2_1 b2_2 b2_3 b2_4 : Int) (b2_5 : List Sol) (b5_0 b5_1 b5_2 b5_3 : Int) (l701 : List Pl) (r : (List Pl)) (h : Dspec_l8Planeso1_3 n self t6 b2_0 b2_1 b2_2 b2_3 b2_4 b2_5 b5_0 b5_1 b5_2 b5_3 l701 = some r) : Wk Try.prog H Y 60 [.code (cp [1, 1, 1, 1, 1, 1, 0, 1, 0, 0] (bodyOf Try.f60)), .code (cp [1, 1, 1, 1, 1, 1, 0, 1, 0, 1] (bodyOf Try.f60)), .code (cp [1, 1, 1, 1, 1, 1, 1] (bodyOf Try.f60))] (FinX Try.prog Try.f60 [] (.sl true 4 r.length ((ePl).f r)) []) ⟨[(1, .msl 701 l701.length), (2, .ptr 2 0), (5, .ptr 5 0), (6, i64 t6)], [(2, ⟨true, 0, [bl b2_0, i64 b2_1, i64 b2_2, i64 b2_3, i64 b2_4, .sl false 6 b2_5.length ((eSol false).f b2_5)]⟩), (5, ⟨true, 0, [i64 b5_0, i64 b5_1, i64 b5_2, i64 b5_3]⟩), (701, ⟨false, 4, (ePl).f l701⟩)]⟩ := by
  unfold Dspec_l8Planeso1_3 at h
  obtain ⟨v6, hv6, h⟩ := bind_some h
  obtain ⟨c7, h⟩ := chk_some h
  obtain ⟨c8, h⟩ := chk_some h
  obtain ⟨v9, hv9, h⟩ := bind_some h
  obtain ⟨c10, h⟩ := chk_some h
  obtain ⟨v11, hv11, h⟩ := bind_some h
  obtain ⟨v12, hv12, h⟩ := bind_some h
  obtain ⟨v13, hv13, h⟩ := bind_some h
  obtain ⟨v14, hv14, h⟩ := bind_some h
  replace h := Option.some.inj h; subst h
  exact x_end 34 [(3, .val (.sl false 4 v6.length ((ePl).f v6))), (0, .app false (List.length ([] ++ v6)) ((ePl).f ([] ++ v6))), (2, .app false (List.length (([] ++ v6) ++ [(Pl.mk b5_0 b5_1 b5_2 b5_3)])) ((ePl).f (([] ++ v6) ++ [(Pl.mk b5_0 b5_1 b5_2 b5_3)]))), (4, .val (.sl false 4 v9.length ((ePl).f v9))), (0, .app false (List.length ((([] ++ v6) ++ [(Pl.mk b5_0 b5_1 b5_2 b5_3)]) ++ v9)) ((ePl).f ((([] ++ v6) ++ [(Pl.mk b5_0 b5_1 b5_2 b5_3)]) ++ v9))), (3, .val (.cptr ((eSol false).c v11 ++ (eSol false).f ((b2_5).drop (Int.toNat 1 + 1))))), (3, .val (.cptr ((eSol false).c v12 ++ (eSol false).f ((b2_5).drop (Int.toNat 0 + 1))))), (2, .call [] [] (.sl true 4 v13.length ((ePl).f v13)) []), (0, .call [] [] (.sl true 4 v14.length ((ePl).f v14)) [])] [] (ocons (slM ePl ePl sPl hv6) (ocons (len_row' (L := []) ePl) (ocons (app_one (L := []) (M := v6) ePl c7) (ocons (app_new (L := []) (M := v6) ePl) (ocons (app_m (L := []) (M := v6) ePl rfl) (ocons (len_row' (L := v6) ePl) (ocons (len_row' (L := ([] ++ v6)) ePl) (ocons (app_one (L := ([] ++ v6)) (M := [(Pl.mk b5_0 b5_1 b5_2 b5_3)]) ePl c8) (ocons (app_new (L := ([] ++ v6)) (M := [(Pl.mk b5_0 b5_1 b5_2 b5_3)]) ePl) (ocons (app_m (L := ([] ++ v6)) (M := [(Pl.mk b5_0 b5_1 b5_2 b5_3)]) ePl rfl) (ocons (len_row' (L := [(Pl.mk b5_0 b5_1 b5_2 b5_3)]) ePl) (ocons (Enc.noOwn ePl (fun _ => rfl) [(Pl.mk b5_0 b5_1 b5_2 b5_3)]) (ocons (slM ePl ePl sPl hv9) (ocons (len_row' (L := (([] ++ v6) ++ [(Pl.mk b5_0 b5_1 b5_2 b5_3)])) ePl) (ocons (app_one (L := (([] ++ v6) ++ [(Pl.mk b5_0 b5_1 b5_2 b5_3)])) (M := v9) ePl c10) (ocons (app_new (L := (([] ++ v6) ++ [(Pl.mk b5_0 b5_1 b5_2 b5_3)])) (M := v9) ePl) (ocons (app_m (L := (([] ++ v6) ++ [(Pl.mk b5_0 b5_1 b5_2 b5_3)])) (M := v9) ePl rfl) (ocons (len_row' (L := v9) ePl) (ocons (ix (eSol false) hv11) (ocons (ix (eSol false) hv12) (ocons (hself (v12, ((([] ++ v6) ++ [(Pl.mk b5_0 b5_1 b5_2 b5_3)]) ++ v9)) _ hv13) (ocons (len_row (L := ((([] ++ v6) ++ [(Pl.mk b5_0 b5_1 b5_2 b5_3)]) ++ v9)) ePl) (ocons (hself (v11, v13) _ hv14) (ocons (len_row (L := v13) ePl) onil)))))))))))))))))))))))) (ocons (len_row (L := v14) ePl) onil) (by kernel_rfl)
def Dspec_l8Planeso1_5 (_n : Nat) (self : (Sol × (List Pl)) → Option (List Pl)) (_b2_0 : Bool) (_b2_1 _b2_2 _b2_3 _b2_4 : Int) (b2_5 : List Sol) (l59 : List Pl) : Option (List Pl) :=
  (lget b2_5 1).bind fun v21 => (lget b2_5 0).bind fun v22 => (self (v22, l59)).bind fun v23 => (self (v21, v23)).bind fun v24 => some v24
theorem Tspec_l8Planeso1_5 {Y} (n : Nat) (self : (Sol × (List Pl)) → Option (List Pl)) (hself : ∀ (a : (Sol × (List Pl))) (r : (List Pl)), self a = some r → Big Try.prog H Y (.call 60 [.agg [bl a.1.inn, i64 a.1.pl.A, i64 a.1.pl.B, i64 a.1.pl.C, i64 a.1.pl.D, .sl false 6 a.1.kids.length ((eSol false).f a.1.kids)], .sl true 4 a.2.length ((ePl).f a.2)] (lk []) (.sl true 4 r.length ((ePl).f r)) (lk []))) (b2_0 : Bool) (b2_1 b2_2 b2_3 b2_4 : Int) (b2_5 : List Sol) (l59 : List Pl) (r : (List Pl)) (h : Dspec_l8Planeso1_5 n self b2_0 b2_1 b2_2 b2_3 b2_4 b2_5 l59 = some r) : Wk Try.prog H Y 60 [.code (cp [1, 1, 1, 1, 1, 1, 1, 0] (bodyOf Try.f60)), .code (cp [1, 1, 1, 1, 1, 1, 1, 1] (bodyOf Try.f60))] (FinX Try.prog Try.f60 [] (.sl true 4 r.length ((ePl).f r)) []) ⟨[(1, .msl 59 l59.length), (2, .ptr 2 0)], [(2, ⟨true, 0, [bl b2_0, i64 b2_1, i64 b2_2, i64 b2_3, i64 b2_4, .sl false 6 b2_5.length ((eSol false).f b2_5)]⟩), (59, ⟨true, 4, (ePl).f l59⟩)]⟩ := by
  unfold Dspec_l8Planeso1_5 at h
  obtain ⟨v21, hv21, h⟩ := bind_some h
  obtain ⟨v22, hv22, h⟩ := bind_some h
  obtain ⟨v23, hv23, h⟩ := bind_some h
  obtain ⟨v24, hv24, h⟩ := bind_some h
  replace h := Option.some.inj h; subst h
  exact x_end 14 [(2, .val (.cptr ((eSol false).c v21 ++ (eSol false).f ((b2_5).drop (Int.toNat 1 + 1))))), (3, .val (.cptr ((eSol false).c v22 ++ (eSol false).f ((b2_5).drop (Int.toNat 0 + 1))))), (2, .call [] [] (.sl true 4 v23.length ((ePl).f v23)) []), (0, .call [] [] (.sl true 4 v24.length ((ePl).f v24)) [])] [] (ocons (ix (eSol false) hv21) (ocons (ix (eSol false) hv22) (ocons (hself (v22, l59) _ hv23) (ocons (len_row (L := l59) ePl) (ocons (hself (v21, v23) _ hv24) (ocons (len_row (L := v23) ePl) onil)))))) (ocons (len_row (L := v24) ePl) onil) (by kernel_rfl)
def Dspec_l8Planeso1_6 (_n : Nat) (self : (Sol × (List Pl)) → Option (List Pl)) (_b2_0 : Bool) (_b2_1 _b2_2 _b2_3 _b2_4 : Int) (b2_5 : List Sol) (l701 : List Pl) : Option (List Pl) :=
  (lget b2_5 1).bind fun v25 => (lget b2_5 0).bind fun v26 => (self (v26, l701)).bind fun v27 => (self (v25, v27)).bind fun v28 => some v28
theorem Tspec_l8Planeso1_6 {Y} (n : Nat) (self : (Sol × (List Pl)) → Option (List Pl)) (hself : ∀ (a : (Sol × (List Pl))) (r : (List Pl)), self a = some r → Big Try.prog H Y (.call 60 [.agg [bl a.1.inn, i64 a.1.pl.A, i64 a.1.pl.B, i64 a.1.pl.C, i64 a.1.pl.D, .sl false 6 a.1.kids.length ((eSol false).f a.1.kids)], .sl true 4 a.2.length ((ePl).f a.2)] (lk []) (.sl true 4 r.length ((ePl).f r)) (lk []))) (b2_0 : Bool) (b2_1 b2_2 b2_3 b2_4 : Int) (b2_5 : List Sol) (l701 : List Pl) (r : (List Pl)) (h : Dspec_l8Planeso1_6 n self b2_0 b2_1 b2_2 b2_3 b2_4 b2_5 l701 = some r) : Wk Try.prog H Y 60 [.code (cp [1, 1, 1, 1, 1, 1, 1, 0] (bodyOf Try.f60)), .code (cp [1, 1, 1, 1, 1, 1, 1, 1] (bodyOf Try.f60))] (FinX Try.prog Try.f60 [] (.sl true 4 r.length ((ePl).f r)) []) ⟨[(1, .msl 701 l701.length), (2, .ptr 2 0)], [(2, ⟨true, 0, [bl b2_0, i64 b2_1, i64 b2_2, i64 b2_3, i64 b2_4, .sl false 6 b2_5.length ((eSol false).f b2_5)]⟩), (701, ⟨false, 4, (ePl).f l701⟩)]⟩ := by
  unfold Dspec_l8Planeso1_6 at h
  obtain ⟨v25, hv25, h⟩ := bind_some h
  obtain ⟨v26, hv26, h⟩ := bind_some h
  obtain ⟨v27, hv27, h⟩ := bind_some h
  obtain ⟨v28, hv28, h⟩ := bind_some h
  replace h := Option.some.inj h; subst h
  exact x_end 14 [(2, .val (.cptr ((eSol false).c v25 ++ (eSol false).f ((b2_5).drop (Int.toNat 1 + 1))))), (3, .val (.cptr ((eSol false).c v26 ++ (eSol false).f ((b2_5).drop (Int.toNat 0 + 1))))), (2, .call [] [] (.sl true 4 v27.length ((ePl).f v27)) []), (0, .call [] [] (.sl true 4 v28.length ((ePl).f v28)) [])] [] (ocons (ix (eSol false) hv25) (ocons (ix (eSol false) hv26) (ocons (hself (v26, l701) _ hv27) (ocons (len_row (L := l701) ePl) (ocons (hself (v25, v27) _ hv28) (ocons (len_row (L := v27) ePl) onil)))))) (ocons (len_row (L := v28) ePl) onil) (by kernel_rfl)
def Dspec_l8Planeso1_4 (n : Nat) (self : (Sol × (List Pl)) → Option (List Pl)) (t6 : Int) (t46 b2_0 : Bool) (b2_1 b2_2 b2_3 b2_4 : Int) (b2_5 : List Sol) (b5_0 b5_1 b5_2 b5_3 : Int) (l701 : List Pl) : Option (List Pl) :=
  frk t46 ((lsl l701 0 t6).bind fun v16 => chk (apB 32 (0 + v16.length)) (chk (apB 32 (([] ++ v16).length + 1)) ((lsl l701 t6 (l701.length : Int)).bind fun v19 => chk (apB 32 ((([] ++ v16) ++ [(Pl.mk b5_0 b5_1 b5_2 b5_3)]).length + v19.length)) (Dspec_l8Planeso1_5 n self b2_0 b2_1 b2_2 b2_3 b2_4 b2_5 ((([] ++ v16) ++ [(Pl.mk b5_0 b5_1 b5_2 b5_3)]) ++ v19))))) (Dspec_l8Planeso1_6 n self b2_0 b2_1 b2_2 b2_3 b2_4 b2_5 l701)
theorem Tspec_l8Planeso1_4 {Y} (n : Nat) (self : (Sol × (List Pl)) → Option (List Pl)) (hself : ∀ (a : (Sol × (List Pl))) (r : (List Pl)), self a = some r → Big Try.prog H Y (.call 60 [.agg [bl a.1.inn, i64 a.1.pl.A, i64 a.1.pl.B, i64 a.1.pl.C, i64 a.1.pl.D, .sl false 6 a.1.kids.length ((eSol false).f a.1.kids)], .sl true 4 a.2.length ((ePl).f a.2)] (lk []) (.sl true 4 r.length ((ePl).f r)) (lk []))) (t6 : Int) (t46 b2_0 : Bool) (b2_1 b2_2 b2_3 b2_4 : Int) (b2_5 : List Sol) (b5_0 b5_1 b5_2 b5_3 : Int) (l701 : List Pl) (r : (List Pl)) (h : Dspec_l8Planeso1_4 n self t6 t46 b2_0 b2_1 b2_2 b2_3 b2_4 b2_5 b5_0 b5_1 b5_2 b5_3 l701 = some r) : Wk Try.prog H Y 60 [.code (cp [1, 1, 1, 1, 1, 1, 0, 1] (bodyOf Try.f60)), .code (cp [1, 1, 1, 1, 1, 1, 1] (bodyOf Try.f60))] (FinX Try.prog Try.f60 [] (.sl true 4 r.length ((ePl).f r)) []) ⟨[(1, .msl 701 l701.length), (2, .ptr 2 0), (5, .ptr 5 0), (6, i64 t6), (46, bl t46)], [(2, ⟨true, 0, [bl b2_0, i64 b2_1, i64 b2_2, i64 b2_3, i64 b2_4, .sl false 6 b2_5.length ((eSol false).f b2_5)]⟩), (5, ⟨true, 0, [i64 b5_0, i64 b5_1, i64 b5_2, i64 b5_3]⟩), (701, ⟨false, 4, (ePl).f l701⟩)]⟩ := by
  unfold Dspec_l8Planeso1_4 at h
  refine x_frk 0 [] onil h (by kernel_rfl) (fun h => ?_) (fun h => ?_)
  · obtain ⟨v16, hv16, h⟩ := bind_some h
    obtain ⟨c17, h⟩ := chk_some h
    obtain ⟨c18, h⟩ := chk_some h
    obtain ⟨v19, hv19, h⟩ := bind_some h
    obtain ⟨c20, h⟩ := chk_some h
    exact x_to 21 [(3, .val (.sl false 4 v16.length ((ePl).f v16))), (0, .app false (List.length ([] ++ v16)) ((ePl).f ([] ++ v16))), (2, .app false (List.length (([] ++ v16) ++ [(Pl.mk b5_0 b5_1 b5_2 b5_3)])) ((ePl).f (([] ++ v16) ++ [(Pl.mk b5_0 b5_1 b5_2 b5_3)]))), (4, .val (.sl false 4 v19.length ((ePl).f v19))), (0, .app false (List.length ((([] ++ v16) ++ [(Pl.mk b5_0 b5_1 b5_2 b5_3)]) ++ v19)) ((ePl).f ((([] ++ v16) ++ [(Pl.mk b5_0 b5_1 b5_2 b5_3)]) ++ v19)))] (ocons (slM ePl ePl sPl hv16) (ocons (len_row' (L := []) ePl) (ocons (app_one (L := []) (M := v16) ePl c17) (ocons (app_new (L := []) (M := v16) ePl) (ocons (app_m (L := []) (M := v16) ePl rfl) (ocons (len_row' (L := v16) ePl) (ocons (len_row' (L := ([] ++ v16)) ePl) (ocons (app_one (L := ([] ++ v16)) (M := [(Pl.mk b5_0 b5_1 b5_2 b5_3)]) ePl c18) (ocons (app_new (L := ([] ++ v16)) (M := [(Pl.mk b5_0 b5_1 b5_2 b5_3)]) ePl) (ocons (app_m (L := ([] ++ v16)) (M := [(Pl.mk b5_0 b5_1 b5_2 b5_3)]) ePl rfl) (ocons (len_row' (L := [(Pl.mk b5_0 b5_1 b5_2 b5_3)]) ePl) (ocons (Enc.noOwn ePl (fun _ => rfl) [(Pl.mk b5_0 b5_1 b5_2 b5_3)]) (ocons (slM ePl ePl sPl hv19) (ocons (len_row' (L := (([] ++ v16) ++ [(Pl.mk b5_0 b5_1 b5_2 b5_3)])) ePl) (ocons (app_one (L := (([] ++ v16) ++ [(Pl.mk b5_0 b5_1 b5_2 b5_3)])) (M := v19) ePl c20) (ocons (app_new (L := (([] ++ v16) ++ [(Pl.mk b5_0 b5_1 b5_2 b5_3)])) (M := v19) ePl) (ocons (app_m (L := (([] ++ v16) ++ [(Pl.mk b5_0 b5_1 b5_2 b5_3)])) (M := v19) ePl rfl) (ocons (len_row' (L := v19) ePl) onil)))))))))))))))))) (Tspec_l8Planeso1_5 n self hself b2_0 b2_1 b2_2 b2_3 b2_4 b2_5 ((([] ++ v16) ++ [(Pl.mk b5_0 b5_1 b5_2 b5_3)]) ++ v19) r h) (by kernel_rfl)
  · exact x_to 2 [] onil (Tspec_l8Planeso1_6 n self hself b2_0 b2_1 b2_2 b2_3 b2_4 b2_5 l701 r h) (by kernel_rfl)
def Dspec_l8Planeso1_2 (n : Nat) (self : (Sol × (List Pl)) → Option (List Pl)) (t6 : Int) (b2_0 : Bool) (b2_1 b2_2 b2_3 b2_4 : Int) (b2_5 : List Sol) (b5_0 b5_1 b5_2 b5_3 : Int) (l701 : List Pl) : Option (List Pl) :=
  frk (t6 == 0) (Dspec_l8Planeso1_3 n self t6 b2_0 b2_1 b2_2 b2_3 b2_4 b2_5 b5_0 b5_1 b5_2 b5_3 l701) ((lget l701 (w64 (t6 - 1))).bind fun v15 => Dspec_l8Planeso1_4 n self t6 (!(v15.A == b5_0 && (v15.B == b5_1 && (v15.C == b5_2 && (v15.D == b5_3 && true))))) b2_0 b2_1 b2_2 b2_3 b2_4 b2_5 b5_0 b5_1 b5_2 b5_3 l701)
theorem Tspec_l8Planeso1_2 {Y} (n : Nat) (self : (Sol × (List Pl)) → Option (List Pl)) (hself : ∀ (a : (Sol × (List Pl))) (r : (List Pl)), self a = some r → Big Try.prog H Y (.call 60 [.agg [bl a.1.inn, i64 a.1.pl.A, i64 a.1.pl.B, i64 a.1.pl.C, i64 a.1.pl.D, .sl false 6 a.1.kids.length ((eSol false).f a.1.kids)], .sl true 4 a.2.length ((ePl).f a.2)] (lk []) (.sl true 4 r.length ((ePl).f r)) (lk []))) (t6 : Int) (b2_0 : Bool) (b2_1 b2_2 b2_3 b2_4 : Int) (b2_5 : List Sol) (b5_0 b5_1 b5_2 b5_3 : Int) (l701 : List Pl) (r : (List Pl)) (h : Dspec_l8Planeso1_2 n self t6 b2_0 b2_1 b2_2 b2_3 b2_4 b2_5 b5_0 b5_1 b5_2 b5_3 l701 = some r) : Wk Try.prog H Y 60 [.code (cp [1, 1, 1, 1, 1, 1, 0, 0] (bodyOf Try.f60)), .code (cp [1, 1, 1, 1, 1, 1, 0, 1] (bodyOf Try.f60)), .code (cp [1, 1, 1, 1, 1, 1, 1] (bodyOf Try.f60))] (FinX Try.prog Try.f60 [] (.sl true 4 r.length ((ePl).f r)) []) ⟨[(1, .msl 701 l701.length), (2, .ptr 2 0), (5, .ptr 5 0), (6, i64 t6)], [(2, ⟨true, 0, [bl b2_0, i64 b2_1, i64 b2_2, i64 b2_3, i64 b2_4, .sl false 6 b2_5.length ((eSol false).f b2_5)]⟩), (5, ⟨true, 0, [i64 b5_0, i64 b5_1, i64 b5_2, i64 b5_3]⟩), (701, ⟨false, 4, (ePl).f l701⟩)]⟩ := by
  unfold Dspec_l8Planeso1_2 at h
  refine x_frk 4 [] onil h (by kernel_rfl) (fun h => ?_) (fun h => ?_)
  · exact x_to 11 [] onil (Tspec_l8Planeso1_3 n self hself t6 b2_0 b2_1 b2_2 b2_3 b2_4 b2_5 b5_0 b5_1 b5_2 b5_3 l701 r h) (by kernel_rfl)
  · obtain ⟨v15, hv15, h⟩ := bind_some h
    exact x_to 9 [(3, .unit), (0, .cells [i64 v15.A, i64 v15.B, i64 v15.C, i64 v15.D])] (ocons (inr hv15) (ocons (ldA ePl hv15 0 4 rfl rfl) onil)) (Tspec_l8Planeso1_4 n self hself t6 (!(v15.A == b5_0 && (v15.B == b5_1 && (v15.C == b5_2 && (v15.D == b5_3 && true))))) b2_0 b2_1 b2_2 b2_3 b2_4 b2_5 b5_0 b5_1 b5_2 b5_3 l701 r h) (by kernel_rfl)
def Dspec_l8Planeso1_1 (n : Nat) (self : (Sol × (List Pl)) → Option (List Pl)) (rec0 : (Int × List Pl) → Option (List Pl)) (b2_0 : Bool) (b2_1 b2_2 b2_3 b2_4 : Int) (b2_5 : List Sol) (b5_0 b5_1 b5_2 b5_3 t6 : Int) (t33 : Bool) (l701 : List Pl) : Option (List Pl) :=
  frk t33 (rec0 (w64 (t6 - 1), l701)) (Dspec_l8Planeso1_2 n self t6 b2_0 b2_1 b2_2 b2_3 b2_4 b2_5 b5_0 b5_1 b5_2 b5_3 l701)
theorem Tspec_l8Planeso1_1 {Y} (n : Nat) (self : (Sol × (List Pl)) → Option (List Pl)) (rec0 : (Int × List Pl) → Option (List Pl)) (b2_0 : Bool) (b2_1 b2_2 b2_3 b2_4 : Int) (b2_5 : List Sol) (b5_0 b5_1 b5_2 b5_3 : Int) (hself : ∀ (a : (Sol × (List Pl))) (r : (List Pl)), self a = some r → Big Try.prog H Y (.call 60 [.agg [bl a.1.inn, i64 a.1.pl.A, i64 a.1.pl.B, i64 a.1.pl.C, i64 a.1.pl.D, .sl false 6 a.1.kids.length ((eSol false).f a.1.kids)], .sl true 4 a.2.length ((ePl).f a.2)] (lk []) (.sl true 4 r.length ((ePl).f r)) (lk []))) (hrec0 : ∀ (a : (Int × List Pl)) (r : (List Pl)), rec0 a = some r → Wk Try.prog H Y 60 [.code (cp [1, 1, 1, 1, 1, 0, 0] (bodyOf Try.f60)), .blk 0, .code (cp [1, 1, 1, 1, 1, 1] (bodyOf Try.f60))] (FinX Try.prog Try.f60 [] (.sl true 4 r.length ((ePl).f r)) []) ⟨[(1, .msl 701 a.2.length), (2, .ptr 2 0), (5, .ptr 5 0), (6, i64 a.1)], [(2, ⟨true, 0, [bl b2_0, i64 b2_1, i64 b2_2, i64 b2_3, i64 b2_4, .sl false 6 b2_5.length ((eSol false).f b2_5)]⟩), (5, ⟨true, 0, [i64 b5_0, i64 b5_1, i64 b5_2, i64 b5_3]⟩), (701, ⟨false, 4, (ePl).f a.2⟩)]⟩) (t6 : Int) (t33 : Bool) (l701 : List Pl) (r : (List Pl)) (h : Dspec_l8Planeso1_1 n self rec0 b2_0 b2_1 b2_2 b2_3 b2_4 b2_5 b5_0 b5_1 b5_2 b5_3 t6 t33 l701 = some r) : Wk Try.prog H Y 60 [.code (cp [1, 1, 1, 1, 1, 0, 0, 0, 0, 1] (bodyOf Try.f60)), .code (cp [1, 1, 1, 1, 1, 0, 0, 0, 1] (bodyOf Try.f60)), .lp (cp [1, 1, 1, 1, 1, 0, 0] (bodyOf Try.f60)), .blk 0, .code (cp [1, 1, 1, 1, 1, 1] (bodyOf Try.f60))] (FinX Try.prog Try.f60 [] (.sl true 4 r.length ((ePl).f r)) []) ⟨[(1, .msl 701 l701.length), (2, .ptr 2 0), (5, .ptr 5 0), (6, i64 t6), (33, bl t33)], [(2, ⟨true, 0, [bl b2_0, i64 b2_1, i64 b2_2, i64 b2_3, i64 b2_4, .sl false 6 b2_5.length ((eSol false).f b2_5)]⟩), (5, ⟨true, 0, [i64 b5_0, i64 b5_1, i64 b5_2, i64 b5_3]⟩), (701, ⟨false, 4, (ePl).f l701⟩)]⟩ := by
  unfold Dspec_l8Planeso1_1 at h
  refine x_frk 0 [] onil h (by kernel_rfl) (fun h => ?_) (fun h => ?_)
  · exact x_to 9 [] onil (hrec0 (w64 (t6 - 1), l701) r h) (by kernel_rfl)
  · exact x_to 3 [] onil (Tspec_l8Planeso1_2 n self hself t6 b2_0 b2_1 b2_2 b2_3 b2_4 b2_5 b5_0 b5_1 b5_2 b5_3 l701 r h) (by kernel_rfl)
def Dspec_l8Planeso1_7 (n : Nat) (self : (Sol × (List Pl)) → Option (List Pl)) (b2_0 : Bool) (b2_1 b2_2 b2_3 b2_4 : Int) (b2_5 : List Sol) (b5_0 b5_1 b5_2 b5_3 : Int) (rec0 : (Int × List Pl) → Option (List Pl)) (a : (Int × List Pl)) : Option (List Pl) :=
  match a with
  | (t6, l701) => frk (decide (t6 > 0)) ((lget l701 (w64 (t6 - 1))).bind fun v4 => (Dspec_CmpPlane n v4 (Pl.mk b5_0 b5_1 b5_2 b5_3)).bind fun v5 => Dspec_l8Planeso1_1 n self rec0 b2_0 b2_1 b2_2 b2_3 b2_4 b2_5 b5_0 b5_1 b5_2 b5_3 t6 (decide (v5 > 0)) l701) (Dspec_l8Planeso1_2 n self t6 b2_0 b2_1 b2_2 b2_3 b2_4 b2_5 b5_0 b5_1 b5_2 b5_3 l701)
theorem Tspec_l8Planeso1_7 {Y} (n : Nat) (self : (Sol × (List Pl)) → Option (List Pl)) (hself : ∀ (a : (Sol × (List Pl))) (r : (List Pl)), self a = some r → Big Try.prog H Y (.call 60 [.agg [bl a.1.inn, i64 a.1.pl.A, i64 a.1.pl.B, i64 a.1.pl.C, i64 a.1.pl.D, .sl false 6 a.1.kids.length ((eSol false).f a.1.kids)], .sl true 4 a.2.length ((ePl).f a.2)] (lk []) (.sl true 4 r.length ((ePl).f r)) (lk []))) (b2_0 : Bool) (b2_1 b2_2 b2_3 b2_4 : Int) (b2_5 : List Sol) (b5_0 b5_1 b5_2 b5_3 : Int) : ∀ (m : Nat) (a : (Int × List Pl)) (r : (List Pl)), loopN (Dspec_l8Planeso1_7 n self b2_0 b2_1 b2_2 b2_3 b2_4 b2_5 b5_0 b5_1 b5_2 b5_3) m a = some r → Wk Try.prog H Y 60 [.code (cp [1, 1, 1, 1, 1, 0, 0] (bodyOf Try.f60)), .blk 0, .code (cp [1, 1, 1, 1, 1, 1] (bodyOf Try.f60))] (FinX Try.prog Try.f60 [] (.sl true 4 r.length ((ePl).f r)) []) ⟨[(1, .msl 701 a.2.length), (2, .ptr 2 0), (5, .ptr 5 0), (6, i64 a.1)], [(2, ⟨true, 0, [bl b2_0, i64 b2_1, i64 b2_2, i64 b2_3, i64 b2_4, .sl false 6 b2_5.length ((eSol false).f b2_5)]⟩), (5, ⟨true, 0, [i64 b5_0, i64 b5_1, i64 b5_2, i64 b5_3]⟩), (701, ⟨false, 4, (ePl).f a.2⟩)]⟩ := by
  refine loopN_ind (fun rec0 hrec0 a r h => ?_)
  obtain ⟨t6, l701⟩ := a
  unfold Dspec_l8Planeso1_7 at h
  refine x_frk 7 [] onil h (by kernel_rfl) (fun h => ?_) (fun h => ?_)
  · obtain ⟨v4, hv4, h⟩ := bind_some h
    obtain ⟨v5, hv5, h⟩ := bind_some h
    exact x_to 10 [(3, .unit), (0, .cells [i64 v4.A, i64 v4.B, i64 v4.C, i64 v4.D]), (1, .call [] [] (i64 v5) [])] (ocons (inr hv4) (ocons (ldA ePl hv4 0 4 rfl rfl) (ocons (Tspec_CmpPlane (Y := Y) n v4 (Pl.mk b5_0 b5_1 b5_2 b5_3) _ hv5) onil))) (Tspec_l8Planeso1_1 n self rec0 b2_0 b2_1 b2_2 b2_3 b2_4 b2_5 b5_0 b5_1 b5_2 b5_3 hself hrec0 t6 (decide (v5 > 0)) l701 r h) (by kernel_rfl)
  · exact x_to 14 [] onil (Tspec_l8Planeso1_2 n self hself t6 b2_0 b2_1 b2_2 b2_3 b2_4 b2_5 b5_0 b5_1 b5_2 b5_3 l701 r h) (by kernel_rfl)
def Dspec_l8Planeso1_0 (n : Nat) (self : (Sol × (List Pl)) → Option (List Pl)) (t6 : Int) (b2_0 : Bool) (b2_1 b2_2 b2_3 b2_4 : Int) (b2_5 : List Sol) (b5_0 b5_1 b5_2 b5_3 : Int) (l701 : List Pl) : Option (List Pl) :=
  loopN (Dspec_l8Planeso1_7 n self b2_0 b2_1 b2_2 b2_3 b2_4 b2_5 b5_0 b5_1 b5_2 b5_3) n (t6, l701)
theorem Tspec_l8Planeso1_0 {Y} (n : Nat) (self : (Sol × (List Pl)) → Option (List Pl)) (hself : ∀ (a : (Sol × (List Pl))) (r : (List Pl)), self a = some r → Big Try.prog H Y (.call 60 [.agg [bl a.1.inn, i64 a.1.pl.A, i64 a.1.pl.B, i64 a.1.pl.C, i64 a.1.pl.D, .sl false 6 a.1.kids.length ((eSol false).f a.1.kids)], .sl true 4 a.2.length ((ePl).f a.2)] (lk []) (.sl true 4 r.length ((ePl).f r)) (lk []))) (t6 : Int) (b2_0 : Bool) (b2_1 b2_2 b2_3 b2_4 : Int) (b2_5 : List Sol) (b5_0 b5_1 b5_2 b5_3 : Int) (l701 : List Pl) (r : (List Pl)) (h : Dspec_l8Planeso1_0 n self t6 b2_0 b2_1 b2_2 b2_3 b2_4 b2_5 b5_0 b5_1 b5_2 b5_3 l701 = some r) : Wk Try.prog H Y 60 [.code (cp [1, 1, 1, 1, 1, 0, 0] (bodyOf Try.f60)), .blk 0, .code (cp [1, 1, 1, 1, 1, 1] (bodyOf Try.f60))] (FinX Try.prog Try.f60 [] (.sl true 4 r.length ((ePl).f r)) []) ⟨[(1, .msl 701 l701.length), (2, .ptr 2 0), (5, .ptr 5 0), (6, i64 t6)], [(2, ⟨true, 0, [bl b2_0, i64 b2_1, i64 b2_2, i64 b2_3, i64 b2_4, .sl false 6 b2_5.length ((eSol false).f b2_5)]⟩), (5, ⟨true, 0, [i64 b5_0, i64 b5_1, i64 b5_2, i64 b5_3]⟩), (701, ⟨false, 4, (ePl).f l701⟩)]⟩ := by
  unfold Dspec_l8Planeso1_0 at h
  exact x_to 0 [] onil (Tspec_l8Planeso1_7 n self hself b2_0 b2_1 b2_2 b2_3 b2_4 b2_5 b5_0 b5_1 b5_2 b5_3 n (t6, l701) r h) (by kernel_rfl)
def Dspec_l8Planeso1_b (n : Nat) (self : (Sol × (List Pl)) → Option (List Pl)) (a : (Sol × (List Pl))) : Option (List Pl) :=
  match a with
  | (a0, a1) => (Dspec_l8Leaf a0).bind fun v0 => frk v0 (some a1) ((Dspec_l3Flip a0.pl).bind fun v1 => (Dspec_CmpPlane n a0.pl v1).bind fun v2 => frk (decide (v2 < 0)) ((Dspec_l3Flip a0.pl).bind fun v3 => Dspec_l8Planeso1_0 n self (a1.length : Int) a0.inn a0.pl.A a0.pl.B a0.pl.C a0.pl.D a0.kids v3.A v3.B v3.C v3.D a1) (Dspec_l8Planeso1_0 n self (a1.length : Int) a0.inn a0.pl.A a0.pl.B a0.pl.C a0.pl.D a0.kids a0.pl.A a0.pl.B a0.pl.C a0.pl.D a1))
def Dspec_l8Planeso1 (n : Nat) (a0 : Sol) (a1 : (List Pl)) : Option (List Pl) := loopN (Dspec_l8Planeso1_b n) n (a0, a1)
theorem Tspec_l8Planeso1_b {Y} (n : Nat) : ∀ (m : Nat) (a : (Sol × (List Pl))) (r : (List Pl)), loopN (Dspec_l8Planeso1_b n) m a = some r → ∀ (_ : Unit), Big Try.prog H Y (.call 60 [.agg [bl a.1.inn, i64 a.1.pl.A, i64 a.1.pl.B, i64 a.1.pl.C, i64 a.1.pl.D, .sl false 6 a.1.kids.length ((eSol false).f a.1.kids)], .sl true 4 a.2.length ((ePl).f a.2)] (lk []) (.sl true 4 r.length ((ePl).f r)) (lk [])) := by
  refine loopN_ind (fun self hs a r h => ?_)
  have hself : ∀ (a : (Sol × (List Pl))) (r : (List Pl)), self a = some r → Big Try.prog H Y (.call 60 [.agg [bl a.1.inn, i64 a.1.pl.A, i64 a.1.pl.B, i64 a.1.pl.C, i64 a.1.pl.D, .sl false 6 a.1.kids.length ((eSol false).f a.1.kids)], .sl true 4 a.2.length ((ePl).f a.2)] (lk []) (.sl true 4 r.length ((ePl).f r)) (lk [])) := fun a r h => hs a r h ()
  intro _
  obtain ⟨a0, a1⟩ := a
  unfold Dspec_l8Planeso1_b at h
  refine x_call (fn := Try.f60) (c := bodyOf Try.f60) (bs0 := []) Try.func60 (by kernel_rfl) (by kernel_rfl) ?_
  obtain ⟨v0, hv0, h⟩ := bind_some h
  refine x_frk 12 [(0, .adopt 1 701 a1.length 4 ((ePl).f a1)), (3, .call [] [] (bl v0) [])] (ocons (rflV (.sl true 4 a1.length ((ePl).f a1))) (ocons (show 701 < 1000 ∧ 4 ≠ 0 by decide) (ocons (Tspec_l8Leaf (Y := Y) a0 _ hv0) onil))) h (by kernel_rfl) (fun h => ?_) (fun h => ?_)
  · replace h := Option.some.inj h; subst h
    exact x_end 5 [] [] onil (ocons (len_row (L := a1) ePl) onil) (by kernel_rfl)
  · obtain ⟨v1, hv1, h⟩ := bind_some h
    obtain ⟨v2, hv2, h⟩ := bind_some h
    refine x_frk 17 [(6, .call [] [] (.agg [i64 v1.A, i64 v1.B, i64 v1.C, i64 v1.D]) []), (0, .call [] [] (i64 v2) [])] (ocons (Tspec_l3Flip (Y := Y) a0.pl _ hv1) (ocons (Tspec_CmpPlane (Y := Y) n a0.pl v1 _ hv2) onil)) h (by kernel_rfl) (fun h => ?_) (fun h => ?_)
    · obtain ⟨v3, hv3, h⟩ := bind_some h
      exact x_to 13 [(1, .call [] [] (.agg [i64 v3.A, i64 v3.B, i64 v3.C, i64 v3.D]) [])] (ocons (Tspec_l3Flip (Y := Y) a0.pl _ hv3) onil) (Tspec_l8Planeso1_0 n self hself (a1.length : Int) a0.inn a0.pl.A a0.pl.B a0.pl.C a0.pl.D a0.kids v3.A v3.B v3.C v3.D a1 r h) (by kernel_rfl)
    · exact x_to 9 [] onil (Tspec_l8Planeso1_0 n self hself (a1.length : Int) a0.inn a0.pl.A a0.pl.B a0.pl.C a0.pl.D a0.kids a0.pl.A a0.pl.B a0.pl.C a0.pl.D a1 r h) (by kernel_rfl)
theorem Tspec_l8Planeso1 {Y} (n : Nat) (a0 : Sol) (a1 : (List Pl)) (r : (List Pl)) (h : Dspec_l8Planeso1 n a0 a1 = some r) : Big Try.prog H Y (.call 60 [.agg [bl a0.inn, i64 a0.pl.A, i64 a0.pl.B, i64 a0.pl.C, i64 a0.pl.D, .sl false 6 a0.kids.length ((eSol false).f a0.kids)], .sl true 4 a1.length ((ePl).f a1)] (lk []) (.sl true 4 r.length ((ePl).f r)) (lk [])) := Tspec_l8Planeso1_b n n (a0, a1) r h ()
/-! spec.PlanesOf -/
def Dspec_PlanesOf (n : Nat) (a0 : Sol) : Option (List Pl) :=
  (Dspec_SolidOk n a0).bind fun v0 => frk (!v0) (some []) ((Dspec_l8Planeso1 n a0 []).bind fun v1 => some v1)
theorem Tspec_PlanesOf {Y} (n : Nat) (a0 : Sol) (r : (List Pl)) (h : Dspec_PlanesOf n a0 = some r) : Big Try.prog H Y (.call 34 [.agg [bl a0.inn, i64 a0.pl.A, i64 a0.pl.B, i64 a0.pl.C, i64 a0.pl.D, .sl false 6 a0.kids.length ((eSol false).f a0.kids)]] (lk []) (.sl true 4 r.length ((ePl).f r)) (lk [])) := by
  unfold Dspec_PlanesOf at h
  refine x_call (fn := Try.f34) (c := bodyOf Try.f34) (bs0 := []) Try.func34 (by kernel_rfl) (by kernel_rfl) ?_
  obtain ⟨v0, hv0, h⟩ := bind_some h
  refine x_frk 12 [(3, .call [] [] (bl v0) [])] (ocons (Tspec_SolidOk (Y := Y) n a0 _ hv0) onil) h (by kernel_rfl) (fun h => ?_) (fun h => ?_)
  · replace h := Option.some.inj h; subst h
    exact x_end 5 [] [] onil (ocons (len_row (L := []) ePl) onil) (by kernel_rfl)
  · obtain ⟨v1, hv1, h⟩ := bind_some h
    replace h := Option.some.inj h; subst h
    exact x_end 8 [(2, .call [] [] (.sl true 4 v1.length ((ePl).f v1)) [])] [] (ocons (Tspec_l8Planeso1 (Y := Y) n a0 [] _ hv1) (ocons (len_row (L := []) ePl) onil)) (ocons (len_row (L := v1) ePl) onil) (by kernel_rfl)
/-! spec.l13Among -/
def Dspec_l13Among_0 (_n : Nat) (t0 : List Pl) (b3_0 b3_1 b3_2 b3_3 : Int) (rec0 : Int → Option Bool) (a : Int) : Option Bool :=
  match a with
  | t5 => frk (decide (t5 < (t0.length : Int))) ((lget t0 t5).bind fun v0 => frk (v0.A == b3_0 && (v0.B == b3_1 && (v0.C == b3_2 && (v0.D == b3_3 && true)))) (some true) (rec0 (w64 (t5 + 1)))) (some false)
theorem Tspec_l13Among_0 {Y} (n : Nat) (t0 : List Pl) (b3_0 b3_1 b3_2 b3_3 : Int) : ∀ (m : Nat) (a : Int) (r : Bool), loopN (Dspec_l13Among_0 n t0 b3_0 b3_1 b3_2 b3_3) m a = some r → Wk Try.prog H Y 61 [.code (cp [1, 0, 1, 0] (bodyOf Try.f61)), .blk 0, .code (cp [1, 1] (bodyOf Try.f61))] (FinX Try.prog Try.f61 [] (bl r) []) ⟨[(0, .sl false 4 t0.length ((ePl).f t0)), (3, .ptr 3 0), (5, i64 a)], [(3, ⟨true, 0, [i64 b3_0, i64 b3_1, i64 b3_2, i64 b3_3]⟩)]⟩ := by
  refine loopN_ind (fun _rec0 hrec0 a r h => ?_)
  obtain ⟨t5, rfl⟩ : ∃ x, x = a := ⟨a, rfl⟩
  unfold Dspec_l13Among_0 at h
  refine x_frk 9 [] onil h (by kernel_rfl) (fun h => ?_) (fun h => ?_)
  · obtain ⟨v0, hv0, h⟩ := bind_some h
    refine x_frk 12 [(2, .val (.cptr (ePl.c v0 ++ (ePl).f ((t0).drop (Int.toNat t5 + 1)))))] (ocons (ix ePl hv0) onil) h (by kernel_rfl) (fun h => ?_) (fun h => ?_)
    · replace h := Option.some.inj h; subst h
      exact x_end 4 [] [] onil onil (by kernel_rfl)
    · exact x_to 8 [] onil (hrec0 (w64 (t5 + 1)) r h) (by kernel_rfl)
  · replace h := Option.some.inj h; subst h
    exact x_end 5 [] [] onil onil (by kernel_rfl)
def Dspec_l13Among (n : Nat) (a0 : (List Pl)) (a1 : Pl) : Option Bool :=
  loopN (Dspec_l13Among_0 n a0 a1.A a1.B a1.C a1.D) n 0
theorem Tspec_l13Among {Y} (n : Nat) (a0 : (List Pl)) (a1 : Pl) (r : Bool) (h : Dspec_l13Among n a0 a1 = some r) : Big Try.prog H Y (.call 61 [.sl false 4 a0.length ((ePl).f a0), .agg [i64 a1.A, i64 a1.B, i64 a1.C, i64 a1.D]] (lk []) (bl r) (lk [])) := by
  unfold Dspec_l13Among at h
  refine x_call (fn := Try.f61) (c := bodyOf Try.f61) (bs0 := []) Try.func61 (by kernel_rfl) (by kernel_rfl) ?_
  exact x_to 11 [] onil (Tspec_l13Among_0 n a0 a1.A a1.B a1.C a1.D n 0 r h) (by kernel_rfl)
/-! spec.l13Rest -/
def Dspec_l13Rest_0 (_n : Nat) (rec0 : (Int × List Pl) → Option (List Pl)) (t0 : List Pl) (_b3_0 _b3_1 _b3_2 _b3_3 t6 : Int) (t28 : Bool) (l7 : List Pl) : Option (List Pl) :=
  frk t28 ((lget t0 t6).bind fun v3 => chk (apB 32 (l7.length + 1)) (rec0 (w64 (t6 + 1), (l7 ++ [v3])))) (rec0 (w64 (t6 + 1), l7))
theorem Tspec_l13Rest_0 {Y} (n : Nat) (rec0 : (Int × List Pl) → Option (List Pl)) (t0 : List Pl) (b3_0 b3_1 b3_2 b3_3 : Int) (hrec0 : ∀ (a : (Int × List Pl)) (r : (List Pl)), rec0 a = some r → Wk Try.prog H Y 63 [.code (cp [1, 1, 0, 1, 0] (bodyOf Try.f63)), .blk 0, .code (cp [1, 1, 1] (bodyOf Try.f63))] (FinX Try.prog Try.f63 [] (.sl true 4 r.length ((ePl).f r)) []) ⟨[(0, .sl false 4 t0.length ((ePl).f t0)), (3, .ptr 3 0), (5, .msl 7 a.2.length), (6, i64 a.1)], [(3, ⟨true, 0, [i64 b3_0, i64 b3_1, i64 b3_2, i64 b3_3]⟩), (7, ⟨true, 4, (ePl).f a.2⟩)]⟩) (t6 : Int) (t28 : Bool) (l7 : List Pl) (r : (List Pl)) (h : Dspec_l13Rest_0 n rec0 t0 b3_0 b3_1 b3_2 b3_3 t6 t28 l7 = some r) : Wk Try.prog H Y 63 [.code (cp [1, 1, 0, 1, 0, 0, 1, 0, 0, 1] (bodyOf Try.f63)), .blk 1, .code (cp [1, 1, 0, 1, 0, 0, 1, 1] (bodyOf Try.f63)), .lp (cp [1, 1, 0, 1, 0] (bodyOf Try.f63)), .blk 0, .code (cp [1, 1, 1] (bodyOf Try.f63))] (FinX Try.prog Try.f63 [] (.sl true 4 r.length ((ePl).f r)) []) ⟨[(0, .sl false 4 t0.length ((ePl).f t0)), (3, .ptr 3 0), (5, .msl 7 l7.length), (6, i64 t6), (28, bl t28)], [(3, ⟨true, 0, [i64 b3_0, i64 b3_1, i64 b3_2, i64 b3_3]⟩), (7, ⟨true, 4, (ePl).f l7⟩)]⟩ := by
  unfold Dspec_l13Rest_0 at h
  refine x_frk 0 [] onil h (by kernel_rfl) (fun h => ?_) (fun h => ?_)
  · obtain ⟨v3, hv3, h⟩ := bind_some h
    obtain ⟨c4, h⟩ := chk_some h
    exact x_to 18 [(3, .val (.cptr (ePl.c v3 ++ (ePl).f ((t0).drop (Int.toNat t6 + 1))))), (2, .app false (List.length (l7 ++ [v3])) ((ePl).f (l7 ++ [v3]))), (4, .ren 35 7)] (ocons (ix ePl hv3) (ocons (len_row' (L := l7) ePl) (ocons (app_one (L := l7) (M := [v3]) ePl c4) (ocons (app_new (L := l7) (M := [v3]) ePl) (ocons (app_m (L := l7) (M := [v3]) ePl rfl) (ocons (len_row' (L := [v3]) ePl) (ocons (Enc.noOwn ePl (fun _ => rfl) [v3]) (ocons (show 35 < 1000 ∧ 7 < 1000 by decide) onil)))))))) (hrec0 (w64 (t6 + 1), (l7 ++ [v3])) r h) (by kernel_rfl)
  · exact x_to 8 [] onil (hrec0 (w64 (t6 + 1), l7) r h) (by kernel_rfl)
def Dspec_l13Rest_1 (n : Nat) (t0 : List Pl) (b3_0 b3_1 b3_2 b3_3 : Int) (rec0 : (Int × List Pl) → Option (List Pl)) (a : (Int × List Pl)) : Option (List Pl) :=
  match a with
  | (t6, l7) => frk (decide (t6 < (t0.length : Int))) ((lget t0 t6).bind fun v0 => frk (!(v0.A == b3_0 && (v0.B == b3_1 && (v0.C == b3_2 && (v0.D == b3_3 && true))))) ((lget t0 t6).bind fun v1 => (Dspec_l3Flip (Pl.mk b3_0 b3_1 b3_2 b3_3)).bind fun v2 => Dspec_l13Rest_0 n rec0 t0 b3_0 b3_1 b3_2 b3_3 t6 (!(v1.A == v2.A && (v1.B == v2.B && (v1.C == v2.C && (v1.D == v2.D && true))))) l7) (rec0 (w64 (t6 + 1), l7))) (some l7)
theorem Tspec_l13Rest_1 {Y} (n : Nat) (t0 : List Pl) (b3_0 b3_1 b3_2 b3_3 : Int) : ∀ (m : Nat) (a : (Int × List Pl)) (r : (List Pl)), loopN (Dspec_l13Rest_1 n t0 b3_0 b3_1 b3_2 b3_3) m a = some r → Wk Try.prog H Y 63 [.code (cp [1, 1, 0, 1, 0] (bodyOf Try.f63)), .blk 0, .code (cp [1, 1, 1] (bodyOf Try.f63))] (FinX Try.prog Try.f63 [] (.sl true 4 r.length ((ePl).f r)) []) ⟨[(0, .sl false 4 t0.length ((ePl).f t0)), (3, .ptr 3 0), (5, .msl 7 a.2.length), (6, i64 a.1)], [(3, ⟨true, 0, [i64 b3_0, i64 b3_1, i64 b3_2, i64 b3_3]⟩), (7, ⟨true, 4, (ePl).f a.2⟩)]⟩ := by
  refine loopN_ind (fun rec0 hrec0 a r h => ?_)
  obtain ⟨t6, l7⟩ := a
  unfold Dspec_l13Rest_1 at h
  refine x_frk 9 [] onil h (by kernel_rfl) (fun h => ?_) (fun h => ?_)
  · obtain ⟨v0, hv0, h⟩ := bind_some h
    refine x_frk 12 [(2, .val (.cptr (ePl.c v0 ++ (ePl).f ((t0).drop (Int.toNat t6 + 1)))))] (ocons (ix ePl hv0) onil) h (by kernel_rfl) (fun h => ?_) (fun h => ?_)
    · obtain ⟨v1, hv1, h⟩ := bind_some h
      obtain ⟨v2, hv2, h⟩ := bind_some h
      exact x_to 9 [(2, .val (.cptr (ePl.c v1 ++ (ePl).f ((t0).drop (Int.toNat t6 + 1))))), (2, .call [] [] (.agg [i64 v2.A, i64 v2.B, i64 v2.C, i64 v2.D]) [])] (ocons (ix ePl hv1) (ocons (Tspec_l3Flip (Y := Y) (Pl.mk b3_0 b3_1 b3_2 b3_3) _ hv2) onil)) (Tspec_l13Rest_0 n rec0 t0 b3_0 b3_1 b3_2 b3_3 hrec0 t6 (!(v1.A == v2.A && (v1.B == v2.B && (v1.C == v2.C && (v1.D == v2.D && true))))) l7 r h) (by kernel_rfl)
    · exact x_to 18 [] onil (hrec0 (w64 (t6 + 1), l7) r h) (by kernel_rfl)
  · replace h := Option.some.inj h; subst h
    exact x_end 6 [] [] onil (ocons (len_row (L := l7) ePl) onil) (by kernel_rfl)
def Dspec_l13Rest (n : Nat) (a0 : (List Pl)) (a1 : Pl) : Option (List Pl) :=
  loopN (Dspec_l13Rest_1 n a0 a1.A a1.B a1.C a1.D) n (0, [])
theorem Tspec_l13Rest {Y} (n : Nat) (a0 : (List Pl)) (a1 : Pl) (r : (List Pl)) (h : Dspec_l13Rest n a0 a1 = some r) : Big Try.prog H Y (.call 63 [.sl false 4 a0.length ((ePl).f a0), .agg [i64 a1.A, i64 a1.B, i64 a1.C, i64 a1.D]] (lk []) (.sl true 4 r.length ((ePl).f r)) (lk [])) := by
  unfold Dspec_l13Rest at h
  refine x_call (fn := Try.f63) (c := bodyOf Try.f63) (bs0 := []) Try.func63 (by kernel_rfl) (by kernel_rfl) ?_
  exact x_to 16 [] onil (Tspec_l13Rest_1 n a0 a1.A a1.B a1.C a1.D n (0, []) r h) (by kernel_rfl)
/-! spec.l6Open -/
def Dspec_l6Open_0 (n : Nat) (t0 : List Pl) (rec0 : Int → Option Bool) (a : Int) : Option Bool :=
  match a with
  | t3 => frk (decide (t3 < (t0.length : Int))) ((lsl t0 0 t3).bind fun v0 => (lget t0 t3).bind fun v1 => (Dspec_l6With n v0 v1).bind fun v2 => frk v2 (some false) (rec0 (w64 (t3 + 1)))) (some true)
theorem Tspec_l6Open_0 {Y} (n : Nat) (t0 : List Pl) : ∀ (m : Nat) (a : Int) (r : Bool), loopN (Dspec_l6Open_0 n t0) m a = some r → Wk Try.prog H Y 64 [.code (cp [1, 0, 1, 0] (bodyOf Try.f64)), .blk 0, .code (cp [1, 1] (bodyOf Try.f64))] (FinX Try.prog Try.f64 [] (bl r) []) ⟨[(0, .sl false 4 t0.length ((ePl).f t0)), (3, i64 a)], []⟩ := by
  refine loopN_ind (fun _rec0 hrec0 a r h => ?_)
  obtain ⟨t3, rfl⟩ : ∃ x, x = a := ⟨a, rfl⟩
  unfold Dspec_l6Open_0 at h
  refine x_frk 9 [] onil h (by kernel_rfl) (fun h => ?_) (fun h => ?_)
  · obtain ⟨v0, hv0, h⟩ := bind_some h
    obtain ⟨v1, hv1, h⟩ := bind_some h
    obtain ⟨v2, hv2, h⟩ := bind_some h
    refine x_frk 14 [(2, .val (.sl false 4 v0.length ((ePl).f v0))), (2, .val (.cptr (ePl.c v1 ++ (ePl).f ((t0).drop (Int.toNat t3 + 1))))), (1, .call [] [] (bl v2) [])] (ocons (slF ePl hv0) (ocons (ix ePl hv1) (ocons (Tspec_l6With (Y := Y) n v0 v1 _ hv2) onil))) h (by kernel_rfl) (fun h => ?_) (fun h => ?_)
    · replace h := Option.some.inj h; subst h
      exact x_end 4 [] [] onil onil (by kernel_rfl)
    · exact x_to 8 [] onil (hrec0 (w64 (t3 + 1)) r h) (by kernel_rfl)
  · replace h := Option.some.inj h; subst h
    exact x_end 5 [] [] onil onil (by kernel_rfl)
def Dspec_l6Open (n : Nat) (a0 : (List Pl)) : Option Bool :=
  loopN (Dspec_l6Open_0 n a0) n 1
theorem Tspec_l6Open {Y} (n : Nat) (a0 : (List Pl)) (r : Bool) (h : Dspec_l6Open n a0 = some r) : Big Try.prog H Y (.call 64 [.sl false 4 a0.length ((ePl).f a0)] (lk []) (bl r) (lk [])) := by
  unfold Dspec_l6Open at h
  refine x_call (fn := Try.f64) (c := bodyOf Try.f64) (bs0 := []) Try.func64 (by kernel_rfl) (by kernel_rfl) ?_
  exact x_to 10 [] onil (Tspec_l6Open_0 n a0 n 1 r h) (by kernel_rfl)
/-! spec.l13Meet -/
def Dspec_l13Meet_0 (n : Nat) (t0 : List Pl) (t1 : List Pl) (b5_0 b5_1 b5_2 b5_3 : Int) : Option Bool :=
  (Dspec_l13Rest n t0 (Pl.mk b5_0 b5_1 b5_2 b5_3)).bind fun v3 => (Dspec_l13Rest n t1 (Pl.mk b5_0 b5_1 b5_2 b5_3)).bind fun v4 => chk (apB 32 (v3.length + v4.length)) ((Dspec_l6Open n (v3 ++ v4)).bind fun v6 => frk v6 ((Dspec_l6With n (v3 ++ v4) (Pl.mk b5_0 b5_1 b5_2 b5_3)).bind fun v7 => frk (!v7) ((Dspec_l3Flip (Pl.mk b5_0 b5_1 b5_2 b5_3)).bind fun v8 => (Dspec_l6With n (v3 ++ v4) v8).bind fun v9 => some (!v9)) (some false)) (some false))
theorem Tspec_l13Meet_0 {Y} (n : Nat) (t0 : List Pl) (t1 : List Pl) (b5_0 b5_1 b5_2 b5_3 : Int) (r : Bool) (h : Dspec_l13Meet_0 n t0 t1 b5_0 b5_1 b5_2 b5_3 = some r) : Wk Try.prog H Y 35 [.code (cp [1, 1, 0] (bodyOf Try.f35)), .code (cp [1, 1, 1] (bodyOf Try.f35))] (FinX Try.prog Try.f35 [] (bl r) []) ⟨[(0, .sl false 4 t0.length ((ePl).f t0)), (1, .sl false 4 t1.length ((ePl).f t1)), (5, .ptr 5 0)], [(5, ⟨true, 0, [i64 b5_0, i64 b5_1, i64 b5_2, i64 b5_3]⟩)]⟩ := by
  unfold Dspec_l13Meet_0 at h
  obtain ⟨v3, hv3, h⟩ := bind_some h
  obtain ⟨v4, hv4, h⟩ := bind_some h
  obtain ⟨c5, h⟩ := chk_some h
  obtain ⟨v6, hv6, h⟩ := bind_some h
  refine x_frk 15 [(2, .call [] [] (.sl true 4 v3.length ((ePl).f v3)) []), (2, .call [] [] (.sl false 4 v4.length ((ePl).f v4)) []), (0, .app false (List.length (v3 ++ v4)) ((ePl).f (v3 ++ v4))), (2, .call [] [(ePl).f (v3 ++ v4)] (bl v6) [])] (ocons (Tspec_l13Rest (Y := Y) n t0 (Pl.mk b5_0 b5_1 b5_2 b5_3) _ hv3) (ocons (shSl (L := v4) ePl ePl sPl (Tspec_l13Rest (Y := Y) n t1 (Pl.mk b5_0 b5_1 b5_2 b5_3) _ hv4)) (ocons (len_row' (L := v3) ePl) (ocons (app_one (L := v3) (M := v4) ePl c5) (ocons (app_new (L := v3) (M := v4) ePl) (ocons (app_m (L := v3) (M := v4) ePl rfl) (ocons (len_row' (L := v4) ePl) (ocons (Tspec_l6Open (Y := Y) n (v3 ++ v4) _ hv6) (ocons (len_row (L := (v3 ++ v4)) ePl) (ocons (Enc.share ePl ePl sPl (v3 ++ v4)) onil)))))))))) h (by kernel_rfl) (fun h => ?_) (fun h => ?_)
  · obtain ⟨v7, hv7, h⟩ := bind_some h
    refine x_frk 6 [(2, .call [] [(ePl).f (v3 ++ v4)] (bl v7) [])] (ocons (Tspec_l6With (Y := Y) n (v3 ++ v4) (Pl.mk b5_0 b5_1 b5_2 b5_3) _ hv7) (ocons (len_row (L := (v3 ++ v4)) ePl) (ocons (Enc.share ePl ePl sPl (v3 ++ v4)) onil))) h (by kernel_rfl) (fun h => ?_) (fun h => ?_)
    · obtain ⟨v8, hv8, h⟩ := bind_some h
      obtain ⟨v9, hv9, h⟩ := bind_some h
      replace h := Option.some.inj h; subst h
      exact x_end 8 [(2, .call [] [] (.agg [i64 v8.A, i64 v8.B, i64 v8.C, i64 v8.D]) []), (0, .call [] [(ePl).f (v3 ++ v4)] (bl v9) [])] [] (ocons (Tspec_l3Flip (Y := Y) (Pl.mk b5_0 b5_1 b5_2 b5_3) _ hv8) (ocons (Tspec_l6With (Y := Y) n (v3 ++ v4) v8 _ hv9) (ocons (len_row (L := (v3 ++ v4)) ePl) (ocons (Enc.share ePl ePl sPl (v3 ++ v4)) onil)))) onil (by kernel_rfl)
    · replace h := Option.some.inj h; subst h
      exact x_end 8 [] [] onil onil (by kernel_rfl)
  · replace h := Option.some.inj h; subst h
    exact x_end 14 [] [] onil onil (by kernel_rfl)
def Dspec_l13Meet_1 (n : Nat) (t0 : List Pl) (t1 : List Pl) (t28 : Bool) (b5_0 b5_1 b5_2 b5_3 : Int) : Option Bool :=
  frk t28 (some false) ((Dspec_l13Rest n t0 (Pl.mk b5_0 b5_1 b5_2 b5_3)).bind fun v13 => (Dspec_l13Rest n t1 (Pl.mk b5_0 b5_1 b5_2 b5_3)).bind fun v14 => chk (apB 32 (v13.length + v14.length)) ((Dspec_l6Open n (v13 ++ v14)).bind fun v16 => frk v16 ((Dspec_l6With n (v13 ++ v14) (Pl.mk b5_0 b5_1 b5_2 b5_3)).bind fun v17 => frk (!v17) ((Dspec_l3Flip (Pl.mk b5_0 b5_1 b5_2 b5_3)).bind fun v18 => (Dspec_l6With n (v13 ++ v14) v18).bind fun v19 => some (!v19)) (some false)) (some false)))
theorem Tspec_l13Meet_1 {Y} (n : Nat) (t0 : List Pl) (t1 : List Pl) (t28 : Bool) (b5_0 b5_1 b5_2 b5_3 : Int) (r : Bool) (h : Dspec_l13Meet_1 n t0 t1 t28 b5_0 b5_1 b5_2 b5_3 = some r) : Wk Try.prog H Y 35 [.code (cp [1, 0, 1] (bodyOf Try.f35)), .code (cp [1, 1] (bodyOf Try.f35))] (FinX Try.prog Try.f35 [] (bl r) []) ⟨[(0, .sl false 4 t0.length ((ePl).f t0)), (1, .sl false 4 t1.length ((ePl).f t1)), (5, .ptr 5 0), (28, bl t28)], [(5, ⟨true, 0, [i64 b5_0, i64 b5_1, i64 b5_2, i64 b5_3]⟩)]⟩ := by
  unfold Dspec_l13Meet_1 at h
  refine x_frk 0 [] onil h (by kernel_rfl) (fun h => ?_) (fun h => ?_)
  · replace h := Option.some.inj h; subst h
    exact x_end 4 [] [] onil onil (by kernel_rfl)
  · obtain ⟨v13, hv13, h⟩ := bind_some h
    obtain ⟨v14, hv14, h⟩ := bind_some h
    obtain ⟨c15, h⟩ := chk_some h
    obtain ⟨v16, hv16, h⟩ := bind_some h
    refine x_frk 17 [(2, .call [] [] (.sl true 4 v13.length ((ePl).f v13)) []), (2, .call [] [] (.sl false 4 v14.length ((ePl).f v14)) []), (0, .app false (List.length (v13 ++ v14)) ((ePl).f (v13 ++ v14))), (2, .call [] [(ePl).f (v13 ++ v14)] (bl v16) [])] (ocons (Tspec_l13Rest (Y := Y) n t0 (Pl.mk b5_0 b5_1 b5_2 b5_3) _ hv13) (ocons (shSl (L := v14) ePl ePl sPl (Tspec_l13Rest (Y := Y) n t1 (Pl.mk b5_0 b5_1 b5_2 b5_3) _ hv14)) (ocons (len_row' (L := v13) ePl) (ocons (app_one (L := v13) (M := v14) ePl c15) (ocons (app_new (L := v13) (M := v14) ePl) (ocons (app_m (L := v13) (M := v14) ePl rfl) (ocons (len_row' (L := v14) ePl) (ocons (Tspec_l6Open (Y := Y) n (v13 ++ v14) _ hv16) (ocons (len_row (L := (v13 ++ v14)) ePl) (ocons (Enc.share ePl ePl sPl (v13 ++ v14)) onil)))))))))) h (by kernel_rfl) (fun h => ?_) (fun h => ?_)
    · obtain ⟨v17, hv17, h⟩ := bind_some h
      refine x_frk 6 [(2, .call [] [(ePl).f (v13 ++ v14)] (bl v17) [])] (ocons (Tspec_l6With (Y := Y) n (v13 ++ v14) (Pl.mk b5_0 b5_1 b5_2 b5_3) _ hv17) (ocons (len_row (L := (v13 ++ v14)) ePl) (ocons (Enc.share ePl ePl sPl (v13 ++ v14)) onil))) h (by kernel_rfl) (fun h => ?_) (fun h => ?_)
      · obtain ⟨v18, hv18, h⟩ := bind_some h
        obtain ⟨v19, hv19, h⟩ := bind_some h
        replace h := Option.some.inj h; subst h
        exact x_end 8 [(2, .call [] [] (.agg [i64 v18.A, i64 v18.B, i64 v18.C, i64 v18.D]) []), (0, .call [] [(ePl).f (v13 ++ v14)] (bl v19) [])] [] (ocons (Tspec_l3Flip (Y := Y) (Pl.mk b5_0 b5_1 b5_2 b5_3) _ hv18) (ocons (Tspec_l6With (Y := Y) n (v13 ++ v14) v18 _ hv19) (ocons (len_row (L := (v13 ++ v14)) ePl) (ocons (Enc.share ePl ePl sPl (v13 ++ v14)) onil)))) onil (by kernel_rfl)
      · replace h := Option.some.inj h; subst h
        exact x_end 8 [] [] onil onil (by kernel_rfl)
    · replace h := Option.some.inj h; subst h
      exact x_end 14 [] [] onil onil (by kernel_rfl)
def Dspec_l13Meet (n : Nat) (a0 : (List Pl)) (a1 : (List Pl)) (a2 : Pl) : Option Bool :=
  (Dspec_l13Among n a0 a2).bind fun v0 => frk v0 ((Dspec_l3Flip a2).bind fun v1 => (Dspec_l13Among n a1 v1).bind fun v2 => frk v2 (Dspec_l13Meet_0 n a0 a1 a2.A a2.B a2.C a2.D) ((Dspec_l13Among n a1 a2).bind fun v10 => frk v10 ((Dspec_l3Flip a2).bind fun v11 => (Dspec_l13Among n a0 v11).bind fun v12 => Dspec_l13Meet_1 n a0 a1 (!v12) a2.A a2.B a2.C a2.D) (some false))) ((Dspec_l13Among n a1 a2).bind fun v20 => frk v20 ((Dspec_l3Flip a2).bind fun v21 => (Dspec_l13Among n a0 v21).bind fun v22 => Dspec_l13Meet_1 n a0 a1 (!v22) a2.A a2.B a2.C a2.D) (some false))
theorem Tspec_l13Meet {Y} (n : Nat) (a0 : (List Pl)) (a1 : (List Pl)) (a2 : Pl) (r : Bool) (h : Dspec_l13Meet n a0 a1 a2 = some r) : Big Try.prog H Y (.call 35 [.sl false 4 a0.length ((ePl).f a0), .sl false 4 a1.length ((ePl).f a1), .agg [i64 a2.A, i64 a2.B, i64 a2.C, i64 a2.D]] (lk []) (bl r) (lk [])) := by
  unfold Dspec_l13Meet at h
  refine x_call (fn := Try.f35) (c := bodyOf Try.f35) (bs0 := []) Try.func35 (by kernel_rfl) (by kernel_rfl) ?_
  obtain ⟨v0, hv0, h⟩ := bind_some h
  refine x_frk 12 [(4, .call [] [] (bl v0) [])] (ocons (Tspec_l13Among (Y := Y) n a0 a2 _ hv0) onil) h (by kernel_rfl) (fun h => ?_) (fun h => ?_)
  · obtain ⟨v1, hv1, h⟩ := bind_some h
    obtain ⟨v2, hv2, h⟩ := bind_some h
    refine x_frk 6 [(2, .call [] [] (.agg [i64 v1.A, i64 v1.B, i64 v1.C, i64 v1.D]) []), (0, .call [] [] (bl v2) [])] (ocons (Tspec_l3Flip (Y := Y) a2 _ hv1) (ocons (Tspec_l13Among (Y := Y) n a1 v1 _ hv2) onil)) h (by kernel_rfl) (fun h => ?_) (fun h => ?_)
    · exact x_to 15 [] onil (Tspec_l13Meet_0 n a0 a1 a2.A a2.B a2.C a2.D r h) (by kernel_rfl)
    · obtain ⟨v10, hv10, h⟩ := bind_some h
      refine x_frk 4 [(2, .call [] [] (bl v10) [])] (ocons (Tspec_l13Among (Y := Y) n a1 a2 _ hv10) onil) h (by kernel_rfl) (fun h => ?_) (fun h => ?_)
      · obtain ⟨v11, hv11, h⟩ := bind_some h
        obtain ⟨v12, hv12, h⟩ := bind_some h
        exact x_to 8 [(2, .call [] [] (.agg [i64 v11.A, i64 v11.B, i64 v11.C, i64 v11.D]) []), (0, .call [] [] (bl v12) [])] (ocons (Tspec_l3Flip (Y := Y) a2 _ hv11) (ocons (Tspec_l13Among (Y := Y) n a0 v11 _ hv12) onil)) (Tspec_l13Meet_1 n a0 a1 (!v12) a2.A a2.B a2.C a2.D r h) (by kernel_rfl)
      · replace h := Option.some.inj h; subst h
        exact x_end 13 [] [] onil onil (by kernel_rfl)
  · obtain ⟨v20, hv20, h⟩ := bind_some h
    refine x_frk 10 [(8, .call [] [] (bl v20) [])] (ocons (Tspec_l13Among (Y := Y) n a1 a2 _ hv20) onil) h (by kernel_rfl) (fun h => ?_) (fun h => ?_)
    · obtain ⟨v21, hv21, h⟩ := bind_some h
      obtain ⟨v22, hv22, h⟩ := bind_some h
      exact x_to 8 [(2, .call [] [] (.agg [i64 v21.A, i64 v21.B, i64 v21.C, i64 v21.D]) []), (0, .call [] [] (bl v22) [])] (ocons (Tspec_l3Flip (Y := Y) a2 _ hv21) (ocons (Tspec_l13Among (Y := Y) n a0 v21 _ hv22) onil)) (Tspec_l13Meet_1 n a0 a1 (!v22) a2.A a2.B a2.C a2.D r h) (by kernel_rfl)
    · replace h := Option.some.inj h; subst h
      exact x_end 13 [] [] onil onil (by kernel_rfl)
/-! spec.Pieces -/
def Dspec_Pieces_2 (_n : Nat) (rec3 : (Int × List Int) → Option Int) (_rec2 : (Int × List Int) → Option Int) (_rec1 : (Int × List Int) → Option Int) (t8 _t7 : Int) (_t3 : List (List Pl)) (_t4 : List Pl) (t9 t10 : Int) (rec4 : (Int × List Int) → Option Int) (a : (Int × List Int)) : Option Int :=
  match a with
  | (t11, l20) => frk (decide (t11 < (l20.length : Int))) ((lget l20 t11).bind fun v10 => frk (v10 == t10) ((lget l20 t8).bind fun v11 => (lget l20 t11).bind fun _v12 => rec4 (w64 (t11 + 1), (l20.set (Int.toNat t11) v11))) (rec4 (w64 (t11 + 1), l20))) (rec3 (w64 (t9 + 1), l20))
theorem Tspec_Pieces_2 {Y} (n : Nat) (rec3 : (Int × List Int) → Option Int) (rec2 : (Int × List Int) → Option Int) (rec1 : (Int × List Int) → Option Int) (t8 t7 : Int) (t3 : List (List Pl)) (t4 : List Pl) (hrec3 : ∀ (a : (Int × List Int)) (r : Int), rec3 a = some r → Wk Try.prog H Y 12 [.code (cp [1, 1, 1, 1, 1, 0, 1, 0, 0, 1, 0, 0, 1, 0, 0, 1, 0, 0, 1, 0] (bodyOf Try.f12)), .blk 6, .blk 5, .code (cp [1, 1, 1, 1, 1, 0, 1, 0, 0, 1, 0, 0, 1, 0, 0, 1, 1] (bodyOf Try.f12)), .lp (cp [1, 1, 1, 1, 1, 0, 1, 0, 0, 1, 0, 0, 1, 0] (bodyOf Try.f12)), .blk 4, .blk 3, .code (cp [1, 1, 1, 1, 1, 0, 1, 0, 0, 1, 1] (bodyOf Try.f12)), .lp (cp [1, 1, 1, 1, 1, 0, 1, 0] (bodyOf Try.f12)), .blk 2, .code (cp [1, 1, 1, 1, 1, 1] (bodyOf Try.f12))] (FinX Try.prog Try.f12 [] (i64 r) []) ⟨[(3, .sl false 1 t3.length ((ePls false).f t3)), (4, .sl false 4 t4.length ((ePl).f t4)), (5, .msl 20 a.2.length), (7, i64 t7), (8, i64 t8), (9, i64 a.1)], [(20, ⟨true, 1, (eInt).f a.2⟩)]⟩) (_hrec2 : ∀ (a : (Int × List Int)) (r : Int), rec2 a = some r → Wk Try.prog H Y 12 [.code (cp [1, 1, 1, 1, 1, 0, 1, 0, 0, 1, 0, 0, 1, 0] (bodyOf Try.f12)), .blk 4, .blk 3, .code (cp [1, 1, 1, 1, 1, 0, 1, 0, 0, 1, 1] (bodyOf Try.f12)), .lp (cp [1, 1, 1, 1, 1, 0, 1, 0] (bodyOf Try.f12)), .blk 2, .code (cp [1, 1, 1, 1, 1, 1] (bodyOf Try.f12))] (FinX Try.prog Try.f12 [] (i64 r) []) ⟨[(3, .sl false 1 t3.length ((ePls false).f t3)), (4, .sl false 4 t4.length ((ePl).f t4)), (5, .msl 20 a.2.length), (7, i64 t7), (8, i64 a.1)], [(20, ⟨true, 1, (eInt).f a.2⟩)]⟩) (_hrec1 : ∀ (a : (Int × List Int)) (r : Int), rec1 a = some r → Wk Try.prog H Y 12 [.code (cp [1, 1, 1, 1, 1, 0, 1, 0] (bodyOf Try.f12)), .blk 2, .code (cp [1, 1, 1, 1, 1, 1] (bodyOf Try.f12))] (FinX Try.prog Try.f12 [] (i64 r) []) ⟨[(3, .sl false 1 t3.length ((ePls false).f t3)), (4, .sl false 4 t4.length ((ePl).f t4)), (5, .msl 20 a.2.length), (7, i64 a.1)], [(20, ⟨true, 1, (eInt).f a.2⟩)]⟩) (t9 t10 : Int) : ∀ (m : Nat) (a : (Int × List Int)) (r : Int), loopN (Dspec_Pieces_2 n rec3 rec2 rec1 t8 t7 t3 t4 t9 t10) m a = some r → Wk Try.prog H Y 12 [.code (cp [1, 1, 1, 1, 1, 0, 1, 0, 0, 1, 0, 0, 1, 0, 0, 1, 0, 0, 1, 0, 0, 1, 0, 0, 1, 0, 1, 1, 0] (bodyOf Try.f12)), .blk 8, .blk 7, .code (cp [1, 1, 1, 1, 1, 0, 1, 0, 0, 1, 0, 0, 1, 0, 0, 1, 0, 0, 1, 0, 0, 1, 1] (bodyOf Try.f12)), .lp (cp [1, 1, 1, 1, 1, 0, 1, 0, 0, 1, 0, 0, 1, 0, 0, 1, 0, 0, 1, 0] (bodyOf Try.f12)), .blk 6, .blk 5, .code (cp [1, 1, 1, 1, 1, 0, 1, 0, 0, 1, 0, 0, 1, 0, 0, 1, 1] (bodyOf Try.f12)), .lp (cp [1, 1, 1, 1, 1, 0, 1, 0, 0, 1, 0, 0, 1, 0] (bodyOf Try.f12)), .blk 4, .blk 3, .code (cp [1, 1, 1, 1, 1, 0, 1, 0, 0, 1, 1] (bodyOf Try.f12)), .lp (cp [1, 1, 1, 1, 1, 0, 1, 0] (bodyOf Try.f12)), .blk 2, .code (cp [1, 1, 1, 1, 1, 1] (bodyOf Try.f12))] (FinX Try.prog Try.f12 [] (i64 r) []) ⟨[(3, .sl false 1 t3.length ((ePls false).f t3)), (4, .sl false 4 t4.length ((ePl).f t4)), (5, .msl 20 a.2.length), (7, i64 t7), (8, i64 t8), (9, i64 t9), (10, i64 t10), (11, i64 a.1)], [(20, ⟨true, 1, (eInt).f a.2⟩)]⟩ := by
  refine loopN_ind (fun _rec4 hrec4 a r h => ?_)
  obtain ⟨t11, l20⟩ := a
  unfold Dspec_Pieces_2 at h
  refine x_frk 9 [] onil h (by kernel_rfl) (fun h => ?_) (fun h => ?_)
  · obtain ⟨v10, hv10, h⟩ := bind_some h
    refine x_frk 12 [(2, .unit), (0, .val (i64 v10))] (ocons (inr hv10) (ocons (ld1 eInt hv10 0 rfl) onil)) h (by kernel_rfl) (fun h => ?_) (fun h => ?_)
    · obtain ⟨v11, hv11, h⟩ := bind_some h
      obtain ⟨_v12, hv12, h⟩ := bind_some h
      exact x_to 22 [(4, .unit), (0, .val (i64 v11)), (0, .unit), (0, .cells ((eInt).f (l20.set (Int.toNat t11) v11))), (0, .fix 5 (.msl 20 (l20.set (Int.toNat t11) v11).length)), (0, .fix 77 (.msl 20 (l20.set (Int.toNat t11) v11).length)), (0, .fix 82 (.msl 20 (l20.set (Int.toNat t11) v11).length)), (0, .fix 88 (.msl 20 (l20.set (Int.toNat t11) v11).length)), (0, .fix 90 (.msl 20 (l20.set (Int.toNat t11) v11).length))] (ocons (inr hv11) (ocons (ld1 eInt hv11 0 rfl) (ocons (inr hv12) (ocons (stA eInt hv12 0 1 [i64 v11] v11 rfl rfl) (ocons (setLen 20 l20 (Int.toNat t11) v11) (ocons (setLen 20 l20 (Int.toNat t11) v11) (ocons (setLen 20 l20 (Int.toNat t11) v11) (ocons (setLen 20 l20 (Int.toNat t11) v11) (ocons (setLen 20 l20 (Int.toNat t11) v11) onil))))))))) (hrec4 (w64 (t11 + 1), (l20.set (Int.toNat t11) v11)) r h) (by kernel_rfl)
    · exact x_to 8 [] onil (hrec4 (w64 (t11 + 1), l20) r h) (by kernel_rfl)
  · exact x_to 8 [] onil (hrec3 (w64 (t9 + 1), l20) r h) (by kernel_rfl)
def Dspec_Pieces_1 (n : Nat) (rec3 : (Int × List Int) → Option Int) (rec2 : (Int × List Int) → Option Int) (rec1 : (Int × List Int) → Option Int) (t8 t7 : Int) (t3 : List (List Pl)) (t4 : List Pl) (t9 : Int) (t56 : Bool) (l20 : List Int) : Option Int :=
  frk t56 ((lget t3 t7).bind fun v5 => (lget t3 t8).bind fun v6 => (lget t4 t9).bind fun v7 => (Dspec_l13Meet n v5 v6 v7).bind fun v8 => frk v8 ((lget l20 t7).bind fun v9 => loopN (Dspec_Pieces_2 n rec3 rec2 rec1 t8 t7 t3 t4 t9 v9) n (0, l20)) (rec3 (w64 (t9 + 1), l20))) (rec2 (w64 (t8 + 1), l20))
theorem Tspec_Pieces_1 {Y} (n : Nat) (rec3 : (Int × List Int) → Option Int) (rec2 : (Int × List Int) → Option Int) (rec1 : (Int × List Int) → Option Int) (t8 t7 : Int) (t3 : List (List Pl)) (t4 : List Pl) (hrec3 : ∀ (a : (Int × List Int)) (r : Int), rec3 a = some r → Wk Try.prog H Y 12 [.code (cp [1, 1, 1, 1, 1, 0, 1, 0, 0, 1, 0, 0, 1, 0, 0, 1, 0, 0, 1, 0] (bodyOf Try.f12)), .blk 6, .blk 5, .code (cp [1, 1, 1, 1, 1, 0, 1, 0, 0, 1, 0, 0, 1, 0, 0, 1, 1] (bodyOf Try.f12)), .lp (cp [1, 1, 1, 1, 1, 0, 1, 0, 0, 1, 0, 0, 1, 0] (bodyOf Try.f12)), .blk 4, .blk 3, .code (cp [1, 1, 1, 1, 1, 0, 1, 0, 0, 1, 1] (bodyOf Try.f12)), .lp (cp [1, 1, 1, 1, 1, 0, 1, 0] (bodyOf Try.f12)), .blk 2, .code (cp [1, 1, 1, 1, 1, 1] (bodyOf Try.f12))] (FinX Try.prog Try.f12 [] (i64 r) []) ⟨[(3, .sl false 1 t3.length ((ePls false).f t3)), (4, .sl false 4 t4.length ((ePl).f t4)), (5, .msl 20 a.2.length), (7, i64 t7), (8, i64 t8), (9, i64 a.1)], [(20, ⟨true, 1, (eInt).f a.2⟩)]⟩) (hrec2 : ∀ (a : (Int × List Int)) (r : Int), rec2 a = some r → Wk Try.prog H Y 12 [.code (cp [1, 1, 1, 1, 1, 0, 1, 0, 0, 1, 0, 0, 1, 0] (bodyOf Try.f12)), .blk 4, .blk 3, .code (cp [1, 1, 1, 1, 1, 0, 1, 0, 0, 1, 1] (bodyOf Try.f12)), .lp (cp [1, 1, 1, 1, 1, 0, 1, 0] (bodyOf Try.f12)), .blk 2, .code (cp [1, 1, 1, 1, 1, 1] (bodyOf Try.f12))] (FinX Try.prog Try.f12 [] (i64 r) []) ⟨[(3, .sl false 1 t3.length ((ePls false).f t3)), (4, .sl false 4 t4.length ((ePl).f t4)), (5, .msl 20 a.2.length), (7, i64 t7), (8, i64 a.1)], [(20, ⟨true, 1, (eInt).f a.2⟩)]⟩) (hrec1 : ∀ (a : (Int × List Int)) (r : Int), rec1 a = some r → Wk Try.prog H Y 12 [.code (cp [1, 1, 1, 1, 1, 0, 1, 0] (bodyOf Try.f12)), .blk 2, .code (cp [1, 1, 1, 1, 1, 1] (bodyOf Try.f12))] (FinX Try.prog Try.f12 [] (i64 r) []) ⟨[(3, .sl false 1 t3.length ((ePls false).f t3)), (4, .sl false 4 t4.length ((ePl).f t4)), (5, .msl 20 a.2.length), (7, i64 a.1)], [(20, ⟨true, 1, (eInt).f a.2⟩)]⟩) (t9 : Int) (t56 : Bool) (l20 : List Int) (r : Int) (h : Dspec_Pieces_1 n rec3 rec2 rec1 t8 t7 t3 t4 t9 t56 l20 = some r) : Wk Try.prog H Y 12 [.code (cp [1, 1, 1, 1, 1, 0, 1, 0, 0, 1, 0, 0, 1, 0, 0, 1, 0, 0, 1, 0, 0, 0, 1] (bodyOf Try.f12)), .code (cp [1, 1, 1, 1, 1, 0, 1, 0, 0, 1, 0, 0, 1, 0, 0, 1, 0, 0, 1, 0, 0, 1] (bodyOf Try.f12)), .lp (cp [1, 1, 1, 1, 1, 0, 1, 0, 0, 1, 0, 0, 1, 0, 0, 1, 0, 0, 1, 0] (bodyOf Try.f12)), .blk 6, .blk 5, .code (cp [1, 1, 1, 1, 1, 0, 1, 0, 0, 1, 0, 0, 1, 0, 0, 1, 1] (bodyOf Try.f12)), .lp (cp [1, 1, 1, 1, 1, 0, 1, 0, 0, 1, 0, 0, 1, 0] (bodyOf Try.f12)), .blk 4, .blk 3, .code (cp [1, 1, 1, 1, 1, 0, 1, 0, 0, 1, 1] (bodyOf Try.f12)), .lp (cp [1, 1, 1, 1, 1, 0, 1, 0] (bodyOf Try.f12)), .blk 2, .code (cp [1, 1, 1, 1, 1, 1] (bodyOf Try.f12))] (FinX Try.prog Try.f12 [] (i64 r) []) ⟨[(3, .sl false 1 t3.length ((ePls false).f t3)), (4, .sl false 4 t4.length ((ePl).f t4)), (5, .msl 20 l20.length), (7, i64 t7), (8, i64 t8), (9, i64 t9), (56, bl t56)], [(20, ⟨true, 1, (eInt).f l20⟩)]⟩ := by
  unfold Dspec_Pieces_1 at h
  refine x_frk 0 [] onil h (by kernel_rfl) (fun h => ?_) (fun h => ?_)
  · obtain ⟨v5, hv5, h⟩ := bind_some h
    obtain ⟨v6, hv6, h⟩ := bind_some h
    obtain ⟨v7, hv7, h⟩ := bind_some h
    obtain ⟨v8, hv8, h⟩ := bind_some h
    refine x_frk 19 [(2, .val (.cptr ((ePls false).c v5 ++ (ePls false).f ((t3).drop (Int.toNat t7 + 1))))), (3, .val (.cptr ((ePls false).c v6 ++ (ePls false).f ((t3).drop (Int.toNat t8 + 1))))), (3, .val (.cptr (ePl.c v7 ++ (ePl).f ((t4).drop (Int.toNat t9 + 1))))), (1, .call [] [] (bl v8) [])] (ocons (ix (ePls false) hv5) (ocons (ix (ePls false) hv6) (ocons (ix ePl hv7) (ocons (Tspec_l13Meet (Y := Y) n v5 v6 v7 _ hv8) onil)))) h (by kernel_rfl) (fun h => ?_) (fun h => ?_)
    · obtain ⟨v9, hv9, h⟩ := bind_some h
      exact x_to 13 [(2, .unit), (0, .val (i64 v9))] (ocons (inr hv9) (ocons (ld1 eInt hv9 0 rfl) onil)) (Tspec_Pieces_2 n rec3 rec2 rec1 t8 t7 t3 t4 hrec3 hrec2 hrec1 t9 v9 n (0, l20) r h) (by kernel_rfl)
    · exact x_to 8 [] onil (hrec3 (w64 (t9 + 1), l20) r h) (by kernel_rfl)
  · exact x_to 8 [] onil (hrec2 (w64 (t8 + 1), l20) r h) (by kernel_rfl)
def Dspec_Pieces_3 (n : Nat) (rec2 : (Int × List Int) → Option Int) (rec1 : (Int × List Int) → Option Int) (t7 : Int) (t3 : List (List Pl)) (t4 : List Pl) (t8 : Int) (rec3 : (Int × List Int) → Option Int) (a : (Int × List Int)) : Option Int :=
  match a with
  | (t9, l20) => frk (decide (t9 < (t4.length : Int))) ((lget l20 t7).bind fun v3 => (lget l20 t8).bind fun v4 => Dspec_Pieces_1 n rec3 rec2 rec1 t8 t7 t3 t4 t9 (v3 != v4) l20) (rec2 (w64 (t8 + 1), l20))
theorem Tspec_Pieces_3 {Y} (n : Nat) (rec2 : (Int × List Int) → Option Int) (rec1 : (Int × List Int) → Option Int) (t7 : Int) (t3 : List (List Pl)) (t4 : List Pl) (hrec2 : ∀ (a : (Int × List Int)) (r : Int), rec2 a = some r → Wk Try.prog H Y 12 [.code (cp [1, 1, 1, 1, 1, 0, 1, 0, 0, 1, 0, 0, 1, 0] (bodyOf Try.f12)), .blk 4, .blk 3, .code (cp [1, 1, 1, 1, 1, 0, 1, 0, 0, 1, 1] (bodyOf Try.f12)), .lp (cp [1, 1, 1, 1, 1, 0, 1, 0] (bodyOf Try.f12)), .blk 2, .code (cp [1, 1, 1, 1, 1, 1] (bodyOf Try.f12))] (FinX Try.prog Try.f12 [] (i64 r) []) ⟨[(3, .sl false 1 t3.length ((ePls false).f t3)), (4, .sl false 4 t4.length ((ePl).f t4)), (5, .msl 20 a.2.length), (7, i64 t7), (8, i64 a.1)], [(20, ⟨true, 1, (eInt).f a.2⟩)]⟩) (hrec1 : ∀ (a : (Int × List Int)) (r : Int), rec1 a = some r → Wk Try.prog H Y 12 [.code (cp [1, 1, 1, 1, 1, 0, 1, 0] (bodyOf Try.f12)), .blk 2, .code (cp [1, 1, 1, 1, 1, 1] (bodyOf Try.f12))] (FinX Try.prog Try.f12 [] (i64 r) []) ⟨[(3, .sl false 1 t3.length ((ePls false).f t3)), (4, .sl false 4 t4.length ((ePl).f t4)), (5, .msl 20 a.2.length), (7, i64 a.1)], [(20, ⟨true, 1, (eInt).f a.2⟩)]⟩) (t8 : Int) : ∀ (m : Nat) (a : (Int × List Int)) (r : Int), loopN (Dspec_Pieces_3 n rec2 rec1 t7 t3 t4 t8) m a = some r → Wk Try.prog H Y 12 [.code (cp [1, 1, 1, 1, 1, 0, 1, 0, 0, 1, 0, 0, 1, 0, 0, 1, 0, 0, 1, 0] (bodyOf Try.f12)), .blk 6, .blk 5, .code (cp [1, 1, 1, 1, 1, 0, 1, 0, 0, 1, 0, 0, 1, 0, 0, 1, 1] (bodyOf Try.f12)), .lp (cp [1, 1, 1, 1, 1, 0, 1, 0, 0, 1, 0, 0, 1, 0] (bodyOf Try.f12)), .blk 4, .blk 3, .code (cp [1, 1, 1, 1, 1, 0, 1, 0, 0, 1, 1] (bodyOf Try.f12)), .lp (cp [1, 1, 1, 1, 1, 0, 1, 0] (bodyOf Try.f12)), .blk 2, .code (cp [1, 1, 1, 1, 1, 1] (bodyOf Try.f12))] (FinX Try.prog Try.f12 [] (i64 r) []) ⟨[(3, .sl false 1 t3.length ((ePls false).f t3)), (4, .sl false 4 t4.length ((ePl).f t4)), (5, .msl 20 a.2.length), (7, i64 t7), (8, i64 t8), (9, i64 a.1)], [(20, ⟨true, 1, (eInt).f a.2⟩)]⟩ := by
  refine loopN_ind (fun rec3 hrec3 a r h => ?_)
  obtain ⟨t9, l20⟩ := a
  unfold Dspec_Pieces_3 at h
  refine x_frk 9 [] onil h (by kernel_rfl) (fun h => ?_) (fun h => ?_)
  · obtain ⟨v3, hv3, h⟩ := bind_some h
    obtain ⟨v4, hv4, h⟩ := bind_some h
    exact x_to 11 [(2, .unit), (0, .val (i64 v3)), (2, .unit), (0, .val (i64 v4))] (ocons (inr hv3) (ocons (ld1 eInt hv3 0 rfl) (ocons (inr hv4) (ocons (ld1 eInt hv4 0 rfl) onil)))) (Tspec_Pieces_1 n rec3 rec2 rec1 t8 t7 t3 t4 hrec3 hrec2 hrec1 t9 (v3 != v4) l20 r h) (by kernel_rfl)
  · exact x_to 20 [] onil (hrec2 (w64 (t8 + 1), l20) r h) (by kernel_rfl)
def Dspec_Pieces_4 (n : Nat) (rec1 : (Int × List Int) → Option Int) (t3 : List (List Pl)) (t4 : List Pl) (t7 : Int) (rec2 : (Int × List Int) → Option Int) (a : (Int × List Int)) : Option Int :=
  match a with
  | (t8, l20) => frk (decide (t8 < t7)) (loopN (Dspec_Pieces_3 n rec2 rec1 t7 t3 t4 t8) n (0, l20)) (rec1 (w64 (t7 + 1), l20))
theorem Tspec_Pieces_4 {Y} (n : Nat) (rec1 : (Int × List Int) → Option Int) (t3 : List (List Pl)) (t4 : List Pl) (hrec1 : ∀ (a : (Int × List Int)) (r : Int), rec1 a = some r → Wk Try.prog H Y 12 [.code (cp [1, 1, 1, 1, 1, 0, 1, 0] (bodyOf Try.f12)), .blk 2, .code (cp [1, 1, 1, 1, 1, 1] (bodyOf Try.f12))] (FinX Try.prog Try.f12 [] (i64 r) []) ⟨[(3, .sl false 1 t3.length ((ePls false).f t3)), (4, .sl false 4 t4.length ((ePl).f t4)), (5, .msl 20 a.2.length), (7, i64 a.1)], [(20, ⟨true, 1, (eInt).f a.2⟩)]⟩) (t7 : Int) : ∀ (m : Nat) (a : (Int × List Int)) (r : Int), loopN (Dspec_Pieces_4 n rec1 t3 t4 t7) m a = some r → Wk Try.prog H Y 12 [.code (cp [1, 1, 1, 1, 1, 0, 1, 0, 0, 1, 0, 0, 1, 0] (bodyOf Try.f12)), .blk 4, .blk 3, .code (cp [1, 1, 1, 1, 1, 0, 1, 0, 0, 1, 1] (bodyOf Try.f12)), .lp (cp [1, 1, 1, 1, 1, 0, 1, 0] (bodyOf Try.f12)), .blk 2, .code (cp [1, 1, 1, 1, 1, 1] (bodyOf Try.f12))] (FinX Try.prog Try.f12 [] (i64 r) []) ⟨[(3, .sl false 1 t3.length ((ePls false).f t3)), (4, .sl false 4 t4.length ((ePl).f t4)), (5, .msl 20 a.2.length), (7, i64 t7), (8, i64 a.1)], [(20, ⟨true, 1, (eInt).f a.2⟩)]⟩ := by
  refine loopN_ind (fun rec2 hrec2 a r h => ?_)
  obtain ⟨t8, l20⟩ := a
  unfold Dspec_Pieces_4 at h
  refine x_frk 8 [] onil h (by kernel_rfl) (fun h => ?_) (fun h => ?_)
  · exact x_to 8 [] onil (Tspec_Pieces_3 n rec2 rec1 t7 t3 t4 hrec2 hrec1 t8 n (0, l20) r h) (by kernel_rfl)
  · exact x_to 8 [] onil (hrec1 (w64 (t7 + 1), l20) r h) (by kernel_rfl)
def Dspec_Pieces_6 (_n : Nat) (rec2 : (Int × Int × List Int) → Option Int) (t12 t13 : Int) (t118 : Bool) (l20 : List Int) : Option Int :=
  frk t118 (rec2 (w64 (t12 + 1), w64 (t13 + 1), l20)) (rec2 (t12, w64 (t13 + 1), l20))
theorem Tspec_Pieces_6 {Y} (n : Nat) (rec2 : (Int × Int × List Int) → Option Int) (hrec2 : ∀ (a : (Int × Int × List Int)) (r : Int), rec2 a = some r → Wk Try.prog H Y 12 [.code (cp [1, 1, 1, 1, 1, 1, 1, 0, 1, 0] (bodyOf Try.f12)), .blk 10, .code (cp [1, 1, 1, 1, 1, 1, 1, 1] (bodyOf Try.f12))] (FinX Try.prog Try.f12 [] (i64 r) []) ⟨[(5, .msl 20 a.2.2.length), (12, i64 a.1), (13, i64 a.2.1)], [(20, ⟨true, 1, (eInt).f a.2.2⟩)]⟩) (t12 t13 : Int) (t118 : Bool) (l20 : List Int) (r : Int) (h : Dspec_Pieces_6 n rec2 t12 t13 t118 l20 = some r) : Wk Try.prog H Y 12 [.code (cp [1, 1, 1, 1, 1, 1, 1, 0, 1, 0, 0, 1, 0, 0, 1, 1, 1] (bodyOf Try.f12)), .blk 11, .code (cp [1, 1, 1, 1, 1, 1, 1, 0, 1, 0, 0, 1, 1] (bodyOf Try.f12)), .lp (cp [1, 1, 1, 1, 1, 1, 1, 0, 1, 0] (bodyOf Try.f12)), .blk 10, .code (cp [1, 1, 1, 1, 1, 1, 1, 1] (bodyOf Try.f12))] (FinX Try.prog Try.f12 [] (i64 r) []) ⟨[(5, .msl 20 l20.length), (12, i64 t12), (13, i64 t13), (118, bl t118)], [(20, ⟨true, 1, (eInt).f l20⟩)]⟩ := by
  unfold Dspec_Pieces_6 at h
  refine x_frk 0 [] onil h (by kernel_rfl) (fun h => ?_) (fun h => ?_)
  · exact x_to 12 [] onil (hrec2 (w64 (t12 + 1), w64 (t13 + 1), l20) r h) (by kernel_rfl)
  · exact x_to 8 [] onil (hrec2 (t12, w64 (t13 + 1), l20) r h) (by kernel_rfl)
def Dspec_Pieces_7 (n : Nat) (rec2 : (Int × Int × List Int) → Option Int) (t12 t13 : Int) (l20 : List Int) (rec3 : (Bool × Int) → Option Int) (a : (Bool × Int)) : Option Int :=
  match a with
  | (t14, t15) => frk (decide (t15 < t13)) (frk t14 ((lget l20 t15).bind fun v13 => (lget l20 t13).bind fun v14 => rec3 (v13 != v14, w64 (t15 + 1))) (rec3 (false, w64 (t15 + 1)))) (Dspec_Pieces_6 n rec2 t12 t13 t14 l20)
theorem Tspec_Pieces_7 {Y} (n : Nat) (rec2 : (Int × Int × List Int) → Option Int) (hrec2 : ∀ (a : (Int × Int × List Int)) (r : Int), rec2 a = some r → Wk Try.prog H Y 12 [.code (cp [1, 1, 1, 1, 1, 1, 1, 0, 1, 0] (bodyOf Try.f12)), .blk 10, .code (cp [1, 1, 1, 1, 1, 1, 1, 1] (bodyOf Try.f12))] (FinX Try.prog Try.f12 [] (i64 r) []) ⟨[(5, .msl 20 a.2.2.length), (12, i64 a.1), (13, i64 a.2.1)], [(20, ⟨true, 1, (eInt).f a.2.2⟩)]⟩) (t12 t13 : Int) (l20 : List Int) : ∀ (m : Nat) (a : (Bool × Int)) (r : Int), loopN (Dspec_Pieces_7 n rec2 t12 t13 l20) m a = some r → Wk Try.prog H Y 12 [.code (cp [1, 1, 1, 1, 1, 1, 1, 0, 1, 0, 0, 1, 0, 0, 1, 0, 1, 0] (bodyOf Try.f12)), .blk 12, .code (cp [1, 1, 1, 1, 1, 1, 1, 0, 1, 0, 0, 1, 0, 0, 1, 1] (bodyOf Try.f12)), .blk 11, .code (cp [1, 1, 1, 1, 1, 1, 1, 0, 1, 0, 0, 1, 1] (bodyOf Try.f12)), .lp (cp [1, 1, 1, 1, 1, 1, 1, 0, 1, 0] (bodyOf Try.f12)), .blk 10, .code (cp [1, 1, 1, 1, 1, 1, 1, 1] (bodyOf Try.f12))] (FinX Try.prog Try.f12 [] (i64 r) []) ⟨[(5, .msl 20 l20.length), (12, i64 t12), (13, i64 t13), (14, bl a.1), (15, i64 a.2)], [(20, ⟨true, 1, (eInt).f l20⟩)]⟩ := by
  refine loopN_ind (fun _rec3 hrec3 a r h => ?_)
  obtain ⟨t14, t15⟩ := a
  unfold Dspec_Pieces_7 at h
  refine x_frk 8 [] onil h (by kernel_rfl) (fun h => ?_) (fun h => ?_)
  · refine x_frk 6 [] onil h (by kernel_rfl) (fun h => ?_) (fun h => ?_)
    · obtain ⟨v13, hv13, h⟩ := bind_some h
      obtain ⟨v14, hv14, h⟩ := bind_some h
      exact x_to 19 [(2, .unit), (0, .val (i64 v13)), (2, .unit), (0, .val (i64 v14))] (ocons (inr hv13) (ocons (ld1 eInt hv13 0 rfl) (ocons (inr hv14) (ocons (ld1 eInt hv14 0 rfl) onil)))) (hrec3 (v13 != v14, w64 (t15 + 1)) r h) (by kernel_rfl)
    · exact x_to 19 [] onil (hrec3 (false, w64 (t15 + 1)) r h) (by kernel_rfl)
  · exact x_to 5 [] onil (Tspec_Pieces_6 n rec2 hrec2 t12 t13 t14 l20 r h) (by kernel_rfl)
def Dspec_Pieces_8 (n : Nat) (rec2 : (Int × Int × List Int) → Option Int) (a : (Int × Int × List Int)) : Option Int :=
  match a with
  | (t12, t13, l20) => frk (decide (t13 < (l20.length : Int))) (loopN (Dspec_Pieces_7 n rec2 t12 t13 l20) n (true, 0)) (some t12)
theorem Tspec_Pieces_8 {Y} (n : Nat) : ∀ (m : Nat) (a : (Int × Int × List Int)) (r : Int), loopN (Dspec_Pieces_8 n) m a = some r → Wk Try.prog H Y 12 [.code (cp [1, 1, 1, 1, 1, 1, 1, 0, 1, 0] (bodyOf Try.f12)), .blk 10, .code (cp [1, 1, 1, 1, 1, 1, 1, 1] (bodyOf Try.f12))] (FinX Try.prog Try.f12 [] (i64 r) []) ⟨[(5, .msl 20 a.2.2.length), (12, i64 a.1), (13, i64 a.2.1)], [(20, ⟨true, 1, (eInt).f a.2.2⟩)]⟩ := by
  refine loopN_ind (fun rec2 hrec2 a r h => ?_)
  obtain ⟨t12, t13, l20⟩ := a
  unfold Dspec_Pieces_8 at h
  refine x_frk 9 [] onil h (by kernel_rfl) (fun h => ?_) (fun h => ?_)
  · exact x_to 13 [] onil (Tspec_Pieces_7 n rec2 hrec2 t12 t13 l20 n (true, 0) r h) (by kernel_rfl)
  · replace h := Option.some.inj h; subst h
    exact x_end 6 [] [] onil onil (by kernel_rfl)
def Dspec_Pieces_5 (n : Nat) (t12 t13 : Int) (l20 : List Int) : Option Int :=
  loopN (Dspec_Pieces_8 n) n (t12, t13, l20)
theorem Tspec_Pieces_5 {Y} (n : Nat) (t12 t13 : Int) (l20 : List Int) (r : Int) (h : Dspec_Pieces_5 n t12 t13 l20 = some r) : Wk Try.prog H Y 12 [.code (cp [1, 1, 1, 1, 1, 1, 1, 0, 1, 0] (bodyOf Try.f12)), .blk 10, .code (cp [1, 1, 1, 1, 1, 1, 1, 1] (bodyOf Try.f12))] (FinX Try.prog Try.f12 [] (i64 r) []) ⟨[(5, .msl 20 l20.length), (12, i64 t12), (13, i64 t13)], [(20, ⟨true, 1, (eInt).f l20⟩)]⟩ := by
  unfold Dspec_Pieces_5 at h
  exact x_to 0 [] onil (Tspec_Pieces_8 n n (t12, t13, l20) r h) (by kernel_rfl)
def Dspec_Pieces_9 (n : Nat) (t3 : List (List Pl)) (t4 : List Pl) (rec1 : (Int × List Int) → Option Int) (a : (Int × List Int)) : Option Int :=
  match a with
  | (t7, l20) => frk (decide (t7 < (t3.length : Int))) (loopN (Dspec_Pieces_4 n rec1 t3 t4 t7) n (0, l20)) (Dspec_Pieces_5 n 0 0 l20)
theorem Tspec_Pieces_9 {Y} (n : Nat) (t3 : List (List Pl)) (t4 : List Pl) : ∀ (m : Nat) (a : (Int × List Int)) (r : Int), loopN (Dspec_Pieces_9 n t3 t4) m a = some r → Wk Try.prog H Y 12 [.code (cp [1, 1, 1, 1, 1, 0, 1, 0] (bodyOf Try.f12)), .blk 2, .code (cp [1, 1, 1, 1, 1, 1] (bodyOf Try.f12))] (FinX Try.prog Try.f12 [] (i64 r) []) ⟨[(3, .sl false 1 t3.length ((ePls false).f t3)), (4, .sl false 4 t4.length ((ePl).f t4)), (5, .msl 20 a.2.length), (7, i64 a.1)], [(20, ⟨true, 1, (eInt).f a.2⟩)]⟩ := by
  refine loopN_ind (fun rec1 hrec1 a r h => ?_)
  obtain ⟨t7, l20⟩ := a
  unfold Dspec_Pieces_9 at h
  refine x_frk 9 [] onil h (by kernel_rfl) (fun h => ?_) (fun h => ?_)
  · exact x_to 8 [] onil (Tspec_Pieces_4 n rec1 t3 t4 hrec1 t7 n (0, l20) r h) (by kernel_rfl)
  · exact x_to 11 [] onil (Tspec_Pieces_5 n 0 0 l20 r h) (by kernel_rfl)
def Dspec_Pieces_0 (n : Nat) (t3 : List (List Pl)) (t4 : List Pl) (t7 : Int) (l20 : List Int) : Option Int :=
  loopN (Dspec_Pieces_9 n t3 t4) n (t7, l20)
theorem Tspec_Pieces_0 {Y} (n : Nat) (t3 : List (List Pl)) (t4 : List Pl) (t7 : Int) (l20 : List Int) (r : Int) (h : Dspec_Pieces_0 n t3 t4 t7 l20 = some r) : Wk Try.prog H Y 12 [.code (cp [1, 1, 1, 1, 1, 0, 1, 0] (bodyOf Try.f12)), .blk 2, .code (cp [1, 1, 1, 1, 1, 1] (bodyOf Try.f12))] (FinX Try.prog Try.f12 [] (i64 r) []) ⟨[(3, .sl false 1 t3.length ((ePls false).f t3)), (4, .sl false 4 t4.length ((ePl).f t4)), (5, .msl 20 l20.length), (7, i64 t7)], [(20, ⟨true, 1, (eInt).f l20⟩)]⟩ := by
  unfold Dspec_Pieces_0 at h
  exact x_to 0 [] onil (Tspec_Pieces_9 n t3 t4 n (t7, l20) r h) (by kernel_rfl)
def Dspec_Pieces_10 (n : Nat) (t3 : List (List Pl)) (t4 : List Pl) (rec0 : (Int × List Int) → Option Int) (a : (Int × List Int)) : Option Int :=
  match a with
  | (t6, l20) => frk (decide (t6 < (t3.length : Int))) (chk (apB 8 (l20.length + 1)) (rec0 (w64 (t6 + 1), (l20 ++ [t6])))) (Dspec_Pieces_0 n t3 t4 0 l20)
theorem Tspec_Pieces_10 {Y} (n : Nat) (t3 : List (List Pl)) (t4 : List Pl) : ∀ (m : Nat) (a : (Int × List Int)) (r : Int), loopN (Dspec_Pieces_10 n t3 t4) m a = some r → Wk Try.prog H Y 12 [.code (cp [1, 1, 1, 1, 0, 1, 0] (bodyOf Try.f12)), .blk 0, .code (cp [1, 1, 1, 1, 1] (bodyOf Try.f12))] (FinX Try.prog Try.f12 [] (i64 r) []) ⟨[(3, .sl false 1 t3.length ((ePls false).f t3)), (4, .sl false 4 t4.length ((ePl).f t4)), (5, .msl 20 a.2.length), (6, i64 a.1)], [(20, ⟨true, 1, (eInt).f a.2⟩)]⟩ := by
  refine loopN_ind (fun _rec0 hrec0 a r h => ?_)
  obtain ⟨t6, l20⟩ := a
  unfold Dspec_Pieces_10 at h
  refine x_frk 9 [] onil h (by kernel_rfl) (fun h => ?_) (fun h => ?_)
  · obtain ⟨c2, h⟩ := chk_some h
    exact x_to 18 [(3, .app false (List.length (l20 ++ [t6])) ((eInt).f (l20 ++ [t6]))), (4, .ren 30 20)] (ocons (len_row' (L := l20) eInt) (ocons (app_one (L := l20) (M := [t6]) eInt c2) (ocons (app_new (L := l20) (M := [t6]) eInt) (ocons (app_m (L := l20) (M := [t6]) eInt rfl) (ocons (len_row' (L := [t6]) eInt) (ocons (Enc.noOwn eInt (fun _ => rfl) [t6]) (ocons (show 30 < 1000 ∧ 20 < 1000 by decide) onil))))))) (hrec0 (w64 (t6 + 1), (l20 ++ [t6])) r h) (by kernel_rfl)
  · exact x_to 7 [] onil (Tspec_Pieces_0 n t3 t4 0 l20 r h) (by kernel_rfl)
def Dspec_Pieces (n : Nat) (a0 : Sol) : Option Int :=
  (Dspec_Cells n a0 true).bind fun v0 => (Dspec_PlanesOf n a0).bind fun v1 => loopN (Dspec_Pieces_10 n v0 v1) n (0, [])
theorem Tspec_Pieces {Y} (n : Nat) (a0 : Sol) (r : Int) (h : Dspec_Pieces n a0 = some r) : Big Try.prog H Y (.call 12 [.agg [bl a0.inn, i64 a0.pl.A, i64 a0.pl.B, i64 a0.pl.C, i64 a0.pl.D, .sl false 6 a0.kids.length ((eSol false).f a0.kids)]] (lk []) (i64 r) (lk [])) := by
  unfold Dspec_Pieces at h
  refine x_call (fn := Try.f12) (c := bodyOf Try.f12) (bs0 := []) Try.func12 (by kernel_rfl) (by kernel_rfl) ?_
  obtain ⟨v0, hv0, h⟩ := bind_some h
  obtain ⟨v1, hv1, h⟩ := bind_some h
  exact x_to 28 [(3, .call [] [] (.sl false 1 v0.length ((ePls false).f v0)) []), (2, .call [] [] (.sl false 4 v1.length ((ePl).f v1)) [])] (ocons (shSl (L := v0) (ePls true) (ePls false) (sPls true) (Tspec_Cells (Y := Y) n a0 true _ hv0)) (ocons (shSl (L := v1) ePl ePl sPl (Tspec_PlanesOf (Y := Y) n a0 _ hv1)) onil)) (Tspec_Pieces_10 n v0 v1 n (0, []) r h) (by kernel_rfl)
/-! impl.Solid).isLeaf -/
def Dimpl_Solid_isLeaf (a0 : Sol) : Option Bool :=
  some ((a0.kids.length : Int) == 0)
theorem Timpl_Solid_isLeaf {Y} (a0 : Sol) (q0 : List AV) (r : Bool) (h : Dimpl_Solid_isLeaf a0 = some r) : Big Try.prog H Y (.call 66 [.cptr ([bl a0.inn, i64 a0.pl.A, i64 a0.pl.B, i64 a0.pl.C, i64 a0.pl.D, .sl false 6 a0.kids.length ((eSol false).f a0.kids)] ++ q0)] (lk []) (bl r) (lk [])) := by
  unfold Dimpl_Solid_isLeaf at h
  refine x_call (fn := Try.f66) (c := bodyOf Try.f66) (bs0 := []) Try.func66 (by kernel_rfl) (by kernel_rfl) ?_
  replace h := Option.some.inj h; subst h
  exact x_end 14 [] [] onil onil (by kernel_rfl)
/-! impl.inRange -/
def Dimpl_inRange (a0 a1 a2 : Int) : Option Bool :=
  frk (decide (a0 ≥ a1)) (some (decide (a0 ≤ a2))) (some false)
theorem Timpl_inRange {Y} (a0 a1 a2 : Int) (r : Bool) (h : Dimpl_inRange a0 a1 a2 = some r) : Big Try.prog H Y (.call 93 [i64 a0, i64 a1, i64 a2] (lk []) (bl r) (lk [])) := by
  unfold Dimpl_inRange at h
  refine x_call (fn := Try.f93) (c := bodyOf Try.f93) (bs0 := []) Try.func93 (by kernel_rfl) (by kernel_rfl) ?_
  refine x_frk 10 [] onil h (by kernel_rfl) (fun h => ?_) (fun h => ?_)
  · replace h := Option.some.inj h; subst h
    exact x_end 6 [] [] onil onil (by kernel_rfl)
  · replace h := Option.some.inj h; subst h
    exact x_end 6 [] [] onil onil (by kernel_rfl)
/-! impl.isCoef -/
def Dimpl_isCoef (a0 : Int) : Option Bool :=
  (Dimpl_inRange a0 (-500) 500).bind fun v0 => some v0
theorem Timpl_isCoef {Y} (a0 : Int) (r : Bool) (h : Dimpl_isCoef a0 = some r) : Big Try.prog H Y (.call 117 [i64 a0] (lk []) (bl r) (lk [])) := by
  unfold Dimpl_isCoef at h
  refine x_call (fn := Try.f117) (c := bodyOf Try.f117) (bs0 := []) Try.func117 (by kernel_rfl) (by kernel_rfl) ?_
  obtain ⟨v0, hv0, h⟩ := bind_some h
  replace h := Option.some.inj h; subst h
  exact x_end 10 [(2, .call [] [] (bl v0) [])] [] (ocons (Timpl_inRange (Y := Y) a0 (-500) 500 _ hv0) onil) onil (by kernel_rfl)
/-! impl.divisor -/
def Dimpl_divisor_0 (_n : Nat) (rec0 : (Int × Int) → Option Int) (_t6 : List Int) (_t7 t8 : Int) (rec1 : (Int × Int) → Option Int) (a : (Int × Int)) : Option Int :=
  match a with
  | (t3, t5) => frk (t5 != 0) ((rm .i64 t3 t5).bind fun v1 => rec1 (t5, v1)) (rec0 (t3, w64 (t8 + 1)))
theorem Timpl_divisor_0 {Y} (n : Nat) (rec0 : (Int × Int) → Option Int) (t6 : List Int) (t7 : Int) (hrec0 : ∀ (a : (Int × Int)) (r : Int), rec0 a = some r → Wk Try.prog H Y 107 [.code (cp [1, 1, 0, 1, 0] (bodyOf Try.f107)), .blk 0, .code (cp [1, 1, 1] (bodyOf Try.f107))] (FinX Try.prog Try.f107 [] (i64 r) []) ⟨[(3, i64 a.1), (6, .sl false 1 t6.length ((eInt).f t6)), (7, i64 t7), (8, i64 a.2)], []⟩) (t8 : Int) : ∀ (m : Nat) (a : (Int × Int)) (r : Int), loopN (Dimpl_divisor_0 n rec0 t6 t7 t8) m a = some r → Wk Try.prog H Y 107 [.code (cp [1, 1, 0, 1, 0, 0, 1, 1, 0, 0, 1, 1, 0] (bodyOf Try.f107)), .blk 2, .blk 1, .code (cp [1, 1, 0, 1, 0, 0, 1, 1, 1] (bodyOf Try.f107)), .lp (cp [1, 1, 0, 1, 0] (bodyOf Try.f107)), .blk 0, .code (cp [1, 1, 1] (bodyOf Try.f107))] (FinX Try.prog Try.f107 [] (i64 r) []) ⟨[(3, i64 a.1), (5, i64 a.2), (6, .sl false 1 t6.length ((eInt).f t6)), (7, i64 t7), (8, i64 t8)], []⟩ := by
  refine loopN_ind (fun _rec1 hrec1 a r h => ?_)
  obtain ⟨t3, t5⟩ := a
  unfold Dimpl_divisor_0 at h
  refine x_frk 7 [] onil h (by kernel_rfl) (fun h => ?_) (fun h => ?_)
  · obtain ⟨v1, hv1, h⟩ := bind_some h
    exact x_to 12 [(3, .val (i64 v1))] (ocons (rmOk hv1) onil) (hrec1 (t5, v1) r h) (by kernel_rfl)
  · exact x_to 7 [] onil (hrec0 (t3, w64 (t8 + 1)) r h) (by kernel_rfl)
def Dimpl_divisor_1 (n : Nat) (t6 : List Int) (t7 : Int) (rec0 : (Int × Int) → Option Int) (a : (Int × Int)) : Option Int :=
  match a with
  | (t3, t8) => frk (decide (t8 < t7)) ((lget t6 t8).bind fun v0 => loopN (Dimpl_divisor_0 n rec0 t6 t7 t8) n (t3, maxN v0 [w64 (0 - v0)])) (some t3)
theorem Timpl_divisor_1 {Y} (n : Nat) (t6 : List Int) (t7 : Int) : ∀ (m : Nat) (a : (Int × Int)) (r : Int), loopN (Dimpl_divisor_1 n t6 t7) m a = some r → Wk Try.prog H Y 107 [.code (cp [1, 1, 0, 1, 0] (bodyOf Try.f107)), .blk 0, .code (cp [1, 1, 1] (bodyOf Try.f107))] (FinX Try.prog Try.f107 [] (i64 r) []) ⟨[(3, i64 a.1), (6, .sl false 1 t6.length ((eInt).f t6)), (7, i64 t7), (8, i64 a.2)], []⟩ := by
  refine loopN_ind (fun rec0 hrec0 a r h => ?_)
  obtain ⟨t3, t8⟩ := a
  unfold Dimpl_divisor_1 at h
  refine x_frk 6 [] onil h (by kernel_rfl) (fun h => ?_) (fun h => ?_)
  · obtain ⟨v0, hv0, h⟩ := bind_some h
    exact x_to 18 [(0, .val (.cptr (eInt.c v0 ++ (eInt).f ((t6).drop (Int.toNat t8 + 1))))), (5, .val (.lit (.int .i64 (maxN v0 [w64 (0 - v0)]))))] (ocons (ix eInt hv0) (ocons (maxNok .i64 [w64 (0 - v0)] v0) onil)) (Timpl_divisor_0 n rec0 t6 t7 hrec0 t8 n (t3, maxN v0 [w64 (0 - v0)]) r h) (by kernel_rfl)
  · replace h := Option.some.inj h; subst h
    exact x_end 6 [] [] onil onil (by kernel_rfl)
def Dimpl_divisor (n : Nat) (a0 : (List Int)) : Option Int :=
  loopN (Dimpl_divisor_1 n a0 (a0.length : Int)) n (0, 0)
theorem Timpl_divisor {Y} (n : Nat) (a0 : (List Int)) (r : Int) (h : Dimpl_divisor n a0 = some r) : Big Try.prog H Y (.call 107 [.sl false 1 a0.length ((eInt).f a0)] (lk []) (i64 r) (lk [])) := by
  unfold Dimpl_divisor at h
  refine x_call (fn := Try.f107) (c := bodyOf Try.f107) (bs0 := []) Try.func107 (by kernel_rfl) (by kernel_rfl) ?_
  exact x_to 16 [] onil (Timpl_divisor_1 n a0 (a0.length : Int) n (0, 0) r h) (by kernel_rfl)
/-! impl.PlaneOk -/
def Dimpl_PlaneOk_0 (n : Nat) (t24 : Bool) (b1_0 b1_1 b1_2 b1_3 : Int) : Option Bool :=
  frk t24 (some false) (frk (b1_0 != 0) ((Dimpl_divisor n [b1_0, b1_1, b1_2, b1_3]).bind fun v4 => some (v4 == 1)) (frk (b1_1 != 0) ((Dimpl_divisor n [b1_0, b1_1, b1_2, b1_3]).bind fun v5 => some (v5 == 1)) (frk (b1_2 != 0) ((Dimpl_divisor n [b1_0, b1_1, b1_2, b1_3]).bind fun v6 => some (v6 == 1)) (some false))))
theorem Timpl_PlaneOk_0 {Y} (n : Nat) (t24 : Bool) (b1_0 b1_1 b1_2 b1_3 : Int) (r : Bool) (h : Dimpl_PlaneOk_0 n t24 b1_0 b1_1 b1_2 b1_3 = some r) : Wk Try.prog H Y 94 [.code (cp [1, 0, 1] (bodyOf Try.f94)), .code (cp [1, 1] (bodyOf Try.f94))] (FinX Try.prog Try.f94 [] (bl r) []) ⟨[(1, .ptr 1 0), (24, bl t24)], [(1, ⟨true, 0, [i64 b1_0, i64 b1_1, i64 b1_2, i64 b1_3]⟩)]⟩ := by
  unfold Dimpl_PlaneOk_0 at h
  refine x_frk 0 [] onil h (by kernel_rfl) (fun h => ?_) (fun h => ?_)
  · replace h := Option.some.inj h; subst h
    exact x_end 4 [] [] onil onil (by kernel_rfl)
  · refine x_frk 7 [] onil h (by kernel_rfl) (fun h => ?_) (fun h => ?_)
    · obtain ⟨v4, hv4, h⟩ := bind_some h
      replace h := Option.some.inj h; subst h
      exact x_end 24 [(19, .call [] [(eInt).f [b1_0, b1_1, b1_2, b1_3]] (i64 v4) [])] [] (ocons (Timpl_divisor (Y := Y) n [b1_0, b1_1, b1_2, b1_3] _ hv4) (ocons (len_row (L := [b1_0, b1_1, b1_2, b1_3]) eInt) (ocons (Enc.share eInt eInt sInt [b1_0, b1_1, b1_2, b1_3]) onil))) onil (by kernel_rfl)
    · refine x_frk 5 [] onil h (by kernel_rfl) (fun h => ?_) (fun h => ?_)
      · obtain ⟨v5, hv5, h⟩ := bind_some h
        replace h := Option.some.inj h; subst h
        exact x_end 19 [(14, .call [] [(eInt).f [b1_0, b1_1, b1_2, b1_3]] (i64 v5) [])] [] (ocons (Timpl_divisor (Y := Y) n [b1_0, b1_1, b1_2, b1_3] _ hv5) (ocons (len_row (L := [b1_0, b1_1, b1_2, b1_3]) eInt) (ocons (Enc.share eInt eInt sInt [b1_0, b1_1, b1_2, b1_3]) onil))) onil (by kernel_rfl)
      · refine x_frk 5 [] onil h (by kernel_rfl) (fun h => ?_) (fun h => ?_)
        · obtain ⟨v6, hv6, h⟩ := bind_some h
          replace h := Option.some.inj h; subst h
          exact x_end 14 [(9, .call [] [(eInt).f [b1_0, b1_1, b1_2, b1_3]] (i64 v6) [])] [] (ocons (Timpl_divisor (Y := Y) n [b1_0, b1_1, b1_2, b1_3] _ hv6) (ocons (len_row (L := [b1_0, b1_1, b1_2, b1_3]) eInt) (ocons (Enc.share eInt eInt sInt [b1_0, b1_1, b1_2, b1_3]) onil))) onil (by kernel_rfl)
        · replace h := Option.some.inj h; subst h
          exact x_end 14 [] [] onil onil (by kernel_rfl)
def Dimpl_PlaneOk (n : Nat) (a0 : Pl) : Option Bool :=
  (Dimpl_isCoef a0.A).bind fun v0 => frk (!v0) (some false) ((Dimpl_isCoef a0.B).bind fun v1 => frk (!v1) (some false) ((Dimpl_isCoef a0.C).bind fun v2 => frk (!v2) (some false) ((Dimpl_isCoef a0.D).bind fun v3 => Dimpl_PlaneOk_0 n (!v3) a0.A a0.B a0.C a0.D)))
theorem Timpl_PlaneOk {Y} (n : Nat) (a0 : Pl) (r : Bool) (h : Dimpl_PlaneOk n a0 = some r) : Big Try.prog H Y (.call 94 [.agg [i64 a0.A, i64 a0.B, i64 a0.C, i64 a0.D]] (lk []) (bl r) (lk [])) := by
  unfold Dimpl_PlaneOk at h
  refine x_call (fn := Try.f94) (c := bodyOf Try.f94) (bs0 := []) Try.func94 (by kernel_rfl) (by kernel_rfl) ?_
  obtain ⟨v0, hv0, h⟩ := bind_some h
  refine x_frk 13 [(4, .call [] [] (bl v0) [])] (ocons (Timpl_isCoef (Y := Y) a0.A _ hv0) onil) h (by kernel_rfl) (fun h => ?_) (fun h => ?_)
  · replace h := Option.some.inj h; subst h
    exact x_end 23 [] [] onil onil (by kernel_rfl)
  · obtain ⟨v1, hv1, h⟩ := bind_some h
    refine x_frk 6 [(2, .call [] [] (bl v1) [])] (ocons (Timpl_isCoef (Y := Y) a0.B _ hv1) onil) h (by kernel_rfl) (fun h => ?_) (fun h => ?_)
    · replace h := Option.some.inj h; subst h
      exact x_end 17 [] [] onil onil (by kernel_rfl)
    · obtain ⟨v2, hv2, h⟩ := bind_some h
      refine x_frk 6 [(2, .call [] [] (bl v2) [])] (ocons (Timpl_isCoef (Y := Y) a0.C _ hv2) onil) h (by kernel_rfl) (fun h => ?_) (fun h => ?_)
      · replace h := Option.some.inj h; subst h
        exact x_end 11 [] [] onil onil (by kernel_rfl)
      · obtain ⟨v3, hv3, h⟩ := bind_some h
        exact x_to 6 [(2, .call [] [] (bl v3) [])] (ocons (Timpl_isCoef (Y := Y) a0.D _ hv3) onil) (Timpl_PlaneOk_0 n (!v3) a0.A a0.B a0.C a0.D r h) (by kernel_rfl)
/-! impl.flip -/
def Dimpl_flip (a0 : Pl) : Option Pl :=
  some (Pl.mk (w64 (0 - a0.A)) (w64 (0 - a0.B)) (w64 (0 - a0.C)) (w64 (0 - a0.D)))
theorem Timpl_flip {Y} (a0 : Pl) (r : Pl) (h : Dimpl_flip a0 = some r) : Big Try.prog H Y (.call 69 [.agg [i64 a0.A, i64 a0.B, i64 a0.C, i64 a0.D]] (lk []) (.agg [i64 r.A, i64 r.B, i64 r.C, i64 r.D]) (lk [])) := by
  unfold Dimpl_flip at h
  refine x_call (fn := Try.f69) (c := bodyOf Try.f69) (bs0 := []) Try.func69 (by kernel_rfl) (by kernel_rfl) ?_
  replace h := Option.some.inj h; subst h
  exact x_end 22 [] [] onil onil (by kernel_rfl)
/-! impl.normal -/
def Dimpl_normal (a0 : Pl) : Option (Int × Int × Int) :=
  some (a0.A, a0.B, a0.C)
theorem Timpl_normal {Y} (a0 : Pl) (r : (Int × Int × Int)) (h : Dimpl_normal a0 = some r) : Big Try.prog H Y (.call 124 [.agg [i64 a0.A, i64 a0.B, i64 a0.C, i64 a0.D]] (lk []) (.agg [i64 r.1, i64 r.2.1, i64 r.2.2]) (lk [])) := by
  unfold Dimpl_normal at h
  refine x_call (fn := Try.f124) (c := bodyOf Try.f124) (bs0 := []) Try.func124 (by kernel_rfl) (by kernel_rfl) ?_
  replace h := Option.some.inj h; subst h
  exact x_end 16 [] [] onil onil (by kernel_rfl)
/-! impl.crossOf -/
def Dimpl_crossOf (a0 : (Int × Int × Int)) (a1 : (Int × Int × Int)) : Option (Int × Int × Int) :=
  some (w64 ((w64 (a0.2.1 * a1.2.2)) - (w64 (a0.2.2 * a1.2.1))), w64 ((w64 (a0.2.2 * a1.1)) - (w64 (a0.1 * a1.2.2))), w64 ((w64 (a0.1 * a1.2.1)) - (w64 (a0.2.1 * a1.1))))
theorem Timpl_crossOf {Y} (a0 : (Int × Int × Int)) (a1 : (Int × Int × Int)) (r : (Int × Int × Int)) (h : Dimpl_crossOf a0 a1 = some r) : Big Try.prog H Y (.call 126 [.agg [i64 a0.1, i64 a0.2.1, i64 a0.2.2], .agg [i64 a1.1, i64 a1.2.1, i64 a1.2.2]] (lk []) (.agg [i64 r.1, i64 r.2.1, i64 r.2.2]) (lk [])) := by
  unfold Dimpl_crossOf at h
  refine x_call (fn := Try.f126) (c := bodyOf Try.f126) (bs0 := []) Try.func126 (by kernel_rfl) (by kernel_rfl) ?_
  replace h := Option.some.inj h; subst h
  exact x_end 44 [] [] onil onil (by kernel_rfl)
/-! impl.dot -/
def Dimpl_dot (a0 : (Int × Int × Int)) (a1 : (Int × Int × Int)) : Option Int :=
  some (w64 ((w64 ((w64 (a0.1 * a1.1)) + (w64 (a0.2.1 * a1.2.1)))) + (w64 (a0.2.2 * a1.2.2))))
theorem Timpl_dot {Y} (a0 : (Int × Int × Int)) (a1 : (Int × Int × Int)) (r : Int) (h : Dimpl_dot a0 a1 = some r) : Big Try.prog H Y (.call 125 [.agg [i64 a0.1, i64 a0.2.1, i64 a0.2.2], .agg [i64 a1.1, i64 a1.2.1, i64 a1.2.2]] (lk []) (i64 r) (lk [])) := by
  unfold Dimpl_dot at h
  refine x_call (fn := Try.f125) (c := bodyOf Try.f125) (bs0 := []) Try.func125 (by kernel_rfl) (by kernel_rfl) ?_
  replace h := Option.some.inj h; subst h
  exact x_end 27 [] [] onil onil (by kernel_rfl)
/-! cmp.isNaN[int] -/
def Dcmp_isNaN (a0 : Int) : Option Bool :=
  some (a0 != a0)
theorem Tcmp_isNaN {Y} (a0 : Int) (r : Bool) (h : Dcmp_isNaN a0 = some r) : Big Try.prog H Y (.call 137 [i64 a0] (lk []) (bl r) (lk [])) := by
  unfold Dcmp_isNaN at h
  refine x_call (fn := Try.f137) (c := bodyOf Try.f137) (bs0 := []) Try.func137 (by kernel_rfl) (by kernel_rfl) ?_
  replace h := Option.some.inj h; subst h
  exact x_end 11 [] [] onil onil (by kernel_rfl)
/-! cmp.Compare[int] -/
def Dcmp_Compare (a0 a1 : Int) : Option Int :=
  (Dcmp_isNaN a0).bind fun v0 => (Dcmp_isNaN a1).bind fun v1 => frk v0 (frk v1 (some 0) (some (-1))) (frk v1 (some 1) (frk (decide (a0 < a1)) (some (-1)) (frk (decide (a0 > a1)) (some 1) (some 0))))
theorem Tcmp_Compare {Y} (a0 a1 r : Int) (h : Dcmp_Compare a0 a1 = some r) : Big Try.prog H Y (.call 111 [i64 a0, i64 a1] (lk []) (i64 r) (lk [])) := by
  unfold Dcmp_Compare at h
  refine x_call (fn := Try.f111) (c := bodyOf Try.f111) (bs0 := []) Try.func111 (by kernel_rfl) (by kernel_rfl) ?_
  obtain ⟨v0, hv0, h⟩ := bind_some h
  obtain ⟨v1, hv1, h⟩ := bind_some h
  refine x_frk 21 [(2, .call [] [] (bl v0) []), (2, .call [] [] (bl v1) [])] (ocons (Tcmp_isNaN (Y := Y) a0 _ hv0) (ocons (Tcmp_isNaN (Y := Y) a1 _ hv1) onil)) h (by kernel_rfl) (fun h => ?_) (fun h => ?_)
  · refine x_frk 5 [] onil h (by kernel_rfl) (fun h => ?_) (fun h => ?_)
    · replace h := Option.some.inj h; subst h
      exact x_end 4 [] [] onil onil (by kernel_rfl)
    · replace h := Option.some.inj h; subst h
      exact x_end 5 [] [] onil onil (by kernel_rfl)
  · refine x_frk 6 [] onil h (by kernel_rfl) (fun h => ?_) (fun h => ?_)
    · replace h := Option.some.inj h; subst h
      exact x_end 4 [] [] onil onil (by kernel_rfl)
    · refine x_frk 8 [] onil h (by kernel_rfl) (fun h => ?_) (fun h => ?_)
      · replace h := Option.some.inj h; subst h
        exact x_end 4 [] [] onil onil (by kernel_rfl)
      · refine x_frk 8 [] onil h (by kernel_rfl) (fun h => ?_) (fun h => ?_)
        · replace h := Option.some.inj h; subst h
          exact x_end 4 [] [] onil onil (by kernel_rfl)
        · replace h := Option.some.inj h; subst h
          exact x_end 5 [] [] onil onil (by kernel_rfl)
/-! impl.sign -/
def Dimpl_sign (a0 : Int) : Option Int :=
  (Dcmp_Compare a0 0).bind fun v0 => some v0
theorem Timpl_sign {Y} (a0 r : Int) (h : Dimpl_sign a0 = some r) : Big Try.prog H Y (.call 88 [i64 a0] (lk []) (i64 r) (lk [])) := by
  unfold Dimpl_sign at h
  refine x_call (fn := Try.f88) (c := bodyOf Try.f88) (bs0 := []) Try.func88 (by kernel_rfl) (by kernel_rfl) ?_
  obtain ⟨v0, hv0, h⟩ := bind_some h
  replace h := Option.some.inj h; subst h
  exact x_end 10 [(2, .call [] [] (i64 v0) [])] [] (ocons (Tcmp_Compare (Y := Y) a0 0 _ hv0) onil) onil (by kernel_rfl)
/-! impl.parallel -/
def Dimpl_parallel (a0 : Pl) (a1 : Pl) : Option Int :=
  (Dimpl_normal a0).bind fun v0 => (Dimpl_normal a1).bind fun v1 => (Dimpl_crossOf v0 v1).bind fun v2 => frk (!(v2.1 == 0 && (v2.2.1 == 0 && (v2.2.2 == 0 && true)))) (some 0) ((Dimpl_normal a0).bind fun v3 => (Dimpl_normal a1).bind fun v4 => (Dimpl_dot v3 v4).bind fun v5 => (Dimpl_sign v5).bind fun v6 => some v6)
theorem Timpl_parallel {Y} (a0 : Pl) (a1 : Pl) (r : Int) (h : Dimpl_parallel a0 a1 = some r) : Big Try.prog H Y (.call 138 [.agg [i64 a0.A, i64 a0.B, i64 a0.C, i64 a0.D], .agg [i64 a1.A, i64 a1.B, i64 a1.C, i64 a1.D]] (lk []) (i64 r) (lk [])) := by
  unfold Dimpl_parallel at h
  refine x_call (fn := Try.f138) (c := bodyOf Try.f138) (bs0 := []) Try.func138 (by kernel_rfl) (by kernel_rfl) ?_
  obtain ⟨v0, hv0, h⟩ := bind_some h
  obtain ⟨v1, hv1, h⟩ := bind_some h
  obtain ⟨v2, hv2, h⟩ := bind_some h
  refine x_frk 17 [(4, .call [] [] (.agg [i64 v0.1, i64 v0.2.1, i64 v0.2.2]) []), (1, .call [] [] (.agg [i64 v1.1, i64 v1.2.1, i64 v1.2.2]) []), (0, .call [] [] (.agg [i64 v2.1, i64 v2.2.1, i64 v2.2.2]) [])] (ocons (Timpl_normal (Y := Y) a0 _ hv0) (ocons (Timpl_normal (Y := Y) a1 _ hv1) (ocons (Timpl_crossOf (Y := Y) v0 v1 _ hv2) onil))) h (by kernel_rfl) (fun h => ?_) (fun h => ?_)
  · replace h := Option.some.inj h; subst h
    exact x_end 4 [] [] onil onil (by kernel_rfl)
  · obtain ⟨v3, hv3, h⟩ := bind_some h
    obtain ⟨v4, hv4, h⟩ := bind_some h
    obtain ⟨v5, hv5, h⟩ := bind_some h
    obtain ⟨v6, hv6, h⟩ := bind_some h
    replace h := Option.some.inj h; subst h
    exact x_end 11 [(1, .call [] [] (.agg [i64 v3.1, i64 v3.2.1, i64 v3.2.2]) []), (1, .call [] [] (.agg [i64 v4.1, i64 v4.2.1, i64 v4.2.2]) []), (0, .call [] [] (i64 v5) []), (0, .call [] [] (i64 v6) [])] [] (ocons (Timpl_normal (Y := Y) a0 _ hv3) (ocons (Timpl_normal (Y := Y) a1 _ hv4) (ocons (Timpl_dot (Y := Y) v3 v4 _ hv5) (ocons (Timpl_sign (Y := Y) v5 _ hv6) onil)))) onil (by kernel_rfl)
/-! impl.clash2 -/
def Dimpl_clash2 (_n : Nat) (a0 : Pl) (a1 : Pl) : Option Bool :=
  (Dimpl_parallel a0 a1).bind fun v0 => frk (decide (v0 ≥ 0)) (some false) ((Dimpl_normal a0).bind fun v1 => (Dimpl_normal a1).bind fun v2 => frk (v1.1 != 0) (some (decide ((w64 ((w64 (a0.D * (maxN v2.1 [w64 (0 - v2.1)]))) + (w64 (a1.D * (maxN v1.1 [w64 (0 - v1.1)]))))) ≤ 0))) (frk (v1.2.1 != 0) (some (decide ((w64 ((w64 (a0.D * (maxN v2.2.1 [w64 (0 - v2.2.1)]))) + (w64 (a1.D * (maxN v1.2.1 [w64 (0 - v1.2.1)]))))) ≤ 0))) (frk (v1.2.2 != 0) (some (decide ((w64 ((w64 (a0.D * (maxN v2.2.2 [w64 (0 - v2.2.2)]))) + (w64 (a1.D * (maxN v1.2.2 [w64 (0 - v1.2.2)]))))) ≤ 0))) (some false))))
theorem Timpl_clash2 {Y} (n : Nat) (a0 : Pl) (a1 : Pl) (r : Bool) (h : Dimpl_clash2 n a0 a1 = some r) : Big Try.prog H Y (.call 112 [.agg [i64 a0.A, i64 a0.B, i64 a0.C, i64 a0.D], .agg [i64 a1.A, i64 a1.B, i64 a1.C, i64 a1.D]] (lk []) (bl r) (lk [])) := by
  unfold Dimpl_clash2 at h
  refine x_call (fn := Try.f112) (c := bodyOf Try.f112) (bs0 := []) Try.func112 (by kernel_rfl) (by kernel_rfl) ?_
  obtain ⟨v0, hv0, h⟩ := bind_some h
  refine x_frk 14 [(5, .call [] [] (i64 v0) [])] (ocons (Timpl_parallel (Y := Y) a0 a1 _ hv0) onil) h (by kernel_rfl) (fun h => ?_) (fun h => ?_)
  · replace h := Option.some.inj h; subst h
    exact x_end 4 [] [] onil onil (by kernel_rfl)
  · obtain ⟨v1, hv1, h⟩ := bind_some h
    obtain ⟨v2, hv2, h⟩ := bind_some h
    refine x_frk 40 [(1, .call [] [] (.agg [i64 v1.1, i64 v1.2.1, i64 v1.2.2]) []), (1, .call [] [] (.agg [i64 v2.1, i64 v2.2.1, i64 v2.2.2]) [])] (ocons (Timpl_normal (Y := Y) a0 _ hv1) (ocons (Timpl_normal (Y := Y) a1 _ hv2) onil)) h (by kernel_rfl) (fun h => ?_) (fun h => ?_)
    · replace h := Option.some.inj h; subst h
      exact x_end 28 [(9, .val (.lit (.int .i64 (maxN v2.1 [w64 (0 - v2.1)])))), (10, .val (.lit (.int .i64 (maxN v1.1 [w64 (0 - v1.1)]))))] [] (ocons (maxNok .i64 [w64 (0 - v2.1)] v2.1) (ocons (maxNok .i64 [w64 (0 - v1.1)] v1.1) onil)) onil (by kernel_rfl)
    · refine x_frk 29 [] onil h (by kernel_rfl) (fun h => ?_) (fun h => ?_)
      · replace h := Option.some.inj h; subst h
        exact x_end 28 [(9, .val (.lit (.int .i64 (maxN v2.2.1 [w64 (0 - v2.2.1)])))), (10, .val (.lit (.int .i64 (maxN v1.2.1 [w64 (0 - v1.2.1)]))))] [] (ocons (maxNok .i64 [w64 (0 - v2.2.1)] v2.2.1) (ocons (maxNok .i64 [w64 (0 - v1.2.1)] v1.2.1) onil)) onil (by kernel_rfl)
      · refine x_frk 29 [] onil h (by kernel_rfl) (fun h => ?_) (fun h => ?_)
        · replace h := Option.some.inj h; subst h
          exact x_end 28 [(9, .val (.lit (.int .i64 (maxN v2.2.2 [w64 (0 - v2.2.2)])))), (10, .val (.lit (.int .i64 (maxN v1.2.2 [w64 (0 - v1.2.2)]))))] [] (ocons (maxNok .i64 [w64 (0 - v2.2.2)] v2.2.2) (ocons (maxNok .i64 [w64 (0 - v1.2.2)] v1.2.2) onil)) onil (by kernel_rfl)
        · replace h := Option.some.inj h; subst h
          exact x_end 19 [] [] onil onil (by kernel_rfl)
/-! impl.det -/
def Dimpl_det (a0 : (Int × Int × Int)) (a1 : (Int × Int × Int)) (a2 : (Int × Int × Int)) : Option Int :=
  (Dimpl_crossOf a1 a2).bind fun v0 => (Dimpl_dot a0 v0).bind fun v1 => some v1
theorem Timpl_det {Y} (a0 : (Int × Int × Int)) (a1 : (Int × Int × Int)) (a2 : (Int × Int × Int)) (r : Int) (h : Dimpl_det a0 a1 a2 = some r) : Big Try.prog H Y (.call 106 [.agg [i64 a0.1, i64 a0.2.1, i64 a0.2.2], .agg [i64 a1.1, i64 a1.2.1, i64 a1.2.2], .agg [i64 a2.1, i64 a2.2.1, i64 a2.2.2]] (lk []) (i64 r) (lk [])) := by
  unfold Dimpl_det at h
  refine x_call (fn := Try.f106) (c := bodyOf Try.f106) (bs0 := []) Try.func106 (by kernel_rfl) (by kernel_rfl) ?_
  obtain ⟨v0, hv0, h⟩ := bind_some h
  obtain ⟨v1, hv1, h⟩ := bind_some h
  replace h := Option.some.inj h; subst h
  exact x_end 16 [(7, .call [] [] (.agg [i64 v0.1, i64 v0.2.1, i64 v0.2.2]) []), (0, .call [] [] (i64 v1) [])] [] (ocons (Timpl_crossOf (Y := Y) a1 a2 _ hv0) (ocons (Timpl_dot (Y := Y) a0 v0 _ hv1) onil)) onil (by kernel_rfl)
/-! impl.weighs -/
def Dimpl_weighs_0 (_n : Nat) (rec0 : (Int × Int) → Option Bool) (t1 : List Int) (_t5 : Int) (_t13 : List Int) (_t14 t6 t7 t8 t15 : Int) (t27 : Bool) : Option Bool :=
  frk t27 (some false) ((lget t1 t7).bind fun v4 => rec0 (w64 (t6 + (w64 (t8 * v4))), w64 (t15 + 1)))
theorem Timpl_weighs_0 {Y} (n : Nat) (rec0 : (Int × Int) → Option Bool) (t1 : List Int) (t5 : Int) (t13 : List Int) (t14 : Int) (hrec0 : ∀ (a : (Int × Int)) (r : Bool), rec0 a = some r → Wk Try.prog H Y 139 [.code (cp [1, 1, 1, 0, 1, 0] (bodyOf Try.f139)), .blk 0, .code (cp [1, 1, 1, 1] (bodyOf Try.f139))] (FinX Try.prog Try.f139 [] (bl r) []) ⟨[(1, .sl false 1 t1.length ((eInt).f t1)), (5, i64 t5), (6, i64 a.1), (13, .sl false 1 t13.length ((eInt).f t13)), (14, i64 t14), (15, i64 a.2)], []⟩) (t6 t7 t8 t15 : Int) (t27 r : Bool) (h : Dimpl_weighs_0 n rec0 t1 t5 t13 t14 t6 t7 t8 t15 t27 = some r) : Wk Try.prog H Y 139 [.code (cp [1, 1, 1, 0, 1, 0, 0, 1, 1, 0, 0, 1, 0, 1] (bodyOf Try.f139)), .code (cp [1, 1, 1, 0, 1, 0, 0, 1, 1, 0, 0, 1, 1] (bodyOf Try.f139)), .blk 1, .code (cp [1, 1, 1, 0, 1, 0, 0, 1, 1, 1] (bodyOf Try.f139)), .lp (cp [1, 1, 1, 0, 1, 0] (bodyOf Try.f139)), .blk 0, .code (cp [1, 1, 1, 1] (bodyOf Try.f139))] (FinX Try.prog Try.f139 [] (bl r) []) ⟨[(1, .sl false 1 t1.length ((eInt).f t1)), (5, i64 t5), (6, i64 t6), (7, i64 t7), (8, i64 t8), (13, .sl false 1 t13.length ((eInt).f t13)), (14, i64 t14), (15, i64 t15), (27, bl t27)], []⟩ := by
  unfold Dimpl_weighs_0 at h
  refine x_frk 0 [] onil h (by kernel_rfl) (fun h => ?_) (fun h => ?_)
  · replace h := Option.some.inj h; subst h
    exact x_end 4 [] [] onil onil (by kernel_rfl)
  · obtain ⟨v4, hv4, h⟩ := bind_some h
    exact x_to 18 [(4, .val (.cptr (eInt.c v4 ++ (eInt).f ((t1).drop (Int.toNat t7 + 1)))))] (ocons (ix eInt hv4) onil) (hrec0 (w64 (t6 + (w64 (t8 * v4))), w64 (t15 + 1)) r h) (by kernel_rfl)
def Dimpl_weighs_1 (n : Nat) (t1 : List Int) (t5 : Int) (t13 : List Int) (t14 : Int) (rec0 : (Int × Int) → Option Bool) (a : (Int × Int)) : Option Bool :=
  match a with
  | (t6, t15) => frk (decide (t15 < t14)) ((lget t13 t15).bind fun v2 => frk (t5 == 0) (some false) ((Dimpl_sign v2).bind fun v3 => Dimpl_weighs_0 n rec0 t1 t5 t13 t14 t6 t15 v2 t15 (v3 != t5))) (some (decide ((w64 (t6 * t5)) ≤ 0)))
theorem Timpl_weighs_1 {Y} (n : Nat) (t1 : List Int) (t5 : Int) (t13 : List Int) (t14 : Int) : ∀ (m : Nat) (a : (Int × Int)) (r : Bool), loopN (Dimpl_weighs_1 n t1 t5 t13 t14) m a = some r → Wk Try.prog H Y 139 [.code (cp [1, 1, 1, 0, 1, 0] (bodyOf Try.f139)), .blk 0, .code (cp [1, 1, 1, 1] (bodyOf Try.f139))] (FinX Try.prog Try.f139 [] (bl r) []) ⟨[(1, .sl false 1 t1.length ((eInt).f t1)), (5, i64 t5), (6, i64 a.1), (13, .sl false 1 t13.length ((eInt).f t13)), (14, i64 t14), (15, i64 a.2)], []⟩ := by
  refine loopN_ind (fun rec0 hrec0 a r h => ?_)
  obtain ⟨t6, t15⟩ := a
  unfold Dimpl_weighs_1 at h
  refine x_frk 6 [] onil h (by kernel_rfl) (fun h => ?_) (fun h => ?_)
  · obtain ⟨v2, hv2, h⟩ := bind_some h
    refine x_frk 17 [(1, .val (.cptr (eInt.c v2 ++ (eInt).f ((t13).drop (Int.toNat t15 + 1)))))] (ocons (ix eInt hv2) onil) h (by kernel_rfl) (fun h => ?_) (fun h => ?_)
    · replace h := Option.some.inj h; subst h
      exact x_end 11 [] [] onil onil (by kernel_rfl)
    · obtain ⟨v3, hv3, h⟩ := bind_some h
      exact x_to 6 [(1, .call [] [] (i64 v3) [])] (ocons (Timpl_sign (Y := Y) v2 _ hv3) onil) (Timpl_weighs_0 n rec0 t1 t5 t13 t14 hrec0 t6 t15 v2 t15 (v3 != t5) r h) (by kernel_rfl)
  · replace h := Option.some.inj h; subst h
    exact x_end 9 [] [] onil onil (by kernel_rfl)
def Dimpl_weighs (n : Nat) (a0 : (List Int)) (a1 : (List Int)) : Option Bool :=
  (lget a0 0).bind fun v0 => (Dimpl_sign v0).bind fun v1 => loopN (Dimpl_weighs_1 n a1 v1 a0 (a0.length : Int)) n (0, 0)
theorem Timpl_weighs {Y} (n : Nat) (a0 : (List Int)) (a1 : (List Int)) (r : Bool) (h : Dimpl_weighs n a0 a1 = some r) : Big Try.prog H Y (.call 139 [.sl false 1 a0.length ((eInt).f a0), .sl false 1 a1.length ((eInt).f a1)] (lk []) (bl r) (lk [])) := by
  unfold Dimpl_weighs at h
  refine x_call (fn := Try.f139) (c := bodyOf Try.f139) (bs0 := []) Try.func139 (by kernel_rfl) (by kernel_rfl) ?_
  obtain ⟨v0, hv0, h⟩ := bind_some h
  obtain ⟨v1, hv1, h⟩ := bind_some h
  exact x_to 24 [(2, .val (.cptr (eInt.c v0 ++ (eInt).f ((a0).drop (Int.toNat 0 + 1))))), (1, .call [] [] (i64 v1) [])] (ocons (ix eInt hv0) (ocons (Timpl_sign (Y := Y) v0 _ hv1) onil)) (Timpl_weighs_1 n a1 v1 a0 (a0.length : Int) n (0, 0) r h) (by kernel_rfl)
/-! impl.clash3 -/
def Dimpl_clash3 (n : Nat) (a0 : Pl) (a1 : Pl) (a2 : Pl) : Option Bool :=
  (Dimpl_normal a0).bind fun v0 => (Dimpl_normal a1).bind fun v1 => (Dimpl_normal a2).bind fun v2 => (Dimpl_det v0 v1 v2).bind fun v3 => frk (v3 != 0) (some false) ((Dimpl_crossOf v0 v1).bind fun v4 => (Dimpl_crossOf v1 v2).bind fun v5 => (Dimpl_dot v5 v4).bind fun v6 => (Dimpl_crossOf v2 v0).bind fun v7 => (Dimpl_dot v7 v4).bind fun v8 => (Dimpl_dot v4 v4).bind fun v9 => (Dimpl_weighs n [v6, v8, v9] [a0.D, a1.D, a2.D]).bind fun v10 => some v10)
theorem Timpl_clash3 {Y} (n : Nat) (a0 : Pl) (a1 : Pl) (a2 : Pl) (r : Bool) (h : Dimpl_clash3 n a0 a1 a2 = some r) : Big Try.prog H Y (.call 113 [.agg [i64 a0.A, i64 a0.B, i64 a0.C, i64 a0.D], .agg [i64 a1.A, i64 a1.B, i64 a1.C, i64 a1.D], .agg [i64 a2.A, i64 a2.B, i64 a2.C, i64 a2.D]] (lk []) (bl r) (lk [])) := by
  unfold Dimpl_clash3 at h
  refine x_call (fn := Try.f113) (c := bodyOf Try.f113) (bs0 := []) Try.func113 (by kernel_rfl) (by kernel_rfl) ?_
  obtain ⟨v0, hv0, h⟩ := bind_some h
  obtain ⟨v1, hv1, h⟩ := bind_some h
  obtain ⟨v2, hv2, h⟩ := bind_some h
  obtain ⟨v3, hv3, h⟩ := bind_some h
  refine x_frk 31 [(5, .call [] [] (.agg [i64 v0.1, i64 v0.2.1, i64 v0.2.2]) []), (1, .call [] [] (.agg [i64 v1.1, i64 v1.2.1, i64 v1.2.2]) []), (1, .call [] [] (.agg [i64 v2.1, i64 v2.2.1, i64 v2.2.2]) []), (9, .call [] [] (i64 v3) [])] (ocons (Timpl_normal (Y := Y) a0 _ hv0) (ocons (Timpl_normal (Y := Y) a1 _ hv1) (ocons (Timpl_normal (Y := Y) a2 _ hv2) (ocons (Timpl_det (Y := Y) v0 v1 v2 _ hv3) onil)))) h (by kernel_rfl) (fun h => ?_) (fun h => ?_)
  · replace h := Option.some.inj h; subst h
    exact x_end 4 [] [] onil onil (by kernel_rfl)
  · obtain ⟨v4, hv4, h⟩ := bind_some h
    obtain ⟨v5, hv5, h⟩ := bind_some h
    obtain ⟨v6, hv6, h⟩ := bind_some h
    obtain ⟨v7, hv7, h⟩ := bind_some h
    obtain ⟨v8, hv8, h⟩ := bind_some h
    obtain ⟨v9, hv9, h⟩ := bind_some h
    obtain ⟨v10, hv10, h⟩ := bind_some h
    replace h := Option.some.inj h; subst h
    exact x_end 35 [(2, .call [] [] (.agg [i64 v4.1, i64 v4.2.1, i64 v4.2.2]) []), (4, .call [] [] (.agg [i64 v5.1, i64 v5.2.1, i64 v5.2.2]) []), (1, .call [] [] (i64 v6) []), (2, .call [] [] (.agg [i64 v7.1, i64 v7.2.1, i64 v7.2.2]) []), (1, .call [] [] (i64 v8) []), (2, .call [] [] (i64 v9) []), (8, .call [] [(eInt).f [a0.D, a1.D, a2.D], (eInt).f [v6, v8, v9]] (bl v10) [])] [] (ocons (Timpl_crossOf (Y := Y) v0 v1 _ hv4) (ocons (Timpl_crossOf (Y := Y) v1 v2 _ hv5) (ocons (Timpl_dot (Y := Y) v5 v4 _ hv6) (ocons (Timpl_crossOf (Y := Y) v2 v0 _ hv7) (ocons (Timpl_dot (Y := Y) v7 v4 _ hv8) (ocons (Timpl_dot (Y := Y) v4 v4 _ hv9) (ocons (Timpl_weighs (Y := Y) n [v6, v8, v9] [a0.D, a1.D, a2.D] _ hv10) (ocons (len_row (L := [v6, v8, v9]) eInt) (ocons (Enc.share eInt eInt sInt [v6, v8, v9]) (ocons (len_row (L := [a0.D, a1.D, a2.D]) eInt) (ocons (Enc.share eInt eInt sInt [a0.D, a1.D, a2.D]) onil))))))))))) onil (by kernel_rfl)
/-! impl.det3 -/
def Dimpl_det3 (a0 : Pl) (a1 : Pl) (a2 : Pl) : Option Int :=
  (Dimpl_normal a0).bind fun v0 => (Dimpl_normal a1).bind fun v1 => (Dimpl_normal a2).bind fun v2 => (Dimpl_det v0 v1 v2).bind fun v3 => some v3
theorem Timpl_det3 {Y} (a0 : Pl) (a1 : Pl) (a2 : Pl) (r : Int) (h : Dimpl_det3 a0 a1 a2 = some r) : Big Try.prog H Y (.call 105 [.agg [i64 a0.A, i64 a0.B, i64 a0.C, i64 a0.D], .agg [i64 a1.A, i64 a1.B, i64 a1.C, i64 a1.D], .agg [i64 a2.A, i64 a2.B, i64 a2.C, i64 a2.D]] (lk []) (i64 r) (lk [])) := by
  unfold Dimpl_det3 at h
  refine x_call (fn := Try.f105) (c := bodyOf Try.f105) (bs0 := []) Try.func105 (by kernel_rfl) (by kernel_rfl) ?_
  obtain ⟨v0, hv0, h⟩ := bind_some h
  obtain ⟨v1, hv1, h⟩ := bind_some h
  obtain ⟨v2, hv2, h⟩ := bind_some h
  obtain ⟨v3, hv3, h⟩ := bind_some h
  replace h := Option.some.inj h; subst h
  exact x_end 18 [(5, .call [] [] (.agg [i64 v0.1, i64 v0.2.1, i64 v0.2.2]) []), (1, .call [] [] (.agg [i64 v1.1, i64 v1.2.1, i64 v1.2.2]) []), (1, .call [] [] (.agg [i64 v2.1, i64 v2.2.1, i64 v2.2.2]) []), (0, .call [] [] (i64 v3) [])] [] (ocons (Timpl_normal (Y := Y) a0 _ hv0) (ocons (Timpl_normal (Y := Y) a1 _ hv1) (ocons (Timpl_normal (Y := Y) a2 _ hv2) (ocons (Timpl_det (Y := Y) v0 v1 v2 _ hv3) onil)))) onil (by kernel_rfl)
/-! impl.clash4 -/
def Dimpl_clash4 (n : Nat) (a0 : Pl) (a1 : Pl) (a2 : Pl) (a3 : Pl) : Option Bool :=
  (Dimpl_det3 a1 a2 a3).bind fun v0 => (Dimpl_det3 a0 a2 a3).bind fun v1 => (Dimpl_det3 a0 a1 a3).bind fun v2 => (Dimpl_det3 a0 a1 a2).bind fun v3 => (Dimpl_weighs n [v0, w64 (0 - v1), v2, w64 (0 - v3)] [a0.D, a1.D, a2.D, a3.D]).bind fun v4 => some v4
theorem Timpl_clash4 {Y} (n : Nat) (a0 : Pl) (a1 : Pl) (a2 : Pl) (a3 : Pl) (r : Bool) (h : Dimpl_clash4 n a0 a1 a2 a3 = some r) : Big Try.prog H Y (.call 114 [.agg [i64 a0.A, i64 a0.B, i64 a0.C, i64 a0.D], .agg [i64 a1.A, i64 a1.B, i64 a1.C, i64 a1.D], .agg [i64 a2.A, i64 a2.B, i64 a2.C, i64 a2.D], .agg [i64 a3.A, i64 a3.B, i64 a3.C, i64 a3.D]] (lk []) (bl r) (lk [])) := by
  unfold Dimpl_clash4 at h
  refine x_call (fn := Try.f114) (c := bodyOf Try.f114) (bs0 := []) Try.func114 (by kernel_rfl) (by kernel_rfl) ?_
  obtain ⟨v0, hv0, h⟩ := bind_some h
  obtain ⟨v1, hv1, h⟩ := bind_some h
  obtain ⟨v2, hv2, h⟩ := bind_some h
  obtain ⟨v3, hv3, h⟩ := bind_some h
  obtain ⟨v4, hv4, h⟩ := bind_some h
  replace h := Option.some.inj h; subst h
  exact x_end 46 [(8, .call [] [] (i64 v0) []), (3, .call [] [] (i64 v1) []), (4, .call [] [] (i64 v2) []), (3, .call [] [] (i64 v3) []), (13, .call [] [(eInt).f [a0.D, a1.D, a2.D, a3.D], (eInt).f [v0, w64 (0 - v1), v2, w64 (0 - v3)]] (bl v4) [])] [] (ocons (Timpl_det3 (Y := Y) a1 a2 a3 _ hv0) (ocons (Timpl_det3 (Y := Y) a0 a2 a3 _ hv1) (ocons (Timpl_det3 (Y := Y) a0 a1 a3 _ hv2) (ocons (Timpl_det3 (Y := Y) a0 a1 a2 _ hv3) (ocons (Timpl_weighs (Y := Y) n [v0, w64 (0 - v1), v2, w64 (0 - v3)] [a0.D, a1.D, a2.D, a3.D] _ hv4) (ocons (len_row (L := [v0, w64 (0 - v1), v2, w64 (0 - v3)]) eInt) (ocons (Enc.share eInt eInt sInt [v0, w64 (0 - v1), v2, w64 (0 - v3)]) (ocons (len_row (L := [a0.D, a1.D, a2.D, a3.D]) eInt) (ocons (Enc.share eInt eInt sInt [a0.D, a1.D, a2.D, a3.D]) onil))))))))) onil (by kernel_rfl)
/-! impl.room -/
def Dimpl_room_0 (n : Nat) (rec1 : Int → Option Bool) (_rec0 : Int → Option Bool) (_t13 : Int) (_t23 : List Pl) (_t24 b6_0 b6_1 b6_2 b6_3 : Int) (_t0 : List Pl) (_t11 : List Pl) (_t12 b3_0 b3_1 b3_2 b3_3 t25 : Int) (t36 : List Pl) (t37 b8_0 b8_1 b8_2 b8_3 : Int) (rec2 : Int → Option Bool) (a : Int) : Option Bool :=
  match a with
  | t38 => frk (decide (t38 < t37)) ((lget t36 t38).bind fun v6 => (Dimpl_clash4 n v6 (Pl.mk b8_0 b8_1 b8_2 b8_3) (Pl.mk b6_0 b6_1 b6_2 b6_3) (Pl.mk b3_0 b3_1 b3_2 b3_3)).bind fun v7 => frk v7 (some false) (rec2 (w64 (t38 + 1)))) (rec1 (w64 (t25 + 1)))
theorem Timpl_room_0 {Y} (n : Nat) (rec1 : Int → Option Bool) (rec0 : Int → Option Bool) (t13 : Int) (t23 : List Pl) (t24 b6_0 b6_1 b6_2 b6_3 : Int) (t0 : List Pl) (t11 : List Pl) (t12 b3_0 b3_1 b3_2 b3_3 : Int) (hrec1 : ∀ (a : Int) (r : Bool), rec1 a = some r → Wk Try.prog H Y 87 [.code (cp [1, 0, 1, 0, 0, 1, 1, 0, 0, 1, 1, 1, 0] (bodyOf Try.f87)), .blk 2, .blk 1, .code (cp [1, 0, 1, 0, 0, 1, 1, 1] (bodyOf Try.f87)), .lp (cp [1, 0, 1, 0] (bodyOf Try.f87)), .blk 0, .code (cp [1, 1] (bodyOf Try.f87))] (FinX Try.prog Try.f87 [] (bl r) []) ⟨[(0, .sl false 4 t0.length ((ePl).f t0)), (3, .ptr 3 0), (6, .ptr 6 0), (11, .sl false 4 t11.length ((ePl).f t11)), (12, i64 t12), (13, i64 t13), (23, .sl false 4 t23.length ((ePl).f t23)), (24, i64 t24), (25, i64 a)], [(3, ⟨true, 0, [i64 b3_0, i64 b3_1, i64 b3_2, i64 b3_3]⟩), (6, ⟨true, 0, [i64 b6_0, i64 b6_1, i64 b6_2, i64 b6_3]⟩)]⟩) (_hrec0 : ∀ (a : Int) (r : Bool), rec0 a = some r → Wk Try.prog H Y 87 [.code (cp [1, 0, 1, 0] (bodyOf Try.f87)), .blk 0, .code (cp [1, 1] (bodyOf Try.f87))] (FinX Try.prog Try.f87 [] (bl r) []) ⟨[(0, .sl false 4 t0.length ((ePl).f t0)), (3, .ptr 3 0), (11, .sl false 4 t11.length ((ePl).f t11)), (12, i64 t12), (13, i64 a)], [(3, ⟨true, 0, [i64 b3_0, i64 b3_1, i64 b3_2, i64 b3_3]⟩)]⟩) (t25 : Int) (t36 : List Pl) (t37 b8_0 b8_1 b8_2 b8_3 : Int) : ∀ (m : Nat) (a : Int) (r : Bool), loopN (Dimpl_room_0 n rec1 rec0 t13 t23 t24 b6_0 b6_1 b6_2 b6_3 t0 t11 t12 b3_0 b3_1 b3_2 b3_3 t25 t36 t37 b8_0 b8_1 b8_2 b8_3) m a = some r → Wk Try.prog H Y 87 [.code (cp [1, 0, 1, 0, 0, 1, 1, 0, 0, 1, 1, 1, 0, 0, 1, 1, 0, 0, 1, 1, 1, 0] (bodyOf Try.f87)), .blk 4, .blk 3, .code (cp [1, 0, 1, 0, 0, 1, 1, 0, 0, 1, 1, 1, 0, 0, 1, 1, 1] (bodyOf Try.f87)), .lp (cp [1, 0, 1, 0, 0, 1, 1, 0, 0, 1, 1, 1, 0] (bodyOf Try.f87)), .blk 2, .blk 1, .code (cp [1, 0, 1, 0, 0, 1, 1, 1] (bodyOf Try.f87)), .lp (cp [1, 0, 1, 0] (bodyOf Try.f87)), .blk 0, .code (cp [1, 1] (bodyOf Try.f87))] (FinX Try.prog Try.f87 [] (bl r) []) ⟨[(0, .sl false 4 t0.length ((ePl).f t0)), (3, .ptr 3 0), (6, .ptr 6 0), (8, .ptr 8 0), (11, .sl false 4 t11.length ((ePl).f t11)), (12, i64 t12), (13, i64 t13), (23, .sl false 4 t23.length ((ePl).f t23)), (24, i64 t24), (25, i64 t25), (36, .sl false 4 t36.length ((ePl).f t36)), (37, i64 t37), (38, i64 a)], [(3, ⟨true, 0, [i64 b3_0, i64 b3_1, i64 b3_2, i64 b3_3]⟩), (6, ⟨true, 0, [i64 b6_0, i64 b6_1, i64 b6_2, i64 b6_3]⟩), (8, ⟨true, 0, [i64 b8_0, i64 b8_1, i64 b8_2, i64 b8_3]⟩)]⟩ := by
  refine loopN_ind (fun _rec2 hrec2 a r h => ?_)
  obtain ⟨t38, rfl⟩ : ∃ x, x = a := ⟨a, rfl⟩
  unfold Dimpl_room_0 at h
  refine x_frk 6 [] onil h (by kernel_rfl) (fun h => ?_) (fun h => ?_)
  · obtain ⟨v6, hv6, h⟩ := bind_some h
    obtain ⟨v7, hv7, h⟩ := bind_some h
    refine x_frk 18 [(0, .val (.cptr (ePl.c v6 ++ (ePl).f ((t36).drop (Int.toNat t38 + 1))))), (7, .call [] [] (bl v7) [])] (ocons (ix ePl hv6) (ocons (Timpl_clash4 (Y := Y) n v6 (Pl.mk b8_0 b8_1 b8_2 b8_3) (Pl.mk b6_0 b6_1 b6_2 b6_3) (Pl.mk b3_0 b3_1 b3_2 b3_3) _ hv7) onil)) h (by kernel_rfl) (fun h => ?_) (fun h => ?_)
    · replace h := Option.some.inj h; subst h
      exact x_end 4 [] [] onil onil (by kernel_rfl)
    · exact x_to 7 [] onil (hrec2 (w64 (t38 + 1)) r h) (by kernel_rfl)
  · exact x_to 7 [] onil (hrec1 (w64 (t25 + 1)) r h) (by kernel_rfl)
def Dimpl_room_1 (n : Nat) (rec0 : Int → Option Bool) (t0 : List Pl) (t11 : List Pl) (t12 b3_0 b3_1 b3_2 b3_3 t13 : Int) (t23 : List Pl) (t24 b6_0 b6_1 b6_2 b6_3 : Int) (rec1 : Int → Option Bool) (a : Int) : Option Bool :=
  match a with
  | t25 => frk (decide (t25 < t24)) ((lget t23 t25).bind fun v3 => (Dimpl_clash3 n v3 (Pl.mk b6_0 b6_1 b6_2 b6_3) (Pl.mk b3_0 b3_1 b3_2 b3_3)).bind fun v4 => frk v4 (some false) ((lsl t0 0 t25).bind fun v5 => loopN (Dimpl_room_0 n rec1 rec0 t13 t23 t24 b6_0 b6_1 b6_2 b6_3 t0 t11 t12 b3_0 b3_1 b3_2 b3_3 t25 v5 (v5.length : Int) v3.A v3.B v3.C v3.D) n 0)) (rec0 (w64 (t13 + 1)))
theorem Timpl_room_1 {Y} (n : Nat) (rec0 : Int → Option Bool) (t0 : List Pl) (t11 : List Pl) (t12 b3_0 b3_1 b3_2 b3_3 : Int) (hrec0 : ∀ (a : Int) (r : Bool), rec0 a = some r → Wk Try.prog H Y 87 [.code (cp [1, 0, 1, 0] (bodyOf Try.f87)), .blk 0, .code (cp [1, 1] (bodyOf Try.f87))] (FinX Try.prog Try.f87 [] (bl r) []) ⟨[(0, .sl false 4 t0.length ((ePl).f t0)), (3, .ptr 3 0), (11, .sl false 4 t11.length ((ePl).f t11)), (12, i64 t12), (13, i64 a)], [(3, ⟨true, 0, [i64 b3_0, i64 b3_1, i64 b3_2, i64 b3_3]⟩)]⟩) (t13 : Int) (t23 : List Pl) (t24 b6_0 b6_1 b6_2 b6_3 : Int) : ∀ (m : Nat) (a : Int) (r : Bool), loopN (Dimpl_room_1 n rec0 t0 t11 t12 b3_0 b3_1 b3_2 b3_3 t13 t23 t24 b6_0 b6_1 b6_2 b6_3) m a = some r → Wk Try.prog H Y 87 [.code (cp [1, 0, 1, 0, 0, 1, 1, 0, 0, 1, 1, 1, 0] (bodyOf Try.f87)), .blk 2, .blk 1, .code (cp [1, 0, 1, 0, 0, 1, 1, 1] (bodyOf Try.f87)), .lp (cp [1, 0, 1, 0] (bodyOf Try.f87)), .blk 0, .code (cp [1, 1] (bodyOf Try.f87))] (FinX Try.prog Try.f87 [] (bl r) []) ⟨[(0, .sl false 4 t0.length ((ePl).f t0)), (3, .ptr 3 0), (6, .ptr 6 0), (11, .sl false 4 t11.length ((ePl).f t11)), (12, i64 t12), (13, i64 t13), (23, .sl false 4 t23.length ((ePl).f t23)), (24, i64 t24), (25, i64 a)], [(3, ⟨true, 0, [i64 b3_0, i64 b3_1, i64 b3_2, i64 b3_3]⟩), (6, ⟨true, 0, [i64 b6_0, i64 b6_1, i64 b6_2, i64 b6_3]⟩)]⟩ := by
  refine loopN_ind (fun rec1 hrec1 a r h => ?_)
  obtain ⟨t25, rfl⟩ : ∃ x, x = a := ⟨a, rfl⟩
  unfold Dimpl_room_1 at h
  refine x_frk 6 [] onil h (by kernel_rfl) (fun h => ?_) (fun h => ?_)
  · obtain ⟨v3, hv3, h⟩ := bind_some h
    obtain ⟨v4, hv4, h⟩ := bind_some h
    refine x_frk 20 [(1, .val (.cptr (ePl.c v3 ++ (ePl).f ((t23).drop (Int.toNat t25 + 1))))), (7, .call [] [] (bl v4) [])] (ocons (ix ePl hv3) (ocons (Timpl_clash3 (Y := Y) n v3 (Pl.mk b6_0 b6_1 b6_2 b6_3) (Pl.mk b3_0 b3_1 b3_2 b3_3) _ hv4) onil)) h (by kernel_rfl) (fun h => ?_) (fun h => ?_)
    · replace h := Option.some.inj h; subst h
      exact x_end 4 [] [] onil onil (by kernel_rfl)
    · obtain ⟨v5, hv5, h⟩ := bind_some h
      exact x_to 10 [(2, .val (.sl false 4 v5.length ((ePl).f v5)))] (ocons (slF ePl hv5) onil) (Timpl_room_0 n rec1 rec0 t13 t23 t24 b6_0 b6_1 b6_2 b6_3 t0 t11 t12 b3_0 b3_1 b3_2 b3_3 hrec1 hrec0 t25 v5 (v5.length : Int) v3.A v3.B v3.C v3.D n 0 r h) (by kernel_rfl)
  · exact x_to 7 [] onil (hrec0 (w64 (t13 + 1)) r h) (by kernel_rfl)
def Dimpl_room_2 (n : Nat) (t0 : List Pl) (t11 : List Pl) (t12 b3_0 b3_1 b3_2 b3_3 : Int) (rec0 : Int → Option Bool) (a : Int) : Option Bool :=
  match a with
  | t13 => frk (decide (t13 < t12)) ((lget t11 t13).bind fun v0 => (Dimpl_clash2 n v0 (Pl.mk b3_0 b3_1 b3_2 b3_3)).bind fun v1 => frk v1 (some false) ((lsl t0 0 t13).bind fun v2 => loopN (Dimpl_room_1 n rec0 t0 t11 t12 b3_0 b3_1 b3_2 b3_3 t13 v2 (v2.length : Int) v0.A v0.B v0.C v0.D) n 0)) (some true)
theorem Timpl_room_2 {Y} (n : Nat) (t0 : List Pl) (t11 : List Pl) (t12 b3_0 b3_1 b3_2 b3_3 : Int) : ∀ (m : Nat) (a : Int) (r : Bool), loopN (Dimpl_room_2 n t0 t11 t12 b3_0 b3_1 b3_2 b3_3) m a = some r → Wk Try.prog H Y 87 [.code (cp [1, 0, 1, 0] (bodyOf Try.f87)), .blk 0, .code (cp [1, 1] (bodyOf Try.f87))] (FinX Try.prog Try.f87 [] (bl r) []) ⟨[(0, .sl false 4 t0.length ((ePl).f t0)), (3, .ptr 3 0), (11, .sl false 4 t11.length ((ePl).f t11)), (12, i64 t12), (13, i64 a)], [(3, ⟨true, 0, [i64 b3_0, i64 b3_1, i64 b3_2, i64 b3_3]⟩)]⟩ := by
  refine loopN_ind (fun rec0 hrec0 a r h => ?_)
  obtain ⟨t13, rfl⟩ : ∃ x, x = a := ⟨a, rfl⟩
  unfold Dimpl_room_2 at h
  refine x_frk 6 [] onil h (by kernel_rfl) (fun h => ?_) (fun h => ?_)
  · obtain ⟨v0, hv0, h⟩ := bind_some h
    obtain ⟨v1, hv1, h⟩ := bind_some h
    refine x_frk 19 [(1, .val (.cptr (ePl.c v0 ++ (ePl).f ((t11).drop (Int.toNat t13 + 1))))), (6, .call [] [] (bl v1) [])] (ocons (ix ePl hv0) (ocons (Timpl_clash2 (Y := Y) n v0 (Pl.mk b3_0 b3_1 b3_2 b3_3) _ hv1) onil)) h (by kernel_rfl) (fun h => ?_) (fun h => ?_)
    · replace h := Option.some.inj h; subst h
      exact x_end 4 [] [] onil onil (by kernel_rfl)
    · obtain ⟨v2, hv2, h⟩ := bind_some h
      exact x_to 10 [(2, .val (.sl false 4 v2.length ((ePl).f v2)))] (ocons (slF ePl hv2) onil) (Timpl_room_1 n rec0 t0 t11 t12 b3_0 b3_1 b3_2 b3_3 hrec0 t13 v2 (v2.length : Int) v0.A v0.B v0.C v0.D n 0 r h) (by kernel_rfl)
  · replace h := Option.some.inj h; subst h
    exact x_end 5 [] [] onil onil (by kernel_rfl)
def Dimpl_room (n : Nat) (a0 : (List Pl)) (a1 : Pl) : Option Bool :=
  loopN (Dimpl_room_2 n a0 a0 (a0.length : Int) a1.A a1.B a1.C a1.D) n 0
theorem Timpl_room {Y} (n : Nat) (a0 : (List Pl)) (a1 : Pl) (r : Bool) (h : Dimpl_room n a0 a1 = some r) : Big Try.prog H Y (.call 87 [.sl false 4 a0.length ((ePl).f a0), .agg [i64 a1.A, i64 a1.B, i64 a1.C, i64 a1.D]] (lk []) (bl r) (lk [])) := by
  unfold Dimpl_room at h
  refine x_call (fn := Try.f87) (c := bodyOf Try.f87) (bs0 := []) Try.func87 (by kernel_rfl) (by kernel_rfl) ?_
  exact x_to 13 [] onil (Timpl_room_2 n a0 a0 (a0.length : Int) a1.A a1.B a1.C a1.D n 0 r h) (by kernel_rfl)
/-! impl.with -/
def Dimpl_with (a0 : (List Pl)) (a1 : Pl) : Option (List Pl) :=
  chk (apB 32 (0 + a0.length)) (chk (apB 32 (([] ++ a0).length + 1)) (some (([] ++ a0) ++ [a1])))
theorem Timpl_with {Y} (a0 : (List Pl)) (a1 : Pl) (r : (List Pl)) (h : Dimpl_with a0 a1 = some r) : Big Try.prog H Y (.call 68 [.sl false 4 a0.length ((ePl).f a0), .agg [i64 a1.A, i64 a1.B, i64 a1.C, i64 a1.D]] (lk []) (.sl true 4 r.length ((ePl).f r)) (lk [])) := by
  unfold Dimpl_with at h
  refine x_call (fn := Try.f68) (c := bodyOf Try.f68) (bs0 := []) Try.func68 (by kernel_rfl) (by kernel_rfl) ?_
  obtain ⟨c0, h⟩ := chk_some h
  obtain ⟨c1, h⟩ := chk_some h
  replace h := Option.some.inj h; subst h
  exact x_end 15 [(4, .app false (List.length ([] ++ a0)) ((ePl).f ([] ++ a0))), (2, .app false (List.length (([] ++ a0) ++ [a1])) ((ePl).f (([] ++ a0) ++ [a1])))] [] (ocons (len_row' (L := []) ePl) (ocons (app_one (L := []) (M := a0) ePl c0) (ocons (app_new (L := []) (M := a0) ePl) (ocons (app_m (L := []) (M := a0) ePl rfl) (ocons (len_row' (L := a0) ePl) (ocons (len_row' (L := ([] ++ a0)) ePl) (ocons (app_one (L := ([] ++ a0)) (M := [a1]) ePl c1) (ocons (app_new (L := ([] ++ a0)) (M := [a1]) ePl) (ocons (app_m (L := ([] ++ a0)) (M := [a1]) ePl rfl) (ocons (len_row' (L := [a1]) ePl) (ocons (Enc.noOwn ePl (fun _ => rfl) [a1]) onil))))))))))) (ocons (len_row (L := (([] ++ a0) ++ [a1])) ePl) onil) (by kernel_rfl)
/-! impl.checker).right -/
def Dimpl_checker_right_1 (_n : Nat) (self : (Int × Sol × (List Pl)) → Option (Bool × Int)) (t2 : List Pl) (t59 _b4_0 : Bool) (b4_1 b4_2 b4_3 b4_4 : Int) (b4_5 : List Sol) (b7_0 b7_1 b7_2 b7_3 b1000_0 : Int) : Option (Bool × Int) :=
  frk t59 (some (false, b1000_0)) ((lget b4_5 0).bind fun v5 => (Dimpl_with t2 (Pl.mk b4_1 b4_2 b4_3 b4_4)).bind fun v6 => (self (b1000_0, v5, v6)).bind fun v7 => frk v7.1 ((lget b4_5 1).bind fun v8 => (Dimpl_with t2 (Pl.mk b7_0 b7_1 b7_2 b7_3)).bind fun v9 => (self (v7.2, v8, v9)).bind fun v10 => some v10) (some (false, v7.2)))
theorem Timpl_checker_right_1 {Y} (n : Nat) (self : (Int × Sol × (List Pl)) → Option (Bool × Int)) (hself : ∀ (a : (Int × Sol × (List Pl))) (r : (Bool × Int)), self a = some r → Big Try.prog H Y (.call 54 [.ptr 1000 0, .agg [bl a.2.1.inn, i64 a.2.1.pl.A, i64 a.2.1.pl.B, i64 a.2.1.pl.C, i64 a.2.1.pl.D, .sl false 6 a.2.1.kids.length ((eSol false).f a.2.1.kids)], .sl false 4 a.2.2.length ((ePl).f a.2.2)] (lk [(1000, ⟨true, 0, [i64 a.1]⟩)]) (bl r.1) (lk [(1000, ⟨true, 0, [i64 r.2]⟩)]))) (t2 : List Pl) (t59 b4_0 : Bool) (b4_1 b4_2 b4_3 b4_4 : Int) (b4_5 : List Sol) (b7_0 b7_1 b7_2 b7_3 b1000_0 : Int) (r : (Bool × Int)) (h : Dimpl_checker_right_1 n self t2 t59 b4_0 b4_1 b4_2 b4_3 b4_4 b4_5 b7_0 b7_1 b7_2 b7_3 b1000_0 = some r) : Wk Try.prog H Y 54 [.code (cp [1, 1, 1, 1, 1, 0, 1] (bodyOf Try.f54)), .code (cp [1, 1, 1, 1, 1, 1] (bodyOf Try.f54))] (FinX Try.prog Try.f54 [(1000, ⟨true, 0, [.bad]⟩)] (bl r.1) [(1000, ⟨true, 0, [i64 r.2]⟩)]) ⟨[(0, .ptr 1000 0), (2, .sl false 4 t2.length ((ePl).f t2)), (4, .ptr 4 0), (7, .ptr 7 0), (59, bl t59)], [(4, ⟨true, 0, [bl b4_0, i64 b4_1, i64 b4_2, i64 b4_3, i64 b4_4, .sl false 6 b4_5.length ((eSol false).f b4_5)]⟩), (7, ⟨true, 0, [i64 b7_0, i64 b7_1, i64 b7_2, i64 b7_3]⟩), (1000, ⟨true, 0, [i64 b1000_0]⟩)]⟩ := by
  unfold Dimpl_checker_right_1 at h
  refine x_frk 0 [] onil h (by kernel_rfl) (fun h => ?_) (fun h => ?_)
  · replace h := Option.some.inj h; subst h
    exact x_end 4 [] [] onil onil (by kernel_rfl)
  · obtain ⟨v5, hv5, h⟩ := bind_some h
    obtain ⟨v6, hv6, h⟩ := bind_some h
    obtain ⟨v7, hv7, h⟩ := bind_some h
    refine x_frk 14 [(3, .val (.cptr ((eSol false).c v5 ++ (eSol false).f ((b4_5).drop (Int.toNat 0 + 1))))), (4, .call [] [] (.sl false 4 v6.length ((ePl).f v6)) []), (0, .call [] [] (bl v7.1) [(1000, ⟨true, 0, [i64 v7.2]⟩)])] (ocons (ix (eSol false) hv5) (ocons (shSl (L := v6) ePl ePl sPl (Timpl_with (Y := Y) t2 (Pl.mk b4_1 b4_2 b4_3 b4_4) _ hv6)) (ocons (hself (b1000_0, v5, v6) _ hv7) onil))) h (by kernel_rfl) (fun h => ?_) (fun h => ?_)
    · obtain ⟨v8, hv8, h⟩ := bind_some h
      obtain ⟨v9, hv9, h⟩ := bind_some h
      obtain ⟨v10, hv10, h⟩ := bind_some h
      replace h := Option.some.inj h; subst h
      exact x_end 12 [(3, .val (.cptr ((eSol false).c v8 ++ (eSol false).f ((b4_5).drop (Int.toNat 1 + 1))))), (3, .call [] [] (.sl false 4 v9.length ((ePl).f v9)) []), (0, .call [] [] (bl v10.1) [(1000, ⟨true, 0, [i64 v10.2]⟩)])] [] (ocons (ix (eSol false) hv8) (ocons (shSl (L := v9) ePl ePl sPl (Timpl_with (Y := Y) t2 (Pl.mk b7_0 b7_1 b7_2 b7_3) _ hv9)) (ocons (hself (v7.2, v8, v9) _ hv10) onil))) onil (by kernel_rfl)
    · replace h := Option.some.inj h; subst h
      exact x_end 12 [] [] onil onil (by kernel_rfl)
def Dimpl_checker_right_0 (n : Nat) (self : (Int × Sol × (List Pl)) → Option (Bool × Int)) (t2 : List Pl) (t45 b4_0 : Bool) (b4_1 b4_2 b4_3 b4_4 : Int) (b4_5 : List Sol) (b1000_0 : Int) : Option (Bool × Int) :=
  frk t45 (some (false, b1000_0)) ((Dimpl_flip (Pl.mk b4_1 b4_2 b4_3 b4_4)).bind fun v2 => (Dimpl_room n t2 (Pl.mk b4_1 b4_2 b4_3 b4_4)).bind fun v3 => frk (!v3) (some (false, b1000_0)) ((Dimpl_room n t2 v2).bind fun v4 => Dimpl_checker_right_1 n self t2 (!v4) b4_0 b4_1 b4_2 b4_3 b4_4 b4_5 v2.A v2.B v2.C v2.D b1000_0))
theorem Timpl_checker_right_0 {Y} (n : Nat) (self : (Int × Sol × (List Pl)) → Option (Bool × Int)) (hself : ∀ (a : (Int × Sol × (List Pl))) (r : (Bool × Int)), self a = some r → Big Try.prog H Y (.call 54 [.ptr 1000 0, .agg [bl a.2.1.inn, i64 a.2.1.pl.A, i64 a.2.1.pl.B, i64 a.2.1.pl.C, i64 a.2.1.pl.D, .sl false 6 a.2.1.kids.length ((eSol false).f a.2.1.kids)], .sl false 4 a.2.2.length ((ePl).f a.2.2)] (lk [(1000, ⟨true, 0, [i64 a.1]⟩)]) (bl r.1) (lk [(1000, ⟨true, 0, [i64 r.2]⟩)]))) (t2 : List Pl) (t45 b4_0 : Bool) (b4_1 b4_2 b4_3 b4_4 : Int) (b4_5 : List Sol) (b1000_0 : Int) (r : (Bool × Int)) (h : Dimpl_checker_right_0 n self t2 t45 b4_0 b4_1 b4_2 b4_3 b4_4 b4_5 b1000_0 = some r) : Wk Try.prog H Y 54 [.code (cp [1, 1, 1, 0, 1] (bodyOf Try.f54)), .code (cp [1, 1, 1, 1] (bodyOf Try.f54))] (FinX Try.prog Try.f54 [(1000, ⟨true, 0, [.bad]⟩)] (bl r.1) [(1000, ⟨true, 0, [i64 r.2]⟩)]) ⟨[(0, .ptr 1000 0), (2, .sl false 4 t2.length ((ePl).f t2)), (4, .ptr 4 0), (45, bl t45)], [(4, ⟨true, 0, [bl b4_0, i64 b4_1, i64 b4_2, i64 b4_3, i64 b4_4, .sl false 6 b4_5.length ((eSol false).f b4_5)]⟩), (1000, ⟨true, 0, [i64 b1000_0]⟩)]⟩ := by
  unfold Dimpl_checker_right_0 at h
  refine x_frk 0 [] onil h (by kernel_rfl) (fun h => ?_) (fun h => ?_)
  · replace h := Option.some.inj h; subst h
    exact x_end 4 [] [] onil onil (by kernel_rfl)
  · obtain ⟨v2, hv2, h⟩ := bind_some h
    obtain ⟨v3, hv3, h⟩ := bind_some h
    refine x_frk 18 [(2, .call [] [] (.agg [i64 v2.A, i64 v2.B, i64 v2.C, i64 v2.D]) []), (5, .call [] [] (bl v3) [])] (ocons (Timpl_flip (Y := Y) (Pl.mk b4_1 b4_2 b4_3 b4_4) _ hv2) (ocons (Timpl_room (Y := Y) n t2 (Pl.mk b4_1 b4_2 b4_3 b4_4) _ hv3) onil)) h (by kernel_rfl) (fun h => ?_) (fun h => ?_)
    · replace h := Option.some.inj h; subst h
      exact x_end 11 [] [] onil onil (by kernel_rfl)
    · obtain ⟨v4, hv4, h⟩ := bind_some h
      exact x_to 6 [(2, .call [] [] (bl v4) [])] (ocons (Timpl_room (Y := Y) n t2 v2 _ hv4) onil) (Timpl_checker_right_1 n self hself t2 (!v4) b4_0 b4_1 b4_2 b4_3 b4_4 b4_5 v2.A v2.B v2.C v2.D b1000_0 r h) (by kernel_rfl)
def Dimpl_checker_right_b (n : Nat) (self : (Int × Sol × (List Pl)) → Option (Bool × Int)) (a : (Int × Sol × (List Pl))) : Option (Bool × Int) :=
  match a with
  | (a0, a1, a2) => (Dimpl_Solid_isLeaf a1).bind fun v0 => frk v0 (some ((a1.pl.A == 0 && (a1.pl.B == 0 && (a1.pl.C == 0 && (a1.pl.D == 0 && true)))), a0)) (frk a1.inn (some (false, w64 (a0 + 1))) (frk ((a1.kids.length : Int) != 2) (some (false, w64 (a0 + 1))) (frk (decide ((w64 (a0 + 1)) > 300)) (some (false, w64 (a0 + 1))) (frk (decide ((a2.length : Int) ≥ 24)) (some (false, w64 (a0 + 1))) ((Dimpl_PlaneOk n a1.pl).bind fun v1 => Dimpl_checker_right_0 n self a2 (!v1) a1.inn a1.pl.A a1.pl.B a1.pl.C a1.pl.D a1.kids (w64 (a0 + 1)))))))
def Dimpl_checker_right (n : Nat) (a0 : Int) (a1 : Sol) (a2 : (List Pl)) : Option (Bool × Int) := loopN (Dimpl_checker_right_b n) n (a0, a1, a2)
theorem Timpl_checker_right_b {Y} (n : Nat) : ∀ (m : Nat) (a : (Int × Sol × (List Pl))) (r : (Bool × Int)), loopN (Dimpl_checker_right_b n) m a = some r → ∀ (_ : Unit), Big Try.prog H Y (.call 54 [.ptr 1000 0, .agg [bl a.2.1.inn, i64 a.2.1.pl.A, i64 a.2.1.pl.B, i64 a.2.1.pl.C, i64 a.2.1.pl.D, .sl false 6 a.2.1.kids.length ((eSol false).f a.2.1.kids)], .sl false 4 a.2.2.length ((ePl).f a.2.2)] (lk [(1000, ⟨true, 0, [i64 a.1]⟩)]) (bl r.1) (lk [(1000, ⟨true, 0, [i64 r.2]⟩)])) := by
  refine loopN_ind (fun self hs a r h => ?_)
  have hself : ∀ (a : (Int × Sol × (List Pl))) (r : (Bool × Int)), self a = some r → Big Try.prog H Y (.call 54 [.ptr 1000 0, .agg [bl a.2.1.inn, i64 a.2.1.pl.A, i64 a.2.1.pl.B, i64 a.2.1.pl.C, i64 a.2.1.pl.D, .sl false 6 a.2.1.kids.length ((eSol false).f a.2.1.kids)], .sl false 4 a.2.2.length ((ePl).f a.2.2)] (lk [(1000, ⟨true, 0, [i64 a.1]⟩)]) (bl r.1) (lk [(1000, ⟨true, 0, [i64 r.2]⟩)])) := fun a r h => hs a r h ()
  intro _
  obtain ⟨a0, a1, a2⟩ := a
  unfold Dimpl_checker_right_b at h
  refine x_call (fn := Try.f54) (c := bodyOf Try.f54) (bs0 := [(1000, ⟨true, 0, [.bad]⟩)]) Try.func54 (by kernel_rfl) (by kernel_rfl) ?_
  obtain ⟨v0, hv0, h⟩ := bind_some h
  refine x_frk 10 [(2, .call [] [] (bl v0) [])] (ocons (Timpl_Solid_isLeaf (Y := Y) a1 [] _ hv0) onil) h (by kernel_rfl) (fun h => ?_) (fun h => ?_)
  · replace h := Option.some.inj h; subst h
    exact x_end 8 [] [] onil onil (by kernel_rfl)
  · refine x_frk 18 [] onil h (by kernel_rfl) (fun h => ?_) (fun h => ?_)
    · replace h := Option.some.inj h; subst h
      exact x_end 29 [] [] onil onil (by kernel_rfl)
    · refine x_frk 6 [] onil h (by kernel_rfl) (fun h => ?_) (fun h => ?_)
      · replace h := Option.some.inj h; subst h
        exact x_end 23 [] [] onil onil (by kernel_rfl)
      · refine x_frk 7 [] onil h (by kernel_rfl) (fun h => ?_) (fun h => ?_)
        · replace h := Option.some.inj h; subst h
          exact x_end 16 [] [] onil onil (by kernel_rfl)
        · refine x_frk 5 [] onil h (by kernel_rfl) (fun h => ?_) (fun h => ?_)
          · replace h := Option.some.inj h; subst h
            exact x_end 11 [] [] onil onil (by kernel_rfl)
          · obtain ⟨v1, hv1, h⟩ := bind_some h
            exact x_to 6 [(2, .call [] [] (bl v1) [])] (ocons (Timpl_PlaneOk (Y := Y) n a1.pl _ hv1) onil) (Timpl_checker_right_0 n self hself a2 (!v1) a1.inn a1.pl.A a1.pl.B a1.pl.C a1.pl.D a1.kids (w64 (a0 + 1)) r h) (by kernel_rfl)
theorem Timpl_checker_right {Y} (n : Nat) (a0 : Int) (a1 : Sol) (a2 : (List Pl)) (r : (Bool × Int)) (h : Dimpl_checker_right n a0 a1 a2 = some r) : Big Try.prog H Y (.call 54 [.ptr 1000 0, .agg [bl a1.inn, i64 a1.pl.A, i64 a1.pl.B, i64 a1.pl.C, i64 a1.pl.D, .sl false 6 a1.kids.length ((eSol false).f a1.kids)], .sl false 4 a2.length ((ePl).f a2)] (lk [(1000, ⟨true, 0, [i64 a0]⟩)]) (bl r.1) (lk [(1000, ⟨true, 0, [i64 r.2]⟩)])) := Timpl_checker_right_b n n (a0, a1, a2) r h ()
/-! impl.SolidOk -/
def Dimpl_SolidOk (n : Nat) (a0 : Sol) : Option Bool :=
  (Dimpl_checker_right n 0 a0 []).bind fun v0 => some v0.1
theorem Timpl_SolidOk {Y} (n : Nat) (a0 : Sol) (r : Bool) (h : Dimpl_SolidOk n a0 = some r) : Big Try.prog H Y (.call 27 [.agg [bl a0.inn, i64 a0.pl.A, i64 a0.pl.B, i64 a0.pl.C, i64 a0.pl.D, .sl false 6 a0.kids.length ((eSol false).f a0.kids)]] (lk []) (bl r) (lk [])) := by
  unfold Dimpl_SolidOk at h
  refine x_call (fn := Try.f27) (c := bodyOf Try.f27) (bs0 := []) Try.func27 (by kernel_rfl) (by kernel_rfl) ?_
  obtain ⟨v0, hv0, h⟩ := bind_some h
  replace h := Option.some.inj h; subst h
  exact x_end 15 [(4, .call [(false, 4)] [] (bl v0.1) [(1000, ⟨true, 0, [i64 v0.2]⟩)])] [] (ocons (Timpl_checker_right (Y := Y) n 0 a0 [] _ hv0) onil) onil (by kernel_rfl)
/-! impl.Plane] -/
def Dslices_Clone (a0 : (List Pl)) : Option (List Pl) :=
  chk (apB 32 (0 + a0.length)) (some ([] ++ a0))
theorem Tslices_Clone {Y} (a0 : (List Pl)) (r : (List Pl)) (h : Dslices_Clone a0 = some r) : Big Try.prog H Y (.call 67 [.sl false 4 a0.length ((ePl).f a0)] (lk []) (.sl true 4 r.length ((ePl).f r)) (lk [])) := by
  unfold Dslices_Clone at h
  refine x_clone (fn := Try.f67) (c := bodyOf Try.f67) 0 3 4 (lq := ⟨[(2, .nil), (0, .sl false 4 a0.length ((ePl).f a0))], []⟩) (z := 4) (ct := a0.length) (cs := (ePl).f a0) Try.func67 (by kernel_rfl) (by kernel_rfl) (x_at 3 (by kernel_rfl)) (fun b hb => ?_)
  cases b
  · obtain ⟨c0, h⟩ := chk_some h
    replace h := Option.some.inj h; subst h
    exact x_end 9 [(2, .app false (List.length ([] ++ a0)) ((ePl).f ([] ++ a0)))] [] (ocons (len_row' (L := []) ePl) (ocons (app_one (L := []) (M := a0) ePl c0) (ocons (app_new (L := []) (M := a0) ePl) (ocons (app_m (L := []) (M := a0) ePl rfl) (ocons (len_row' (L := a0) ePl) onil))))) (ocons (len_row (L := ([] ++ a0)) ePl) onil) (by kernel_rfl)
  · have h0 : a0 = [] := List.eq_nil_of_length_eq_zero (hb rfl)
    subst h0
    replace h : some [] = some r := h
    replace h := Option.some.inj h; subst h
    exact x_end 5 [] [(true, 4)] onil onil (by kernel_rfl)
/-! impl.Solid).cells -/
def Dimpl_Solid_cells_b (_n : Nat) (self : (Sol × Bool × (List Pl)) → Option (List (List Pl))) (a : (Sol × Bool × (List Pl))) : Option (List (List Pl)) :=
  match a with
  | (a0, a1, a2) => (Dimpl_Solid_isLeaf a0).bind fun v0 => frk v0 (frk (a0.inn == a1) ((Dslices_Clone a2).bind fun v1 => some [v1]) (some [])) ((lget a0.kids 0).bind fun v2 => (Dimpl_with a2 a0.pl).bind fun v3 => (self (v2, a1, v3)).bind fun v4 => (lget a0.kids 1).bind fun v5 => (Dimpl_flip a0.pl).bind fun v6 => (Dimpl_with a2 v6).bind fun v7 => (self (v5, a1, v7)).bind fun v8 => chk (apB 24 (v4.length + v8.length)) (some (v4 ++ v8)))
def Dimpl_Solid_cells (n : Nat) (a0 : Sol) (a1 : Bool) (a2 : (List Pl)) : Option (List (List Pl)) := loopN (Dimpl_Solid_cells_b n) n (a0, a1, a2)
theorem Timpl_Solid_cells_b {Y} (n : Nat) : ∀ (m : Nat) (a : (Sol × Bool × (List Pl))) (r : (List (List Pl))), loopN (Dimpl_Solid_cells_b n) m a = some r → ∀ (q0 : List AV), Big Try.prog H Y (.call 36 [.cptr ([bl a.1.inn, i64 a.1.pl.A, i64 a.1.pl.B, i64 a.1.pl.C, i64 a.1.pl.D, .sl false 6 a.1.kids.length ((eSol false).f a.1.kids)] ++ q0), bl a.2.1, .sl false 4 a.2.2.length ((ePl).f a.2.2)] (lk []) (.sl true 1 r.length ((ePls true).f r)) (lk [])) := by
  refine loopN_ind (fun self hs a r h => ?_)
  have hself : ∀ (a : (Sol × Bool × (List Pl))) (q0 : List AV) (r : (List (List Pl))), self a = some r → Big Try.prog H Y (.call 36 [.cptr ([bl a.1.inn, i64 a.1.pl.A, i64 a.1.pl.B, i64 a.1.pl.C, i64 a.1.pl.D, .sl false 6 a.1.kids.length ((eSol false).f a.1.kids)] ++ q0), bl a.2.1, .sl false 4 a.2.2.length ((ePl).f a.2.2)] (lk []) (.sl true 1 r.length ((ePls true).f r)) (lk [])) := fun a q0 r h => hs a r h q0
  intro q0
  obtain ⟨a0, a1, a2⟩ := a
  unfold Dimpl_Solid_cells_b at h
  refine x_call (fn := Try.f36) (c := bodyOf Try.f36) (bs0 := []) Try.func36 (by kernel_rfl) (by kernel_rfl) ?_
  obtain ⟨v0, hv0, h⟩ := bind_some h
  refine x_frk 10 [(2, .call [] [] (bl v0) [])] (ocons (Timpl_Solid_isLeaf (Y := Y) a0 q0 _ hv0) onil) h (by kernel_rfl) (fun h => ?_) (fun h => ?_)
  · refine x_frk 10 [] onil h (by kernel_rfl) (fun h => ?_) (fun h => ?_)
    · obtain ⟨v1, hv1, h⟩ := bind_some h
      replace h := Option.some.inj h; subst h
      exact x_end 7 [(1, .call [] [] (.sl true 4 v1.length ((ePl).f v1)) [])] [] (ocons (Tslices_Clone (Y := Y) a2 _ hv1) (ocons (len_row (L := v1) ePl) onil)) (ocons (len_row (L := [v1]) (ePls true)) onil) (by kernel_rfl)
    · replace h := Option.some.inj h; subst h
      exact x_end 5 [] [(true, 1)] onil onil (by kernel_rfl)
  · obtain ⟨v2, hv2, h⟩ := bind_some h
    obtain ⟨v3, hv3, h⟩ := bind_some h
    obtain ⟨v4, hv4, h⟩ := bind_some h
    obtain ⟨v5, hv5, h⟩ := bind_some h
    obtain ⟨v6, hv6, h⟩ := bind_some h
    obtain ⟨v7, hv7, h⟩ := bind_some h
    obtain ⟨v8, hv8, h⟩ := bind_some h
    obtain ⟨c9, h⟩ := chk_some h
    replace h := Option.some.inj h; subst h
    exact x_end 38 [(4, .val (.cptr ((eSol false).c v2 ++ (eSol false).f ((a0.kids).drop (Int.toNat 0 + 1))))), (6, .call [] [] (.sl false 4 v3.length ((ePl).f v3)) []), (0, .call [] [] (.sl true 1 v4.length ((ePls true).f v4)) []), (6, .val (.cptr ((eSol false).c v5 ++ (eSol false).f ((a0.kids).drop (Int.toNat 1 + 1))))), (6, .call [] [] (.agg [i64 v6.A, i64 v6.B, i64 v6.C, i64 v6.D]) []), (0, .call [] [] (.sl false 4 v7.length ((ePl).f v7)) []), (0, .call [] [] (.sl true 1 v8.length ((ePls true).f v8)) []), (0, .app true (List.length (v4 ++ v8)) ((ePls true).f (v4 ++ v8)))] [] (ocons (ix (eSol false) hv2) (ocons (shSl (L := v3) ePl ePl sPl (Timpl_with (Y := Y) a2 a0.pl _ hv3)) (ocons (hself (v2, a1, v3) ((eSol false).f ((a0.kids).drop (Int.toNat 0 + 1))) _ hv4) (ocons (ix (eSol false) hv5) (ocons (Timpl_flip (Y := Y) a0.pl _ hv6) (ocons (shSl (L := v7) ePl ePl sPl (Timpl_with (Y := Y) a2 v6 _ hv7)) (ocons (hself (v5, a1, v7) ((eSol false).f ((a0.kids).drop (Int.toNat 1 + 1))) _ hv8) (ocons (len_row' (L := v4) (ePls true)) (ocons (app_one (L := v4) (M := v8) (ePls true) c9) (ocons (app_new (L := v4) (M := v8) (ePls true)) (ocons (app_m (L := v4) (M := v8) (ePls true) rfl) (ocons (len_row' (L := v8) (ePls true)) onil)))))))))))) (ocons (len_row (L := (v4 ++ v8)) (ePls true)) onil) (by kernel_rfl)
theorem Timpl_Solid_cells {Y} (n : Nat) (a0 : Sol) (a1 : Bool) (a2 : (List Pl)) (q0 : List AV) (r : (List (List Pl))) (h : Dimpl_Solid_cells n a0 a1 a2 = some r) : Big Try.prog H Y (.call 36 [.cptr ([bl a0.inn, i64 a0.pl.A, i64 a0.pl.B, i64 a0.pl.C, i64 a0.pl.D, .sl false 6 a0.kids.length ((eSol false).f a0.kids)] ++ q0), bl a1, .sl false 4 a2.length ((ePl).f a2)] (lk []) (.sl true 1 r.length ((ePls true).f r)) (lk [])) := Timpl_Solid_cells_b n n (a0, a1, a2) r h q0
/-! impl.Plane] -/
def Dslices_Index_0 (_n : Nat) (t0 : List Pl) (t7 b3_0 b3_1 b3_2 b3_3 : Int) (rec0 : Int → Option Int) (a : Int) : Option Int :=
  match a with
  | t8 => frk (decide (t8 < t7)) ((lget t0 t8).bind fun v0 => frk (b3_0 == v0.A && (b3_1 == v0.B && (b3_2 == v0.C && (b3_3 == v0.D && true)))) (some t8) (rec0 (w64 (t8 + 1)))) (some (-1))
theorem Tslices_Index_0 {Y} (n : Nat) (t0 : List Pl) (t7 b3_0 b3_1 b3_2 b3_3 : Int) : ∀ (m : Nat) (a r : Int), loopN (Dslices_Index_0 n t0 t7 b3_0 b3_1 b3_2 b3_3) m a = some r → Wk Try.prog H Y 86 [.code (cp [1, 0, 1, 0] (bodyOf Try.f86)), .blk 0, .code (cp [1, 1] (bodyOf Try.f86))] (FinX Try.prog Try.f86 [] (i64 r) []) ⟨[(0, .sl false 4 t0.length ((ePl).f t0)), (3, .ptr 3 0), (7, i64 t7), (8, i64 a)], [(3, ⟨true, 0, [i64 b3_0, i64 b3_1, i64 b3_2, i64 b3_3]⟩)]⟩ := by
  refine loopN_ind (fun _rec0 hrec0 a r h => ?_)
  obtain ⟨t8, rfl⟩ : ∃ x, x = a := ⟨a, rfl⟩
  unfold Dslices_Index_0 at h
  refine x_frk 6 [] onil h (by kernel_rfl) (fun h => ?_) (fun h => ?_)
  · obtain ⟨v0, hv0, h⟩ := bind_some h
    refine x_frk 17 [(5, .val (.cptr (ePl.c v0 ++ (ePl).f ((t0).drop (Int.toNat t8 + 1)))))] (ocons (ix ePl hv0) onil) h (by kernel_rfl) (fun h => ?_) (fun h => ?_)
    · replace h := Option.some.inj h; subst h
      exact x_end 5 [] [] onil onil (by kernel_rfl)
    · exact x_to 7 [] onil (hrec0 (w64 (t8 + 1)) r h) (by kernel_rfl)
  · replace h := Option.some.inj h; subst h
    exact x_end 5 [] [] onil onil (by kernel_rfl)
def Dslices_Index (n : Nat) (a0 : (List Pl)) (a1 : Pl) : Option Int :=
  loopN (Dslices_Index_0 n a0 (a0.length : Int) a1.A a1.B a1.C a1.D) n 0
theorem Tslices_Index {Y} (n : Nat) (a0 : (List Pl)) (a1 : Pl) (r : Int) (h : Dslices_Index n a0 a1 = some r) : Big Try.prog H Y (.call 86 [.sl false 4 a0.length ((ePl).f a0), .agg [i64 a1.A, i64 a1.B, i64 a1.C, i64 a1.D]] (lk []) (i64 r) (lk [])) := by
  unfold Dslices_Index at h
  refine x_call (fn := Try.f86) (c := bodyOf Try.f86) (bs0 := []) Try.func86 (by kernel_rfl) (by kernel_rfl) ?_
  exact x_to 13 [] onil (Tslices_Index_0 n a0 (a0.length : Int) a1.A a1.B a1.C a1.D n 0 r h) (by kernel_rfl)
/-! impl.Plane] -/
def Dslices_Contains (n : Nat) (a0 : (List Pl)) (a1 : Pl) : Option Bool :=
  (Dslices_Index n a0 a1).bind fun v0 => some (decide (v0 ≥ 0))
theorem Tslices_Contains {Y} (n : Nat) (a0 : (List Pl)) (a1 : Pl) (r : Bool) (h : Dslices_Contains n a0 a1 = some r) : Big Try.prog H Y (.call 70 [.sl false 4 a0.length ((ePl).f a0), .agg [i64 a1.A, i64 a1.B, i64 a1.C, i64 a1.D]] (lk []) (bl r) (lk [])) := by
  unfold Dslices_Contains at h
  refine x_call (fn := Try.f70) (c := bodyOf Try.f70) (bs0 := []) Try.func70 (by kernel_rfl) (by kernel_rfl) ?_
  obtain ⟨v0, hv0, h⟩ := bind_some h
  replace h := Option.some.inj h; subst h
  exact x_end 13 [(4, .call [] [] (i64 v0) [])] [] (ocons (Tslices_Index (Y := Y) n a0 a1 _ hv0) onil) onil (by kernel_rfl)
/-! cmp.Or[int] -/
def Dcmp_Or_0 (_n : Nat) (t3 : Int) (t6 : List Int) (t7 : Int) (rec0 : Int → Option Int) (a : Int) : Option Int :=
  match a with
  | t8 => frk (decide (t8 < t7)) ((lget t6 t8).bind fun v0 => frk (v0 != t3) (some v0) (rec0 (w64 (t8 + 1)))) (some t3)
theorem Tcmp_Or_0 {Y} (n : Nat) (t3 : Int) (t6 : List Int) (t7 : Int) : ∀ (m : Nat) (a r : Int), loopN (Dcmp_Or_0 n t3 t6 t7) m a = some r → Wk Try.prog H Y 110 [.code (cp [1, 1, 0, 1, 0] (bodyOf Try.f110)), .blk 0, .code (cp [1, 1, 1] (bodyOf Try.f110))] (FinX Try.prog Try.f110 [] (i64 r) []) ⟨[(3, i64 t3), (6, .sl false 1 t6.length ((eInt).f t6)), (7, i64 t7), (8, i64 a)], []⟩ := by
  refine loopN_ind (fun _rec0 hrec0 a r h => ?_)
  obtain ⟨t8, rfl⟩ : ∃ x, x = a := ⟨a, rfl⟩
  unfold Dcmp_Or_0 at h
  refine x_frk 6 [] onil h (by kernel_rfl) (fun h => ?_) (fun h => ?_)
  · obtain ⟨v0, hv0, h⟩ := bind_some h
    refine x_frk 15 [(0, .val (.cptr (eInt.c v0 ++ (eInt).f ((t6).drop (Int.toNat t8 + 1)))))] (ocons (ix eInt hv0) onil) h (by kernel_rfl) (fun h => ?_) (fun h => ?_)
    · replace h := Option.some.inj h; subst h
      exact x_end 5 [] [] onil onil (by kernel_rfl)
    · exact x_to 7 [] onil (hrec0 (w64 (t8 + 1)) r h) (by kernel_rfl)
  · replace h := Option.some.inj h; subst h
    exact x_end 6 [] [] onil onil (by kernel_rfl)
def Dcmp_Or (n : Nat) (a0 : (List Int)) : Option Int :=
  loopN (Dcmp_Or_0 n 0 a0 (a0.length : Int)) n 0
theorem Tcmp_Or {Y} (n : Nat) (a0 : (List Int)) (r : Int) (h : Dcmp_Or n a0 = some r) : Big Try.prog H Y (.call 110 [.sl false 1 a0.length ((eInt).f a0)] (lk []) (i64 r) (lk [])) := by
  unfold Dcmp_Or at h
  refine x_call (fn := Try.f110) (c := bodyOf Try.f110) (bs0 := []) Try.func110 (by kernel_rfl) (by kernel_rfl) ?_
  exact x_to 16 [] onil (Tcmp_Or_0 n 0 a0 (a0.length : Int) n 0 r h) (by kernel_rfl)
/-! impl.CmpPlane -/
def Dimpl_CmpPlane (n : Nat) (a0 : Pl) (a1 : Pl) : Option Int :=
  (Dcmp_Compare a0.A a1.A).bind fun v0 => (Dcmp_Compare a0.B a1.B).bind fun v1 => (Dcmp_Compare a0.C a1.C).bind fun v2 => (Dcmp_Compare a0.D a1.D).bind fun v3 => (Dcmp_Or n [v0, v1, v2, v3]).bind fun v4 => some v4
theorem Timpl_CmpPlane {Y} (n : Nat) (a0 : Pl) (a1 : Pl) (r : Int) (h : Dimpl_CmpPlane n a0 a1 = some r) : Big Try.prog H Y (.call 101 [.agg [i64 a0.A, i64 a0.B, i64 a0.C, i64 a0.D], .agg [i64 a1.A, i64 a1.B, i64 a1.C, i64 a1.D]] (lk []) (i64 r) (lk [])) := by
  unfold Dimpl_CmpPlane at h
  refine x_call (fn := Try.f101) (c := bodyOf Try.f101) (bs0 := []) Try.func101 (by kernel_rfl) (by kernel_rfl) ?_
  obtain ⟨v0, hv0, h⟩ := bind_some h
  obtain ⟨v1, hv1, h⟩ := bind_some h
  obtain ⟨v2, hv2, h⟩ := bind_some h
  obtain ⟨v3, hv3, h⟩ := bind_some h
  obtain ⟨v4, hv4, h⟩ := bind_some h
  replace h := Option.some.inj h; subst h
  exact x_end 32 [(7, .call [] [] (i64 v0) []), (4, .call [] [] (i64 v1) []), (4, .call [] [] (i64 v2) []), (4, .call [] [] (i64 v3) []), (1, .call [] [(eInt).f [v0, v1, v2, v3]] (i64 v4) [])] [] (ocons (Tcmp_Compare (Y := Y) a0.A a1.A _ hv0) (ocons (Tcmp_Compare (Y := Y) a0.B a1.B _ hv1) (ocons (Tcmp_Compare (Y := Y) a0.C a1.C _ hv2) (ocons (Tcmp_Compare (Y := Y) a0.D a1.D _ hv3) (ocons (Tcmp_Or (Y := Y) n [v0, v1, v2, v3] _ hv4) (ocons (len_row (L := [v0, v1, v2, v3]) eInt) (ocons (Enc.share eInt eInt sInt [v0, v1, v2, v3]) onil))))))) onil (by kernel_rfl)
/-! impl.greater -/
def Dimpl_greater (n : Nat) (a0 : Pl) : Option Pl :=
  (Dimpl_flip a0).bind fun v0 => (Dimpl_CmpPlane n v0 a0).bind fun v1 => frk (decide (v1 > 0)) (some v0) (some a0)
theorem Timpl_greater {Y} (n : Nat) (a0 : Pl) (r : Pl) (h : Dimpl_greater n a0 = some r) : Big Try.prog H Y (.call 72 [.agg [i64 a0.A, i64 a0.B, i64 a0.C, i64 a0.D]] (lk []) (.agg [i64 r.A, i64 r.B, i64 r.C, i64 r.D]) (lk [])) := by
  unfold Dimpl_greater at h
  refine x_call (fn := Try.f72) (c := bodyOf Try.f72) (bs0 := []) Try.func72 (by kernel_rfl) (by kernel_rfl) ?_
  obtain ⟨v0, hv0, h⟩ := bind_some h
  obtain ⟨v1, hv1, h⟩ := bind_some h
  refine x_frk 20 [(3, .call [] [] (.agg [i64 v0.A, i64 v0.B, i64 v0.C, i64 v0.D]) []), (4, .call [] [] (i64 v1) [])] (ocons (Timpl_flip (Y := Y) a0 _ hv0) (ocons (Timpl_CmpPlane (Y := Y) n v0 a0 _ hv1) onil)) h (by kernel_rfl) (fun h => ?_) (fun h => ?_)
  · replace h := Option.some.inj h; subst h
    exact x_end 5 [] [] onil onil (by kernel_rfl)
  · replace h := Option.some.inj h; subst h
    exact x_end 6 [] [] onil onil (by kernel_rfl)
theorem growPl_t {n : Int} (h : grB n = true) : GrownOk Try.prog 122 4 n := by
  simp only [grB, Bool.and_eq_true, decide_eq_true_eq] at h
  obtain ⟨m, rfl⟩ := Int.eq_ofNat_of_zero_le h.1
  have hb : ((Try.prog.info? 31).get (by kernel_rfl)).bytes = 32 := by kernel_rfl
  have hs : ((Try.prog.info? 31).get (by kernel_rfl)).size = 4 := by kernel_rfl
  have := grow_turn Try.growPlane ((Try.prog.info? 31).get (by kernel_rfl)) (.agg #[.int .i64 0, .int .i64 0, .int .i64 0, .int .i64 0]) (Option.some_get _).symm (by kernel_rfl) (by rw [hs]; decide) (by rw [hs]; rfl) m (by rw [hb]; omega) (by omega)
  rw [hs] at this
  exact this
/-! impl.Plane] -/
def Dslices_Concat_1 (_n : Nat) (t25 : List (List Pl)) (t26 : Int) (rec1 : (Int × List Pl) → Option (List Pl)) (a : (Int × List Pl)) : Option (List Pl) :=
  match a with
  | (t27, l706) => frk (decide (t27 < t26)) ((lget t25 t27).bind fun v2 => chk (apB 32 (l706.length + v2.length)) (rec1 (w64 (t27 + 1), (l706 ++ v2)))) (some l706)
theorem Tslices_Concat_1 {Y} (n : Nat) (t25 : List (List Pl)) (t26 : Int) : ∀ (m : Nat) (a : (Int × List Pl)) (r : (List Pl)), loopN (Dslices_Concat_1 n t25 t26) m a = some r → Wk Try.prog H Y 100 [.code (cp [1, 1, 1, 1, 0, 1, 0] (bodyOf Try.f100)), .blk 2, .code (cp [1, 1, 1, 1, 1] (bodyOf Try.f100))] (FinX Try.prog Try.f100 [] (.sl true 4 r.length ((ePl).f r)) []) ⟨[(6, .msl 706 a.2.length), (25, .sl false 1 t25.length ((ePls false).f t25)), (26, i64 t26), (27, i64 a.1)], [(706, ⟨false, 4, (ePl).f a.2⟩)]⟩ := by
  refine loopN_ind (fun _rec1 hrec1 a r h => ?_)
  obtain ⟨t27, l706⟩ := a
  unfold Dslices_Concat_1 at h
  refine x_frk 6 [] onil h (by kernel_rfl) (fun h => ?_) (fun h => ?_)
  · obtain ⟨v2, hv2, h⟩ := bind_some h
    obtain ⟨c3, h⟩ := chk_some h
    exact x_to 22 [(0, .val (.cptr ((ePls false).c v2 ++ (ePls false).f ((t25).drop (Int.toNat t27 + 1))))), (4, .app false (List.length (l706 ++ v2)) ((ePl).f (l706 ++ v2))), (3, .ren 33 706)] (ocons (ix (ePls false) hv2) (ocons (len_row' (L := l706) ePl) (ocons (app_one (L := l706) (M := v2) ePl c3) (ocons (app_new (L := l706) (M := v2) ePl) (ocons (app_m (L := l706) (M := v2) ePl rfl) (ocons (len_row' (L := v2) ePl) (ocons (show 33 < 1000 ∧ 706 < 1000 by decide) onil))))))) (hrec1 (w64 (t27 + 1), (l706 ++ v2)) r h) (by kernel_rfl)
  · replace h := Option.some.inj h; subst h
    exact x_end 6 [] [] onil (ocons (len_row (L := l706) ePl) onil) (by kernel_rfl)
def Dslices_Concat_0 (n : Nat) (t0 : List (List Pl)) (t3 : Int) : Option (List Pl) :=
  chk (grB t3) (loopN (Dslices_Concat_1 n t0 (t0.length : Int)) n (0, ([] : List Pl)))
theorem Tslices_Concat_0 {Y} (n : Nat) (t0 : List (List Pl)) (t3 : Int) (r : (List Pl)) (h : Dslices_Concat_0 n t0 t3 = some r) : Wk Try.prog H Y 100 [.code (cp [1, 1, 1, 0] (bodyOf Try.f100)), .code (cp [1, 1, 1, 1] (bodyOf Try.f100))] (FinX Try.prog Try.f100 [] (.sl true 4 r.length ((ePl).f r)) []) ⟨[(0, .sl false 1 t0.length ((ePls false).f t0)), (3, i64 t3)], []⟩ := by
  unfold Dslices_Concat_0 at h
  obtain ⟨c1, h⟩ := chk_some h
  refine x_grow (f := 122) (ta := 3) (d0 := 23) (d1 := 24) (da := 6) (z := 4) (n := t3) (fun _ _ _ h => h) (by kernel_rfl) (by kernel_rfl) (growPl_t c1) ?_
  exact x_to 9 [(0, .adopt 6 706 ([] : List Pl).length 4 ((ePl).f ([] : List Pl)))] (ocons (rflV (.sl true 4 ([] : List Pl).length ((ePl).f ([] : List Pl)))) (ocons (show 706 < 1000 ∧ 4 ≠ 0 by decide) onil)) (Tslices_Concat_1 n t0 (t0.length : Int) n (0, ([] : List Pl)) r h) (by kernel_rfl)
def Dslices_Concat_2 (n : Nat) (t0 : List (List Pl)) (t9 : List (List Pl)) (t10 : Int) (rec0 : (Int × Int) → Option (List Pl)) (a : (Int × Int)) : Option (List Pl) :=
  match a with
  | (t3, t11) => frk (decide (t11 < t10)) ((lget t9 t11).bind fun v0 => frk (decide ((w64 (t3 + (v0.length : Int))) < 0)) (none) (rec0 (w64 (t3 + (v0.length : Int)), w64 (t11 + 1)))) (Dslices_Concat_0 n t0 t3)
theorem Tslices_Concat_2 {Y} (n : Nat) (t0 : List (List Pl)) (t9 : List (List Pl)) (t10 : Int) : ∀ (m : Nat) (a : (Int × Int)) (r : (List Pl)), loopN (Dslices_Concat_2 n t0 t9 t10) m a = some r → Wk Try.prog H Y 100 [.code (cp [1, 1, 0, 1, 0] (bodyOf Try.f100)), .blk 0, .code (cp [1, 1, 1] (bodyOf Try.f100))] (FinX Try.prog Try.f100 [] (.sl true 4 r.length ((ePl).f r)) []) ⟨[(0, .sl false 1 t0.length ((ePls false).f t0)), (3, i64 a.1), (9, .sl false 1 t9.length ((ePls false).f t9)), (10, i64 t10), (11, i64 a.2)], []⟩ := by
  refine loopN_ind (fun _rec0 hrec0 a r h => ?_)
  obtain ⟨t3, t11⟩ := a
  unfold Dslices_Concat_2 at h
  refine x_frk 6 [] onil h (by kernel_rfl) (fun h => ?_) (fun h => ?_)
  · obtain ⟨v0, hv0, h⟩ := bind_some h
    refine x_frk 22 [(0, .val (.cptr ((ePls false).c v0 ++ (ePls false).f ((t9).drop (Int.toNat t11 + 1)))))] (ocons (ix (ePls false) hv0) onil) h (by kernel_rfl) (fun h => ?_) (fun h => ?_)
    · exact absurd h (by simp)
    · exact x_to 7 [] onil (hrec0 (w64 (t3 + (v0.length : Int)), w64 (t11 + 1)) r h) (by kernel_rfl)
  · exact x_to 2 [] onil (Tslices_Concat_0 n t0 t3 r h) (by kernel_rfl)
def Dslices_Concat (n : Nat) (a0 : (List (List Pl))) : Option (List Pl) :=
  loopN (Dslices_Concat_2 n a0 a0 (a0.length : Int)) n (0, 0)
theorem Tslices_Concat {Y} (n : Nat) (a0 : (List (List Pl))) (r : (List Pl)) (h : Dslices_Concat n a0 = some r) : Big Try.prog H Y (.call 100 [.sl false 1 a0.length ((ePls false).f a0)] (lk []) (.sl true 4 r.length ((ePl).f r)) (lk [])) := by
  unfold Dslices_Concat at h
  refine x_call (fn := Try.f100) (c := bodyOf Try.f100) (bs0 := []) Try.func100 (by kernel_rfl) (by kernel_rfl) ?_
  exact x_to 16 [] onil (Tslices_Concat_2 n a0 a0 (a0.length : Int) n (0, 0) r h) (by kernel_rfl)
/-! impl.across -/
def Dimpl_across_0 (n : Nat) (rec0 : (Int × List Pl × List Pl) → Option Bool) (_t14 _b5_0 _b5_1 _b5_2 _b5_3 t15 : Int) (t27 : Bool) (b9_0 b9_1 b9_2 b9_3 : Int) (l13 : List Pl) (l507 : List Pl) : Option Bool :=
  frk t27 (rec0 (w64 (t15 + 1), l13, l507)) ((Dimpl_room n l507 (Pl.mk b9_0 b9_1 b9_2 b9_3)).bind fun v4 => frk (!v4) (some false) (chk (apB 32 (l507.length + 1)) (rec0 (w64 (t15 + 1), l13, (l507 ++ [(Pl.mk b9_0 b9_1 b9_2 b9_3)])))))
theorem Timpl_across_0 {Y} (n : Nat) (rec0 : (Int × List Pl × List Pl) → Option Bool) (t14 b5_0 b5_1 b5_2 b5_3 : Int) (hrec0 : ∀ (a : (Int × List Pl × List Pl)) (r : Bool), rec0 a = some r → Wk Try.prog H Y 71 [.code (cp [1, 1, 0, 1, 0] (bodyOf Try.f71)), .blk 0, .code (cp [1, 1, 1] (bodyOf Try.f71))] (FinX Try.prog Try.f71 [] (bl r) []) ⟨[(5, .ptr 5 0), (7, .msl 507 a.2.2.length), (13, .msl 13 a.2.1.length), (14, i64 t14), (15, i64 a.1)], [(5, ⟨true, 0, [i64 b5_0, i64 b5_1, i64 b5_2, i64 b5_3]⟩), (13, ⟨false, 4, (ePl).f a.2.1⟩), (507, ⟨true, 4, (ePl).f a.2.2⟩)]⟩) (t15 : Int) (t27 : Bool) (b9_0 b9_1 b9_2 b9_3 : Int) (l13 : List Pl) (l507 : List Pl) (r : Bool) (h : Dimpl_across_0 n rec0 t14 b5_0 b5_1 b5_2 b5_3 t15 t27 b9_0 b9_1 b9_2 b9_3 l13 l507 = some r) : Wk Try.prog H Y 71 [.code (cp [1, 1, 0, 1, 0, 0, 1, 1, 0, 0, 1, 0, 1] (bodyOf Try.f71)), .code (cp [1, 1, 0, 1, 0, 0, 1, 1, 0, 0, 1, 1] (bodyOf Try.f71)), .blk 1, .code (cp [1, 1, 0, 1, 0, 0, 1, 1, 1] (bodyOf Try.f71)), .lp (cp [1, 1, 0, 1, 0] (bodyOf Try.f71)), .blk 0, .code (cp [1, 1, 1] (bodyOf Try.f71))] (FinX Try.prog Try.f71 [] (bl r) []) ⟨[(5, .ptr 5 0), (7, .msl 507 l507.length), (9, .ptr 9 0), (13, .msl 13 l13.length), (14, i64 t14), (15, i64 t15), (27, bl t27)], [(5, ⟨true, 0, [i64 b5_0, i64 b5_1, i64 b5_2, i64 b5_3]⟩), (9, ⟨true, 0, [i64 b9_0, i64 b9_1, i64 b9_2, i64 b9_3]⟩), (13, ⟨false, 4, (ePl).f l13⟩), (507, ⟨true, 4, (ePl).f l507⟩)]⟩ := by
  unfold Dimpl_across_0 at h
  refine x_frk 0 [] onil h (by kernel_rfl) (fun h => ?_) (fun h => ?_)
  · exact x_to 6 [] onil (hrec0 (w64 (t15 + 1), l13, l507) r h) (by kernel_rfl)
  · obtain ⟨v4, hv4, h⟩ := bind_some h
    refine x_frk 9 [(2, .call [] [(ePl).f l507] (bl v4) [])] (ocons (Timpl_room (Y := Y) n l507 (Pl.mk b9_0 b9_1 b9_2 b9_3) _ hv4) (ocons (len_row (L := l507) ePl) (ocons (Enc.share ePl ePl sPl l507) onil))) h (by kernel_rfl) (fun h => ?_) (fun h => ?_)
    · replace h := Option.some.inj h; subst h
      exact x_end 4 [] [] onil onil (by kernel_rfl)
    · obtain ⟨c5, h⟩ := chk_some h
      exact x_to 15 [(3, .app false (List.length (l507 ++ [(Pl.mk b9_0 b9_1 b9_2 b9_3)])) ((ePl).f (l507 ++ [(Pl.mk b9_0 b9_1 b9_2 b9_3)]))), (3, .ren 35 507)] (ocons (len_row' (L := l507) ePl) (ocons (app_one (L := l507) (M := [(Pl.mk b9_0 b9_1 b9_2 b9_3)]) ePl c5) (ocons (app_new (L := l507) (M := [(Pl.mk b9_0 b9_1 b9_2 b9_3)]) ePl) (ocons (app_m (L := l507) (M := [(Pl.mk b9_0 b9_1 b9_2 b9_3)]) ePl rfl) (ocons (len_row' (L := [(Pl.mk b9_0 b9_1 b9_2 b9_3)]) ePl) (ocons (Enc.noOwn ePl (fun _ => rfl) [(Pl.mk b9_0 b9_1 b9_2 b9_3)]) (ocons (show 35 < 1000 ∧ 507 < 1000 by decide) onil))))))) (hrec0 (w64 (t15 + 1), l13, (l507 ++ [(Pl.mk b9_0 b9_1 b9_2 b9_3)])) r h) (by kernel_rfl)
def Dimpl_across_1 (n : Nat) (b5_0 b5_1 b5_2 b5_3 : Int) (l507 : List Pl) : Option Bool :=
  (Dimpl_room n l507 (Pl.mk b5_0 b5_1 b5_2 b5_3)).bind fun v6 => frk v6 ((Dimpl_flip (Pl.mk b5_0 b5_1 b5_2 b5_3)).bind fun v7 => (Dimpl_room n l507 v7).bind fun v8 => some v8) (some false)
theorem Timpl_across_1 {Y} (n : Nat) (b5_0 b5_1 b5_2 b5_3 : Int) (l507 : List Pl) (r : Bool) (h : Dimpl_across_1 n b5_0 b5_1 b5_2 b5_3 l507 = some r) : Wk Try.prog H Y 71 [.code (cp [1, 1, 1, 0] (bodyOf Try.f71)), .code (cp [1, 1, 1, 1] (bodyOf Try.f71))] (FinX Try.prog Try.f71 [] (bl r) []) ⟨[(5, .ptr 5 0), (7, .msl 507 l507.length)], [(5, ⟨true, 0, [i64 b5_0, i64 b5_1, i64 b5_2, i64 b5_3]⟩), (507, ⟨true, 4, (ePl).f l507⟩)]⟩ := by
  unfold Dimpl_across_1 at h
  obtain ⟨v6, hv6, h⟩ := bind_some h
  refine x_frk 5 [(2, .call [] [(ePl).f l507] (bl v6) [])] (ocons (Timpl_room (Y := Y) n l507 (Pl.mk b5_0 b5_1 b5_2 b5_3) _ hv6) (ocons (len_row (L := l507) ePl) (ocons (Enc.share ePl ePl sPl l507) onil))) h (by kernel_rfl) (fun h => ?_) (fun h => ?_)
  · obtain ⟨v7, hv7, h⟩ := bind_some h
    obtain ⟨v8, hv8, h⟩ := bind_some h
    replace h := Option.some.inj h; subst h
    exact x_end 7 [(2, .call [] [] (.agg [i64 v7.A, i64 v7.B, i64 v7.C, i64 v7.D]) []), (0, .call [] [(ePl).f l507] (bl v8) [])] [] (ocons (Timpl_flip (Y := Y) (Pl.mk b5_0 b5_1 b5_2 b5_3) _ hv7) (ocons (Timpl_room (Y := Y) n l507 v7 _ hv8) (ocons (len_row (L := l507) ePl) (ocons (Enc.share ePl ePl sPl l507) onil)))) onil (by kernel_rfl)
  · replace h := Option.some.inj h; subst h
    exact x_end 7 [] [] onil onil (by kernel_rfl)
def Dimpl_across_2 (n : Nat) (t14 b5_0 b5_1 b5_2 b5_3 : Int) (rec0 : (Int × List Pl × List Pl) → Option Bool) (a : (Int × List Pl × List Pl)) : Option Bool :=
  match a with
  | (t15, l13, l507) => frk (decide (t15 < t14)) ((lget l13 t15).bind fun v1 => (Dimpl_greater n v1).bind fun v2 => frk (v2.A == b5_0 && (v2.B == b5_1 && (v2.C == b5_2 && (v2.D == b5_3 && true)))) (rec0 (w64 (t15 + 1), l13, l507)) ((Dslices_Contains n l507 v1).bind fun v3 => Dimpl_across_0 n rec0 t14 b5_0 b5_1 b5_2 b5_3 t15 v3 v1.A v1.B v1.C v1.D l13 l507)) (Dimpl_across_1 n b5_0 b5_1 b5_2 b5_3 l507)
theorem Timpl_across_2 {Y} (n : Nat) (t14 b5_0 b5_1 b5_2 b5_3 : Int) : ∀ (m : Nat) (a : (Int × List Pl × List Pl)) (r : Bool), loopN (Dimpl_across_2 n t14 b5_0 b5_1 b5_2 b5_3) m a = some r → Wk Try.prog H Y 71 [.code (cp [1, 1, 0, 1, 0] (bodyOf Try.f71)), .blk 0, .code (cp [1, 1, 1] (bodyOf Try.f71))] (FinX Try.prog Try.f71 [] (bl r) []) ⟨[(5, .ptr 5 0), (7, .msl 507 a.2.2.length), (13, .msl 13 a.2.1.length), (14, i64 t14), (15, i64 a.1)], [(5, ⟨true, 0, [i64 b5_0, i64 b5_1, i64 b5_2, i64 b5_3]⟩), (13, ⟨false, 4, (ePl).f a.2.1⟩), (507, ⟨true, 4, (ePl).f a.2.2⟩)]⟩ := by
  refine loopN_ind (fun rec0 hrec0 a r h => ?_)
  obtain ⟨t15, l13, l507⟩ := a
  unfold Dimpl_across_2 at h
  refine x_frk 6 [] onil h (by kernel_rfl) (fun h => ?_) (fun h => ?_)
  · obtain ⟨v1, hv1, h⟩ := bind_some h
    obtain ⟨v2, hv2, h⟩ := bind_some h
    refine x_frk 18 [(0, .unit), (0, .cells [i64 v1.A, i64 v1.B, i64 v1.C, i64 v1.D]), (3, .call [] [] (.agg [i64 v2.A, i64 v2.B, i64 v2.C, i64 v2.D]) [])] (ocons (inr hv1) (ocons (ldA ePl hv1 0 4 rfl rfl) (ocons (Timpl_greater (Y := Y) n v1 _ hv2) onil))) h (by kernel_rfl) (fun h => ?_) (fun h => ?_)
    · exact x_to 12 [] onil (hrec0 (w64 (t15 + 1), l13, l507) r h) (by kernel_rfl)
    · obtain ⟨v3, hv3, h⟩ := bind_some h
      exact x_to 5 [(2, .call [] [(ePl).f l507] (bl v3) [])] (ocons (Tslices_Contains (Y := Y) n l507 v1 _ hv3) (ocons (len_row (L := l507) ePl) (ocons (Enc.share ePl ePl sPl l507) onil))) (Timpl_across_0 n rec0 t14 b5_0 b5_1 b5_2 b5_3 hrec0 t15 v3 v1.A v1.B v1.C v1.D l13 l507 r h) (by kernel_rfl)
  · exact x_to 2 [] onil (Timpl_across_1 n b5_0 b5_1 b5_2 b5_3 l507 r h) (by kernel_rfl)
def Dimpl_across (n : Nat) (a0 : (List Pl)) (a1 : (List Pl)) (a2 : Pl) : Option Bool :=
  (Dslices_Concat n [a0, a1]).bind fun v0 => loopN (Dimpl_across_2 n (v0.length : Int) a2.A a2.B a2.C a2.D) n (0, v0, [])
theorem Timpl_across {Y} (n : Nat) (a0 : (List Pl)) (a1 : (List Pl)) (a2 : Pl) (r : Bool) (h : Dimpl_across n a0 a1 a2 = some r) : Big Try.prog H Y (.call 71 [.sl false 4 a0.length ((ePl).f a0), .sl false 4 a1.length ((ePl).f a1), .agg [i64 a2.A, i64 a2.B, i64 a2.C, i64 a2.D]] (lk []) (bl r) (lk [])) := by
  unfold Dimpl_across at h
  refine x_call (fn := Try.f71) (c := bodyOf Try.f71) (bs0 := []) Try.func71 (by kernel_rfl) (by kernel_rfl) ?_
  obtain ⟨v0, hv0, h⟩ := bind_some h
  exact x_to 21 [(3, .virt 7 507 4), (3, .call [] [(ePls false).f [a0, a1]] (.sl true 4 v0.length ((ePl).f v0)) [])] (ocons (rflV .nil) (ocons (show 507 < 1000 ∧ 4 ≠ 0 by decide) (ocons (Tslices_Concat (Y := Y) n [a0, a1] _ hv0) (ocons (len_row (L := [a0, a1]) (ePls false)) (ocons (Enc.share (ePls false) (ePls false) (sPls false) [a0, a1]) (ocons (show hasSh (.sl true 4 v0.length ((ePl).f v0)) = false by simp [hasSh, hasShL, nSh, nShI, nShB, nShP, nShT, nShN, nShPs]) onil)))))) (Timpl_across_2 n (v0.length : Int) a2.A a2.B a2.C a2.D n (0, v0, []) r h) (by kernel_rfl)
/-! impl.touch -/
def Dimpl_touch_0 (_n : Nat) (rec0 : Int → Option Bool) (_t0 : List Pl) (_t1 : List Pl) (_t7 : List Pl) (_t8 t9 : Int) (t23 : Bool) : Option Bool :=
  frk t23 (some true) (rec0 (w64 (t9 + 1)))
theorem Timpl_touch_0 {Y} (n : Nat) (rec0 : Int → Option Bool) (t0 : List Pl) (t1 : List Pl) (t7 : List Pl) (t8 : Int) (hrec0 : ∀ (a : Int) (r : Bool), rec0 a = some r → Wk Try.prog H Y 37 [.code (cp [1, 0, 1, 0] (bodyOf Try.f37)), .blk 0, .code (cp [1, 1] (bodyOf Try.f37))] (FinX Try.prog Try.f37 [] (bl r) []) ⟨[(0, .sl false 4 t0.length ((ePl).f t0)), (1, .sl false 4 t1.length ((ePl).f t1)), (7, .sl false 4 t7.length ((ePl).f t7)), (8, i64 t8), (9, i64 a)], []⟩) (t9 : Int) (t23 r : Bool) (h : Dimpl_touch_0 n rec0 t0 t1 t7 t8 t9 t23 = some r) : Wk Try.prog H Y 37 [.code (cp [1, 0, 1, 0, 0, 1, 1, 0, 0, 1, 1] (bodyOf Try.f37)), .blk 1, .code (cp [1, 0, 1, 0, 0, 1, 1, 1] (bodyOf Try.f37)), .lp (cp [1, 0, 1, 0] (bodyOf Try.f37)), .blk 0, .code (cp [1, 1] (bodyOf Try.f37))] (FinX Try.prog Try.f37 [] (bl r) []) ⟨[(0, .sl false 4 t0.length ((ePl).f t0)), (1, .sl false 4 t1.length ((ePl).f t1)), (7, .sl false 4 t7.length ((ePl).f t7)), (8, i64 t8), (9, i64 t9), (23, bl t23)], []⟩ := by
  unfold Dimpl_touch_0 at h
  refine x_frk 0 [] onil h (by kernel_rfl) (fun h => ?_) (fun h => ?_)
  · replace h := Option.some.inj h; subst h
    exact x_end 4 [] [] onil onil (by kernel_rfl)
  · exact x_to 7 [] onil (hrec0 (w64 (t9 + 1)) r h) (by kernel_rfl)
def Dimpl_touch_1 (n : Nat) (t0 : List Pl) (t1 : List Pl) (t7 : List Pl) (t8 : Int) (rec0 : Int → Option Bool) (a : Int) : Option Bool :=
  match a with
  | t9 => frk (decide (t9 < t8)) ((lget t7 t9).bind fun v0 => (Dimpl_flip v0).bind fun v1 => (Dslices_Contains n t1 v1).bind fun v2 => frk v2 ((Dimpl_greater n v0).bind fun v3 => (Dimpl_across n t0 t1 v3).bind fun v4 => Dimpl_touch_0 n rec0 t0 t1 t7 t8 t9 v4) (rec0 (w64 (t9 + 1)))) (some false)
theorem Timpl_touch_1 {Y} (n : Nat) (t0 : List Pl) (t1 : List Pl) (t7 : List Pl) (t8 : Int) : ∀ (m : Nat) (a : Int) (r : Bool), loopN (Dimpl_touch_1 n t0 t1 t7 t8) m a = some r → Wk Try.prog H Y 37 [.code (cp [1, 0, 1, 0] (bodyOf Try.f37)), .blk 0, .code (cp [1, 1] (bodyOf Try.f37))] (FinX Try.prog Try.f37 [] (bl r) []) ⟨[(0, .sl false 4 t0.length ((ePl).f t0)), (1, .sl false 4 t1.length ((ePl).f t1)), (7, .sl false 4 t7.length ((ePl).f t7)), (8, i64 t8), (9, i64 a)], []⟩ := by
  refine loopN_ind (fun rec0 hrec0 a r h => ?_)
  obtain ⟨t9, rfl⟩ : ∃ x, x = a := ⟨a, rfl⟩
  unfold Dimpl_touch_1 at h
  refine x_frk 6 [] onil h (by kernel_rfl) (fun h => ?_) (fun h => ?_)
  · obtain ⟨v0, hv0, h⟩ := bind_some h
    obtain ⟨v1, hv1, h⟩ := bind_some h
    obtain ⟨v2, hv2, h⟩ := bind_some h
    refine x_frk 17 [(0, .val (.cptr (ePl.c v0 ++ (ePl).f ((t7).drop (Int.toNat t9 + 1))))), (5, .call [] [] (.agg [i64 v1.A, i64 v1.B, i64 v1.C, i64 v1.D]) []), (0, .call [] [] (bl v2) [])] (ocons (ix ePl hv0) (ocons (Timpl_flip (Y := Y) v0 _ hv1) (ocons (Tslices_Contains (Y := Y) n t1 v1 _ hv2) onil))) h (by kernel_rfl) (fun h => ?_) (fun h => ?_)
    · obtain ⟨v3, hv3, h⟩ := bind_some h
      obtain ⟨v4, hv4, h⟩ := bind_some h
      exact x_to 7 [(3, .call [] [] (.agg [i64 v3.A, i64 v3.B, i64 v3.C, i64 v3.D]) []), (0, .call [] [] (bl v4) [])] (ocons (Timpl_greater (Y := Y) n v0 _ hv3) (ocons (Timpl_across (Y := Y) n t0 t1 v3 _ hv4) onil)) (Timpl_touch_0 n rec0 t0 t1 t7 t8 hrec0 t9 v4 r h) (by kernel_rfl)
    · exact x_to 15 [] onil (hrec0 (w64 (t9 + 1)) r h) (by kernel_rfl)
  · replace h := Option.some.inj h; subst h
    exact x_end 5 [] [] onil onil (by kernel_rfl)
def Dimpl_touch (n : Nat) (a0 : (List Pl)) (a1 : (List Pl)) : Option Bool :=
  loopN (Dimpl_touch_1 n a0 a1 a0 (a0.length : Int)) n 0
theorem Timpl_touch {Y} (n : Nat) (a0 : (List Pl)) (a1 : (List Pl)) (r : Bool) (h : Dimpl_touch n a0 a1 = some r) : Big Try.prog H Y (.call 37 [.sl false 4 a0.length ((ePl).f a0), .sl false 4 a1.length ((ePl).f a1)] (lk []) (bl r) (lk [])) := by
  unfold Dimpl_touch at h
  refine x_call (fn := Try.f37) (c := bodyOf Try.f37) (bs0 := []) Try.func37 (by kernel_rfl) (by kernel_rfl) ?_
  exact x_to 12 [] onil (Timpl_touch_1 n a0 a1 a0 (a0.length : Int) n 0 r h) (by kernel_rfl)
/-! impl.Pieces -/
def Dimpl_Pieces_2 (_n : Nat) (rec2 : (Int × Int × List (List Pl) × List Int) → Option Int) (_rec1 : (Int × Int × List (List Pl) × List Int) → Option Int) (_t7 : Int) (_t8 : List Pl) (_t36 : Int) (_t43 : List (List Pl)) (_t44 _t35 t5 t11 t12 t45 t76 : Int) (l18 : List (List Pl)) (rec3 : (Int × List Int) → Option Int) (a : (Int × List Int)) : Option Int :=
  match a with
  | (t77, l21) => frk (decide (t77 < t76)) ((lget l21 t77).bind fun v12 => frk (v12 == t11) ((lget l21 t77).bind fun _v13 => rec3 (w64 (t77 + 1), (l21.set (Int.toNat t77) t12))) (rec3 (w64 (t77 + 1), l21))) (rec2 (t5, w64 (t45 + 1), l18, l21))
theorem Timpl_Pieces_2 {Y} (n : Nat) (rec2 : (Int × Int × List (List Pl) × List Int) → Option Int) (rec1 : (Int × Int × List (List Pl) × List Int) → Option Int) (t7 : Int) (t8 : List Pl) (t36 : Int) (t43 : List (List Pl)) (t44 t35 : Int) (hrec2 : ∀ (a : (Int × Int × List (List Pl) × List Int)) (r : Int), rec2 a = some r → Wk Try.prog H Y 13 [.code (cp [1, 1, 1, 1, 1, 1, 0, 1, 0, 0, 1, 1, 0, 0, 1, 1, 0] (bodyOf Try.f13)), .blk 4, .blk 3, .code (cp [1, 1, 1, 1, 1, 1, 0, 1, 0, 0, 1, 1, 1] (bodyOf Try.f13)), .lp (cp [1, 1, 1, 1, 1, 1, 0, 1, 0] (bodyOf Try.f13)), .blk 2, .code (cp [1, 1, 1, 1, 1, 1, 1] (bodyOf Try.f13))] (FinX Try.prog Try.f13 [] (i64 r) []) ⟨[(3, .msl 18 a.2.2.1.length), (4, .msl 21 a.2.2.2.length), (5, i64 a.1), (7, i64 t7), (8, .sl false 4 t8.length ((ePl).f t8)), (34, .msl 18 a.2.2.1.length), (35, i64 t35), (36, i64 t36), (43, .sl false 1 t43.length ((ePls false).f t43)), (44, i64 t44), (45, i64 a.2.1)], [(18, ⟨false, 1, (ePls true).f a.2.2.1⟩), (21, ⟨true, 1, (eInt).f a.2.2.2⟩)]⟩) (_hrec1 : ∀ (a : (Int × Int × List (List Pl) × List Int)) (r : Int), rec1 a = some r → Wk Try.prog H Y 13 [.code (cp [1, 1, 1, 1, 1, 1, 0, 1, 0] (bodyOf Try.f13)), .blk 2, .code (cp [1, 1, 1, 1, 1, 1, 1] (bodyOf Try.f13))] (FinX Try.prog Try.f13 [] (i64 r) []) ⟨[(3, .msl 18 a.2.2.1.length), (4, .msl 21 a.2.2.2.length), (5, i64 a.1), (34, .msl 18 a.2.2.1.length), (35, i64 t35), (36, i64 a.2.1)], [(18, ⟨false, 1, (ePls true).f a.2.2.1⟩), (21, ⟨true, 1, (eInt).f a.2.2.2⟩)]⟩) (t5 t11 t12 t45 t76 : Int) (l18 : List (List Pl)) : ∀ (m : Nat) (a : (Int × List Int)) (r : Int), loopN (Dimpl_Pieces_2 n rec2 rec1 t7 t8 t36 t43 t44 t35 t5 t11 t12 t45 t76 l18) m a = some r → Wk Try.prog H Y 13 [.code (cp [1, 1, 1, 1, 1, 1, 0, 1, 0, 0, 1, 1, 0, 0, 1, 1, 0, 0, 1, 1, 0, 0, 1, 1, 1, 1, 1, 0] (bodyOf Try.f13)), .blk 6, .blk 5, .code (cp [1, 1, 1, 1, 1, 1, 0, 1, 0, 0, 1, 1, 0, 0, 1, 1, 0, 0, 1, 1, 1] (bodyOf Try.f13)), .lp (cp [1, 1, 1, 1, 1, 1, 0, 1, 0, 0, 1, 1, 0, 0, 1, 1, 0] (bodyOf Try.f13)), .blk 4, .blk 3, .code (cp [1, 1, 1, 1, 1, 1, 0, 1, 0, 0, 1, 1, 1] (bodyOf Try.f13)), .lp (cp [1, 1, 1, 1, 1, 1, 0, 1, 0] (bodyOf Try.f13)), .blk 2, .code (cp [1, 1, 1, 1, 1, 1, 1] (bodyOf Try.f13))] (FinX Try.prog Try.f13 [] (i64 r) []) ⟨[(3, .msl 18 l18.length), (4, .msl 21 a.2.length), (5, i64 t5), (7, i64 t7), (8, .sl false 4 t8.length ((ePl).f t8)), (11, i64 t11), (12, i64 t12), (34, .msl 18 l18.length), (35, i64 t35), (36, i64 t36), (43, .sl false 1 t43.length ((ePls false).f t43)), (44, i64 t44), (45, i64 t45), (75, .msl 21 a.2.length), (76, i64 t76), (77, i64 a.1)], [(18, ⟨false, 1, (ePls true).f l18⟩), (21, ⟨true, 1, (eInt).f a.2⟩)]⟩ := by
  refine loopN_ind (fun _rec3 hrec3 a r h => ?_)
  obtain ⟨t77, l21⟩ := a
  unfold Dimpl_Pieces_2 at h
  refine x_frk 6 [] onil h (by kernel_rfl) (fun h => ?_) (fun h => ?_)
  · obtain ⟨v12, hv12, h⟩ := bind_some h
    refine x_frk 17 [(1, .unit), (0, .val (i64 v12))] (ocons (inr hv12) (ocons (ld1 eInt hv12 0 rfl) onil)) h (by kernel_rfl) (fun h => ?_) (fun h => ?_)
    · obtain ⟨_v13, hv13, h⟩ := bind_some h
      exact x_to 16 [(3, .unit), (0, .cells ((eInt).f (l21.set (Int.toNat t77) t12))), (0, .fix 4 (.msl 21 (l21.set (Int.toNat t77) t12).length)), (0, .fix 75 (.msl 21 (l21.set (Int.toNat t77) t12).length)), (0, .fix 85 (.msl 21 (l21.set (Int.toNat t77) t12).length))] (ocons (inr hv13) (ocons (stA eInt hv13 0 1 [i64 t12] t12 rfl rfl) (ocons (setLen 21 l21 (Int.toNat t77) t12) (ocons (setLen 21 l21 (Int.toNat t77) t12) (ocons (setLen 21 l21 (Int.toNat t77) t12) onil))))) (hrec3 (w64 (t77 + 1), (l21.set (Int.toNat t77) t12)) r h) (by kernel_rfl)
    · exact x_to 7 [] onil (hrec3 (w64 (t77 + 1), l21) r h) (by kernel_rfl)
  · exact x_to 7 [] onil (hrec2 (t5, w64 (t45 + 1), l18, l21) r h) (by kernel_rfl)
def Dimpl_Pieces_1 (n : Nat) (rec2 : (Int × Int × List (List Pl) × List Int) → Option Int) (rec1 : (Int × Int × List (List Pl) × List Int) → Option Int) (t7 : Int) (t8 : List Pl) (t36 : Int) (t43 : List (List Pl)) (t44 t35 t5 t9 t45 : Int) (t64 : Bool) (l18 : List (List Pl)) (l21 : List Int) : Option Int :=
  frk t64 (rec2 (t5, w64 (t45 + 1), l18, l21)) ((lget l21 t7).bind fun v10 => (lget l21 t9).bind fun v11 => loopN (Dimpl_Pieces_2 n rec2 rec1 t7 t8 t36 t43 t44 t35 (w64 (t5 - 1)) v10 v11 t45 (l21.length : Int) l18) n (0, l21))
theorem Timpl_Pieces_1 {Y} (n : Nat) (rec2 : (Int × Int × List (List Pl) × List Int) → Option Int) (rec1 : (Int × Int × List (List Pl) × List Int) → Option Int) (t7 : Int) (t8 : List Pl) (t36 : Int) (t43 : List (List Pl)) (t44 t35 : Int) (hrec2 : ∀ (a : (Int × Int × List (List Pl) × List Int)) (r : Int), rec2 a = some r → Wk Try.prog H Y 13 [.code (cp [1, 1, 1, 1, 1, 1, 0, 1, 0, 0, 1, 1, 0, 0, 1, 1, 0] (bodyOf Try.f13)), .blk 4, .blk 3, .code (cp [1, 1, 1, 1, 1, 1, 0, 1, 0, 0, 1, 1, 1] (bodyOf Try.f13)), .lp (cp [1, 1, 1, 1, 1, 1, 0, 1, 0] (bodyOf Try.f13)), .blk 2, .code (cp [1, 1, 1, 1, 1, 1, 1] (bodyOf Try.f13))] (FinX Try.prog Try.f13 [] (i64 r) []) ⟨[(3, .msl 18 a.2.2.1.length), (4, .msl 21 a.2.2.2.length), (5, i64 a.1), (7, i64 t7), (8, .sl false 4 t8.length ((ePl).f t8)), (34, .msl 18 a.2.2.1.length), (35, i64 t35), (36, i64 t36), (43, .sl false 1 t43.length ((ePls false).f t43)), (44, i64 t44), (45, i64 a.2.1)], [(18, ⟨false, 1, (ePls true).f a.2.2.1⟩), (21, ⟨true, 1, (eInt).f a.2.2.2⟩)]⟩) (hrec1 : ∀ (a : (Int × Int × List (List Pl) × List Int)) (r : Int), rec1 a = some r → Wk Try.prog H Y 13 [.code (cp [1, 1, 1, 1, 1, 1, 0, 1, 0] (bodyOf Try.f13)), .blk 2, .code (cp [1, 1, 1, 1, 1, 1, 1] (bodyOf Try.f13))] (FinX Try.prog Try.f13 [] (i64 r) []) ⟨[(3, .msl 18 a.2.2.1.length), (4, .msl 21 a.2.2.2.length), (5, i64 a.1), (34, .msl 18 a.2.2.1.length), (35, i64 t35), (36, i64 a.2.1)], [(18, ⟨false, 1, (ePls true).f a.2.2.1⟩), (21, ⟨true, 1, (eInt).f a.2.2.2⟩)]⟩) (t5 t9 t45 : Int) (t64 : Bool) (l18 : List (List Pl)) (l21 : List Int) (r : Int) (h : Dimpl_Pieces_1 n rec2 rec1 t7 t8 t36 t43 t44 t35 t5 t9 t45 t64 l18 l21 = some r) : Wk Try.prog H Y 13 [.code (cp [1, 1, 1, 1, 1, 1, 0, 1, 0, 0, 1, 1, 0, 0, 1, 1, 0, 0, 1, 1, 0, 0, 1, 0, 1] (bodyOf Try.f13)), .code (cp [1, 1, 1, 1, 1, 1, 0, 1, 0, 0, 1, 1, 0, 0, 1, 1, 0, 0, 1, 1, 0, 0, 1, 1] (bodyOf Try.f13)), .blk 5, .code (cp [1, 1, 1, 1, 1, 1, 0, 1, 0, 0, 1, 1, 0, 0, 1, 1, 0, 0, 1, 1, 1] (bodyOf Try.f13)), .lp (cp [1, 1, 1, 1, 1, 1, 0, 1, 0, 0, 1, 1, 0, 0, 1, 1, 0] (bodyOf Try.f13)), .blk 4, .blk 3, .code (cp [1, 1, 1, 1, 1, 1, 0, 1, 0, 0, 1, 1, 1] (bodyOf Try.f13)), .lp (cp [1, 1, 1, 1, 1, 1, 0, 1, 0] (bodyOf Try.f13)), .blk 2, .code (cp [1, 1, 1, 1, 1, 1, 1] (bodyOf Try.f13))] (FinX Try.prog Try.f13 [] (i64 r) []) ⟨[(3, .msl 18 l18.length), (4, .msl 21 l21.length), (5, i64 t5), (7, i64 t7), (8, .sl false 4 t8.length ((ePl).f t8)), (9, i64 t9), (34, .msl 18 l18.length), (35, i64 t35), (36, i64 t36), (43, .sl false 1 t43.length ((ePls false).f t43)), (44, i64 t44), (45, i64 t45), (64, bl t64)], [(18, ⟨false, 1, (ePls true).f l18⟩), (21, ⟨true, 1, (eInt).f l21⟩)]⟩ := by
  unfold Dimpl_Pieces_1 at h
  refine x_frk 0 [] onil h (by kernel_rfl) (fun h => ?_) (fun h => ?_)
  · exact x_to 6 [] onil (hrec2 (t5, w64 (t45 + 1), l18, l21) r h) (by kernel_rfl)
  · obtain ⟨v10, hv10, h⟩ := bind_some h
    obtain ⟨v11, hv11, h⟩ := bind_some h
    exact x_to 27 [(5, .unit), (0, .val (i64 v10)), (2, .unit), (0, .val (i64 v11))] (ocons (inr hv10) (ocons (ld1 eInt hv10 0 rfl) (ocons (inr hv11) (ocons (ld1 eInt hv11 0 rfl) onil)))) (Timpl_Pieces_2 n rec2 rec1 t7 t8 t36 t43 t44 t35 hrec2 hrec1 (w64 (t5 - 1)) v10 v11 t45 (l21.length : Int) l18 n (0, l21) r h) (by kernel_rfl)
def Dimpl_Pieces_3 (n : Nat) (rec1 : (Int × Int × List (List Pl) × List Int) → Option Int) (t35 t7 : Int) (t8 : List Pl) (t36 : Int) (t43 : List (List Pl)) (t44 : Int) (rec2 : (Int × Int × List (List Pl) × List Int) → Option Int) (a : (Int × Int × List (List Pl) × List Int)) : Option Int :=
  match a with
  | (t5, t45, l18, l21) => frk (decide (t45 < t44)) ((lget t43 t45).bind fun v6 => (lget l21 t7).bind fun v7 => (lget l21 t45).bind fun v8 => frk (v7 == v8) (rec2 (t5, w64 (t45 + 1), l18, l21)) ((Dimpl_touch n t8 v6).bind fun v9 => Dimpl_Pieces_1 n rec2 rec1 t7 t8 t36 t43 t44 t35 t5 t45 t45 (!v9) l18 l21)) (rec1 (t5, w64 (t36 + 1), l18, l21))
theorem Timpl_Pieces_3 {Y} (n : Nat) (rec1 : (Int × Int × List (List Pl) × List Int) → Option Int) (t35 : Int) (hrec1 : ∀ (a : (Int × Int × List (List Pl) × List Int)) (r : Int), rec1 a = some r → Wk Try.prog H Y 13 [.code (cp [1, 1, 1, 1, 1, 1, 0, 1, 0] (bodyOf Try.f13)), .blk 2, .code (cp [1, 1, 1, 1, 1, 1, 1] (bodyOf Try.f13))] (FinX Try.prog Try.f13 [] (i64 r) []) ⟨[(3, .msl 18 a.2.2.1.length), (4, .msl 21 a.2.2.2.length), (5, i64 a.1), (34, .msl 18 a.2.2.1.length), (35, i64 t35), (36, i64 a.2.1)], [(18, ⟨false, 1, (ePls true).f a.2.2.1⟩), (21, ⟨true, 1, (eInt).f a.2.2.2⟩)]⟩) (t7 : Int) (t8 : List Pl) (t36 : Int) (t43 : List (List Pl)) (t44 : Int) : ∀ (m : Nat) (a : (Int × Int × List (List Pl) × List Int)) (r : Int), loopN (Dimpl_Pieces_3 n rec1 t35 t7 t8 t36 t43 t44) m a = some r → Wk Try.prog H Y 13 [.code (cp [1, 1, 1, 1, 1, 1, 0, 1, 0, 0, 1, 1, 0, 0, 1, 1, 0] (bodyOf Try.f13)), .blk 4, .blk 3, .code (cp [1, 1, 1, 1, 1, 1, 0, 1, 0, 0, 1, 1, 1] (bodyOf Try.f13)), .lp (cp [1, 1, 1, 1, 1, 1, 0, 1, 0] (bodyOf Try.f13)), .blk 2, .code (cp [1, 1, 1, 1, 1, 1, 1] (bodyOf Try.f13))] (FinX Try.prog Try.f13 [] (i64 r) []) ⟨[(3, .msl 18 a.2.2.1.length), (4, .msl 21 a.2.2.2.length), (5, i64 a.1), (7, i64 t7), (8, .sl false 4 t8.length ((ePl).f t8)), (34, .msl 18 a.2.2.1.length), (35, i64 t35), (36, i64 t36), (43, .sl false 1 t43.length ((ePls false).f t43)), (44, i64 t44), (45, i64 a.2.1)], [(18, ⟨false, 1, (ePls true).f a.2.2.1⟩), (21, ⟨true, 1, (eInt).f a.2.2.2⟩)]⟩ := by
  refine loopN_ind (fun rec2 hrec2 a r h => ?_)
  obtain ⟨t5, t45, l18, l21⟩ := a
  unfold Dimpl_Pieces_3 at h
  refine x_frk 6 [] onil h (by kernel_rfl) (fun h => ?_) (fun h => ?_)
  · obtain ⟨v6, hv6, h⟩ := bind_some h
    obtain ⟨v7, hv7, h⟩ := bind_some h
    obtain ⟨v8, hv8, h⟩ := bind_some h
    refine x_frk 24 [(1, .val (.cptr ((ePls false).c v6 ++ (ePls false).f ((t43).drop (Int.toNat t45 + 1))))), (5, .unit), (0, .val (i64 v7)), (2, .unit), (0, .val (i64 v8))] (ocons (ix (ePls false) hv6) (ocons (inr hv7) (ocons (ld1 eInt hv7 0 rfl) (ocons (inr hv8) (ocons (ld1 eInt hv8 0 rfl) onil))))) h (by kernel_rfl) (fun h => ?_) (fun h => ?_)
    · exact x_to 13 [] onil (hrec2 (t5, w64 (t45 + 1), l18, l21) r h) (by kernel_rfl)
    · obtain ⟨v9, hv9, h⟩ := bind_some h
      exact x_to 6 [(2, .call [] [] (bl v9) [])] (ocons (Timpl_touch (Y := Y) n t8 v6 _ hv9) onil) (Timpl_Pieces_1 n rec2 rec1 t7 t8 t36 t43 t44 t35 hrec2 hrec1 t5 t45 t45 (!v9) l18 l21 r h) (by kernel_rfl)
  · exact x_to 7 [] onil (hrec1 (t5, w64 (t36 + 1), l18, l21) r h) (by kernel_rfl)
def Dimpl_Pieces_4 (n : Nat) (t35 : Int) (rec1 : (Int × Int × List (List Pl) × List Int) → Option Int) (a : (Int × Int × List (List Pl) × List Int)) : Option Int :=
  match a with
  | (t5, t36, l18, l21) => frk (decide (t36 < t35)) ((lget l18 t36).bind fun v4 => (lsl l18 0 t36).bind fun v5 => loopN (Dimpl_Pieces_3 n rec1 t35 t36 v4 t36 v5 (v5.length : Int)) n (t5, 0, l18, l21)) (some t5)
theorem Timpl_Pieces_4 {Y} (n : Nat) (t35 : Int) : ∀ (m : Nat) (a : (Int × Int × List (List Pl) × List Int)) (r : Int), loopN (Dimpl_Pieces_4 n t35) m a = some r → Wk Try.prog H Y 13 [.code (cp [1, 1, 1, 1, 1, 1, 0, 1, 0] (bodyOf Try.f13)), .blk 2, .code (cp [1, 1, 1, 1, 1, 1, 1] (bodyOf Try.f13))] (FinX Try.prog Try.f13 [] (i64 r) []) ⟨[(3, .msl 18 a.2.2.1.length), (4, .msl 21 a.2.2.2.length), (5, i64 a.1), (34, .msl 18 a.2.2.1.length), (35, i64 t35), (36, i64 a.2.1)], [(18, ⟨false, 1, (ePls true).f a.2.2.1⟩), (21, ⟨true, 1, (eInt).f a.2.2.2⟩)]⟩ := by
  refine loopN_ind (fun rec1 hrec1 a r h => ?_)
  obtain ⟨t5, t36, l18, l21⟩ := a
  unfold Dimpl_Pieces_4 at h
  refine x_frk 6 [] onil h (by kernel_rfl) (fun h => ?_) (fun h => ?_)
  · obtain ⟨v4, hv4, h⟩ := bind_some h
    obtain ⟨v5, hv5, h⟩ := bind_some h
    exact x_to 21 [(1, .unit), (0, .val (.sl true 4 v4.length ((ePl).f v4))), (0, .fix 40 (.sl false 4 v4.length ((ePl).f v4))), (4, .val (.sl false 1 v5.length ((ePls false).f v5)))] (ocons (inr hv4) (ocons (ld1 (ePls true) hv4 0 rfl) (ocons (congrArg (AV.sl false 4 v4.length) (Enc.share ePl ePl sPl v4)) (ocons (slM (ePls true) (ePls false) (sPls true) hv5) onil)))) (Timpl_Pieces_3 n rec1 t35 hrec1 t36 v4 t36 v5 (v5.length : Int) n (t5, 0, l18, l21) r h) (by kernel_rfl)
  · replace h := Option.some.inj h; subst h
    exact x_end 6 [] [] onil onil (by kernel_rfl)
def Dimpl_Pieces_0 (n : Nat) (t5 t35 t36 : Int) (l18 : List (List Pl)) (l21 : List Int) : Option Int :=
  loopN (Dimpl_Pieces_4 n t35) n (t5, t36, l18, l21)
theorem Timpl_Pieces_0 {Y} (n : Nat) (t5 t35 t36 : Int) (l18 : List (List Pl)) (l21 : List Int) (r : Int) (h : Dimpl_Pieces_0 n t5 t35 t36 l18 l21 = some r) : Wk Try.prog H Y 13 [.code (cp [1, 1, 1, 1, 1, 1, 0, 1, 0] (bodyOf Try.f13)), .blk 2, .code (cp [1, 1, 1, 1, 1, 1, 1] (bodyOf Try.f13))] (FinX Try.prog Try.f13 [] (i64 r) []) ⟨[(3, .msl 18 l18.length), (4, .msl 21 l21.length), (5, i64 t5), (34, .msl 18 l18.length), (35, i64 t35), (36, i64 t36)], [(18, ⟨false, 1, (ePls true).f l18⟩), (21, ⟨true, 1, (eInt).f l21⟩)]⟩ := by
  unfold Dimpl_Pieces_0 at h
  exact x_to 0 [] onil (Timpl_Pieces_4 n t35 n (t5, t36, l18, l21) r h) (by kernel_rfl)
def Dimpl_Pieces_5 (n : Nat) (t5 t25 : Int) (l18 : List (List Pl)) (rec0 : (Int × List Int) → Option Int) (a : (Int × List Int)) : Option Int :=
  match a with
  | (t26, l21) => frk (decide (t26 < t25)) ((lget l21 t26).bind fun _v3 => rec0 (w64 (t26 + 1), (l21.set (Int.toNat t26) t26))) (Dimpl_Pieces_0 n t5 (l18.length : Int) 0 l18 l21)
theorem Timpl_Pieces_5 {Y} (n : Nat) (t5 t25 : Int) (l18 : List (List Pl)) : ∀ (m : Nat) (a : (Int × List Int)) (r : Int), loopN (Dimpl_Pieces_5 n t5 t25 l18) m a = some r → Wk Try.prog H Y 13 [.code (cp [1, 1, 1, 1, 1, 0, 1, 0] (bodyOf Try.f13)), .blk 0, .code (cp [1, 1, 1, 1, 1, 1] (bodyOf Try.f13))] (FinX Try.prog Try.f13 [] (i64 r) []) ⟨[(3, .msl 18 l18.length), (4, .msl 21 a.2.length), (5, i64 t5), (25, i64 t25), (26, i64 a.1)], [(18, ⟨false, 1, (ePls true).f l18⟩), (21, ⟨true, 1, (eInt).f a.2⟩)]⟩ := by
  refine loopN_ind (fun _rec0 hrec0 a r h => ?_)
  obtain ⟨t26, l21⟩ := a
  unfold Dimpl_Pieces_5 at h
  refine x_frk 6 [] onil h (by kernel_rfl) (fun h => ?_) (fun h => ?_)
  · obtain ⟨_v3, hv3, h⟩ := bind_some h
    exact x_to 23 [(5, .unit), (0, .cells ((eInt).f (l21.set (Int.toNat t26) t26))), (0, .fix 4 (.msl 21 (l21.set (Int.toNat t26) t26).length)), (0, .fix 29 (.msl 21 (l21.set (Int.toNat t26) t26).length))] (ocons (inr hv3) (ocons (stA eInt hv3 0 1 [i64 t26] t26 rfl rfl) (ocons (setLen 21 l21 (Int.toNat t26) t26) (ocons (setLen 21 l21 (Int.toNat t26) t26) onil)))) (hrec0 (w64 (t26 + 1), (l21.set (Int.toNat t26) t26)) r h) (by kernel_rfl)
  · exact x_to 9 [] onil (Timpl_Pieces_0 n t5 (l18.length : Int) 0 l18 l21 r h) (by kernel_rfl)
def Dimpl_Pieces (n : Nat) (a0 : Sol) : Option Int :=
  (Dimpl_SolidOk n a0).bind fun v0 => frk (!v0) (some 0) ((Dimpl_Solid_cells n a0 true []).bind fun v1 => chk (mkB (v1.length : Int) 8) (loopN (Dimpl_Pieces_5 n (v1.length : Int) (v1.length : Int) v1) n (0, (List.replicate (Int.toNat (v1.length : Int)) (0 : Int)))))
theorem Timpl_Pieces {Y} (n : Nat) (a0 : Sol) (r : Int) (h : Dimpl_Pieces n a0 = some r) : Big Try.prog H Y (.call 13 [.agg [bl a0.inn, i64 a0.pl.A, i64 a0.pl.B, i64 a0.pl.C, i64 a0.pl.D, .sl false 6 a0.kids.length ((eSol false).f a0.kids)]] (lk []) (i64 r) (lk [])) := by
  unfold Dimpl_Pieces at h
  refine x_call (fn := Try.f13) (c := bodyOf Try.f13) (bs0 := []) Try.func13 (by kernel_rfl) (by kernel_rfl) ?_
  obtain ⟨v0, hv0, h⟩ := bind_some h
  refine x_frk 12 [(3, .call [] [] (bl v0) [])] (ocons (Timpl_SolidOk (Y := Y) n a0 _ hv0) onil) h (by kernel_rfl) (fun h => ?_) (fun h => ?_)
  · replace h := Option.some.inj h; subst h
    exact x_end 4 [] [] onil onil (by kernel_rfl)
  · obtain ⟨v1, hv1, h⟩ := bind_some h
    obtain ⟨c2, h⟩ := chk_some h
    exact x_to 27 [(0, .call [(false, 4)] [] (.sl true 1 v1.length ((ePls true).f v1)) []), (3, .mk (List.replicate (Int.toNat (v1.length : Int)) (0 : Int)).length ((eInt).f (List.replicate (Int.toNat (v1.length : Int)) (0 : Int))))] (ocons (Timpl_Solid_cells (Y := Y) n a0 true [] [] _ hv1) (ocons (show hasSh (.sl true 1 v1.length ((ePls true).f v1)) = false by simp [hasSh, hasShL, nSh, nShI, nShB, nShP, nShT, nShN, nShPs]) (ocons (rflI (v1.length : Int)) (ocons (mkOk eInt c2 (0 : Int) rfl) onil)))) (Timpl_Pieces_5 n (v1.length : Int) (v1.length : Int) v1 n (0, (List.replicate (Int.toNat (v1.length : Int)) (0 : Int))) r h) (by kernel_rfl)
/-! laws.eqPlane -/
def Dlaws_eqPlane (a0 : Pl) (a1 : Pl) : Option Bool :=
  frk (a0.A != a1.A) (some false) (frk (a0.B != a1.B) (some false) (frk (a0.C != a1.C) (some false) (frk (a0.D != a1.D) (some false) (some true))))
theorem Tlaws_eqPlane {Y} (a0 : Pl) (a1 : Pl) (r : Bool) (h : Dlaws_eqPlane a0 a1 = some r) : Big Try.prog H Y (.call 31 [.agg [i64 a0.A, i64 a0.B, i64 a0.C, i64 a0.D], .agg [i64 a1.A, i64 a1.B, i64 a1.C, i64 a1.D]] (lk []) (bl r) (lk [])) := by
  unfold Dlaws_eqPlane at h
  refine x_call (fn := Try.f31) (c := bodyOf Try.f31) (bs0 := []) Try.func31 (by kernel_rfl) (by kernel_rfl) ?_
  refine x_frk 15 [] onil h (by kernel_rfl) (fun h => ?_) (fun h => ?_)
  · replace h := Option.some.inj h; subst h
    exact x_end 4 [] [] onil onil (by kernel_rfl)
  · refine x_frk 10 [] onil h (by kernel_rfl) (fun h => ?_) (fun h => ?_)
    · replace h := Option.some.inj h; subst h
      exact x_end 4 [] [] onil onil (by kernel_rfl)
    · refine x_frk 10 [] onil h (by kernel_rfl) (fun h => ?_) (fun h => ?_)
      · replace h := Option.some.inj h; subst h
        exact x_end 4 [] [] onil onil (by kernel_rfl)
      · refine x_frk 10 [] onil h (by kernel_rfl) (fun h => ?_) (fun h => ?_)
        · replace h := Option.some.inj h; subst h
          exact x_end 4 [] [] onil onil (by kernel_rfl)
        · replace h := Option.some.inj h; subst h
          exact x_end 5 [] [] onil onil (by kernel_rfl)
/-! laws.eqSolidS -/
def Dlaws_eqSolidS_in_0 (_n : Nat) (self : (Sol × Sol) → Option Bool) (t0 t1 : List Sol) (rec0 : Int → Option Bool) (a : Int) : Option Bool :=
  match a with
  | t5 => frk (decide (t5 < (t0.length : Int))) ((lget t0 t5).bind fun v0 => (lget t1 t5).bind fun v1 => (self (v0, v1)).bind fun v2 => frk (!v2) (some false) (rec0 (w64 (t5 + 1)))) (some true)
theorem Tlaws_eqSolidS_in_0 {Y} (n : Nat) (self : (Sol × Sol) → Option Bool) (hself : ∀ (a : (Sol × Sol)) (r : Bool), self a = some r → Big Try.prog H Y (.call 11 [.agg [bl a.1.inn, i64 a.1.pl.A, i64 a.1.pl.B, i64 a.1.pl.C, i64 a.1.pl.D, .sl false 6 a.1.kids.length ((eSol false).f a.1.kids)], .agg [bl a.2.inn, i64 a.2.pl.A, i64 a.2.pl.B, i64 a.2.pl.C, i64 a.2.pl.D, .sl false 6 a.2.kids.length ((eSol false).f a.2.kids)]] (lk []) (bl r) (lk []))) (t0 t1 : List Sol) : ∀ (m : Nat) (a : Int) (r : Bool), loopN (Dlaws_eqSolidS_in_0 n self t0 t1) m a = some r → Wk Try.prog H Y 32 [.code (cp [1, 1, 0, 1, 0] (bodyOf Try.f32)), .blk 0, .code (cp [1, 1, 1] (bodyOf Try.f32))] (FinX Try.prog Try.f32 [] (bl r) []) ⟨[(0, .sl false 6 t0.length ((eSol false).f t0)), (1, .sl false 6 t1.length ((eSol false).f t1)), (5, i64 a)], []⟩ := by
  refine loopN_ind (fun _rec0 hrec0 a r h => ?_)
  obtain ⟨t5, rfl⟩ : ∃ x, x = a := ⟨a, rfl⟩
  unfold Dlaws_eqSolidS_in_0 at h
  refine x_frk 9 [] onil h (by kernel_rfl) (fun h => ?_) (fun h => ?_)
  · obtain ⟨v0, hv0, h⟩ := bind_some h
    obtain ⟨v1, hv1, h⟩ := bind_some h
    obtain ⟨v2, hv2, h⟩ := bind_some h
    refine x_frk 16 [(2, .val (.cptr ((eSol false).c v0 ++ (eSol false).f ((t0).drop (Int.toNat t5 + 1))))), (3, .val (.cptr ((eSol false).c v1 ++ (eSol false).f ((t1).drop (Int.toNat t5 + 1))))), (1, .call [] [] (bl v2) [])] (ocons (ix (eSol false) hv0) (ocons (ix (eSol false) hv1) (ocons (hself (v0, v1) _ hv2) onil))) h (by kernel_rfl) (fun h => ?_) (fun h => ?_)
    · replace h := Option.some.inj h; subst h
      exact x_end 4 [] [] onil onil (by kernel_rfl)
    · exact x_to 8 [] onil (hrec0 (w64 (t5 + 1)) r h) (by kernel_rfl)
  · replace h := Option.some.inj h; subst h
    exact x_end 5 [] [] onil onil (by kernel_rfl)
def Dlaws_eqSolidS_in (n : Nat) (self : (Sol × Sol) → Option Bool) (a0 : (List Sol)) (a1 : (List Sol)) : Option Bool :=
  frk ((a0.length : Int) != (a1.length : Int)) (some false) (loopN (Dlaws_eqSolidS_in_0 n self a0 a1) n 0)
theorem Tlaws_eqSolidS_in {Y} (n : Nat) (self : (Sol × Sol) → Option Bool) (hself : ∀ (a : (Sol × Sol)) (r : Bool), self a = some r → Big Try.prog H Y (.call 11 [.agg [bl a.1.inn, i64 a.1.pl.A, i64 a.1.pl.B, i64 a.1.pl.C, i64 a.1.pl.D, .sl false 6 a.1.kids.length ((eSol false).f a.1.kids)], .agg [bl a.2.inn, i64 a.2.pl.A, i64 a.2.pl.B, i64 a.2.pl.C, i64 a.2.pl.D, .sl false 6 a.2.kids.length ((eSol false).f a.2.kids)]] (lk []) (bl r) (lk []))) (a0 : (List Sol)) (a1 : (List Sol)) (r : Bool) (h : Dlaws_eqSolidS_in n self a0 a1 = some r) : Big Try.prog H Y (.call 32 [.sl false 6 a0.length ((eSol false).f a0), .sl false 6 a1.length ((eSol false).f a1)] (lk []) (bl r) (lk [])) := by
  unfold Dlaws_eqSolidS_in at h
  refine x_call (fn := Try.f32) (c := bodyOf Try.f32) (bs0 := []) Try.func32 (by kernel_rfl) (by kernel_rfl) ?_
  refine x_frk 13 [] onil h (by kernel_rfl) (fun h => ?_) (fun h => ?_)
  · replace h := Option.some.inj h; subst h
    exact x_end 4 [] [] onil onil (by kernel_rfl)
  · exact x_to 7 [] onil (Tlaws_eqSolidS_in_0 n self hself a0 a1 n 0 r h) (by kernel_rfl)
/-! laws.eqSolid -/
def Dlaws_eqSolid_b (n : Nat) (self : (Sol × Sol) → Option Bool) (a : (Sol × Sol)) : Option Bool :=
  match a with
  | (a0, a1) => frk (!(a0.inn == a1.inn)) (some false) ((Dlaws_eqPlane a0.pl a1.pl).bind fun v0 => frk (!v0) (some false) ((Dlaws_eqSolidS_in n self a0.kids a1.kids).bind fun v1 => frk (!v1) (some false) (some true)))
def Dlaws_eqSolid (n : Nat) (a0 : Sol) (a1 : Sol) : Option Bool := loopN (Dlaws_eqSolid_b n) n (a0, a1)
theorem Tlaws_eqSolid_b {Y} (n : Nat) : ∀ (m : Nat) (a : (Sol × Sol)) (r : Bool), loopN (Dlaws_eqSolid_b n) m a = some r → ∀ (_ : Unit), Big Try.prog H Y (.call 11 [.agg [bl a.1.inn, i64 a.1.pl.A, i64 a.1.pl.B, i64 a.1.pl.C, i64 a.1.pl.D, .sl false 6 a.1.kids.length ((eSol false).f a.1.kids)], .agg [bl a.2.inn, i64 a.2.pl.A, i64 a.2.pl.B, i64 a.2.pl.C, i64 a.2.pl.D, .sl false 6 a.2.kids.length ((eSol false).f a.2.kids)]] (lk []) (bl r) (lk [])) := by
  refine loopN_ind (fun self hs a r h => ?_)
  have hself : ∀ (a : (Sol × Sol)) (r : Bool), self a = some r → Big Try.prog H Y (.call 11 [.agg [bl a.1.inn, i64 a.1.pl.A, i64 a.1.pl.B, i64 a.1.pl.C, i64 a.1.pl.D, .sl false 6 a.1.kids.length ((eSol false).f a.1.kids)], .agg [bl a.2.inn, i64 a.2.pl.A, i64 a.2.pl.B, i64 a.2.pl.C, i64 a.2.pl.D, .sl false 6 a.2.kids.length ((eSol false).f a.2.kids)]] (lk []) (bl r) (lk [])) := fun a r h => hs a r h ()
  intro _
  obtain ⟨a0, a1⟩ := a
  unfold Dlaws_eqSolid_b at h
  refine x_call (fn := Try.f11) (c := bodyOf Try.f11) (bs0 := []) Try.func11 (by kernel_rfl) (by kernel_rfl) ?_
  refine x_frk 15 [] onil h (by kernel_rfl) (fun h => ?_) (fun h => ?_)
  · replace h := Option.some.inj h; subst h
    exact x_end 4 [] [] onil onil (by kernel_rfl)
  · obtain ⟨v0, hv0, h⟩ := bind_some h
    refine x_frk 11 [(4, .call [] [] (bl v0) [])] (ocons (Tlaws_eqPlane (Y := Y) a0.pl a1.pl _ hv0) onil) h (by kernel_rfl) (fun h => ?_) (fun h => ?_)
    · replace h := Option.some.inj h; subst h
      exact x_end 4 [] [] onil onil (by kernel_rfl)
    · obtain ⟨v1, hv1, h⟩ := bind_some h
      refine x_frk 11 [(4, .call [] [] (bl v1) [])] (ocons (Tlaws_eqSolidS_in (Y := Y) n self hself a0.kids a1.kids _ hv1) onil) h (by kernel_rfl) (fun h => ?_) (fun h => ?_)
      · replace h := Option.some.inj h; subst h
        exact x_end 4 [] [] onil onil (by kernel_rfl)
      · replace h := Option.some.inj h; subst h
        exact x_end 5 [] [] onil onil (by kernel_rfl)
theorem Tlaws_eqSolid {Y} (n : Nat) (a0 : Sol) (a1 : Sol) (r : Bool) (h : Dlaws_eqSolid n a0 a1 = some r) : Big Try.prog H Y (.call 11 [.agg [bl a0.inn, i64 a0.pl.A, i64 a0.pl.B, i64 a0.pl.C, i64 a0.pl.D, .sl false 6 a0.kids.length ((eSol false).f a0.kids)], .agg [bl a1.inn, i64 a1.pl.A, i64 a1.pl.B, i64 a1.pl.C, i64 a1.pl.D, .sl false 6 a1.kids.length ((eSol false).f a1.kids)]] (lk []) (bl r) (lk [])) := Tlaws_eqSolid_b n n (a0, a1) r h ()
/-! laws.FnExactPieces -/
def Dlaws_FnExactPieces (n : Nat) (a0 : Sol) : Option Bool :=
  (Dlaws_szSolid n a0 1048576).bind fun v0 => frk (decide (v0 < 0)) (some true) ((Dlaws_toSolid n a0).bind fun v1 => (Dspec_Pieces n v1).bind fun v2 => (Dlaws_toSolid n a0).bind fun v3 => (Dimpl_Pieces n v3).bind fun v4 => frk (v4 != v2) (some false) ((Dlaws_toSolid n a0).bind fun v5 => (Dlaws_eqSolid n v3 v5).bind fun v6 => frk (!v6) (some false) (some true)))
theorem Tlaws_FnExactPieces {Y} (n : Nat) (a0 : Sol) (r : Bool) (h : Dlaws_FnExactPieces n a0 = some r) : Big Try.prog H Y (.call 4 [.agg [bl a0.inn, i64 a0.pl.A, i64 a0.pl.B, i64 a0.pl.C, i64 a0.pl.D, .sl false 6 a0.kids.length ((eSol false).f a0.kids)]] (lk []) (bl r) (lk [])) := by
  unfold Dlaws_FnExactPieces at h
  refine x_call (fn := Try.f4) (c := bodyOf Try.f4) (bs0 := []) Try.func4 (by kernel_rfl) (by kernel_rfl) ?_
  obtain ⟨v0, hv0, h⟩ := bind_some h
  refine x_frk 22 [(5, .call [] [] (i64 v0) [])] (ocons (Tlaws_szSolid (Y := Y) n a0 1048576 _ hv0) onil) h (by kernel_rfl) (fun h => ?_) (fun h => ?_)
  · replace h := Option.some.inj h; subst h
    exact x_end 4 [] [] onil onil (by kernel_rfl)
  · obtain ⟨v1, hv1, h⟩ := bind_some h
    obtain ⟨v2, hv2, h⟩ := bind_some h
    obtain ⟨v3, hv3, h⟩ := bind_some h
    obtain ⟨v4, hv4, h⟩ := bind_some h
    refine x_frk 28 [(1, .call [] [] (.agg [bl v1.inn, i64 v1.pl.A, i64 v1.pl.B, i64 v1.pl.C, i64 v1.pl.D, .sl true 6 v1.kids.length ((eSol true).f v1.kids)]) []), (0, .call [] [(eSol false).f v1.kids] (i64 v2) []), (2, .call [] [] (.agg [bl v3.inn, i64 v3.pl.A, i64 v3.pl.B, i64 v3.pl.C, i64 v3.pl.D, .sl true 6 v3.kids.length ((eSol true).f v3.kids)]) []), (2, .rows [(eSol false).f v3.kids]), (0, .call [] [] (i64 v4) [])] (ocons (Tlaws_toSolid (Y := Y) n a0 _ hv1) (ocons (Tspec_Pieces (Y := Y) n v1 _ hv2) (ocons (Enc.share (eSol true) (eSol false) (sSol true) v1.kids) (ocons (Tlaws_toSolid (Y := Y) n a0 _ hv3) (ocons (Enc.share (eSol true) (eSol false) (sSol true) v3.kids) (ocons (Timpl_Pieces (Y := Y) n v3 _ hv4) onil)))))) h (by kernel_rfl) (fun h => ?_) (fun h => ?_)
    · replace h := Option.some.inj h; subst h
      exact x_end 4 [] [] onil onil (by kernel_rfl)
    · obtain ⟨v5, hv5, h⟩ := bind_some h
      obtain ⟨v6, hv6, h⟩ := bind_some h
      refine x_frk 10 [(0, .rows [(eSol false).f v3.kids]), (1, .call [] [] (.agg [bl v5.inn, i64 v5.pl.A, i64 v5.pl.B, i64 v5.pl.C, i64 v5.pl.D, .sl true 6 v5.kids.length ((eSol true).f v5.kids)]) []), (0, .call [] [(eSol false).f v5.kids] (bl v6) [])] (ocons (Enc.share (eSol true) (eSol false) (sSol true) v3.kids) (ocons (Tlaws_toSolid (Y := Y) n a0 _ hv5) (ocons (Tlaws_eqSolid (Y := Y) n v3 v5 _ hv6) (ocons (Enc.share (eSol true) (eSol false) (sSol true) v5.kids) onil)))) h (by kernel_rfl) (fun h => ?_) (fun h => ?_)
      · replace h := Option.some.inj h; subst h
        exact x_end 4 [] [] onil onil (by kernel_rfl)
      · replace h := Option.some.inj h; subst h
        exact x_end 5 [] [] onil onil (by kernel_rfl)
end Evl.T
