/- Walks. No condition. -/
import Derived.Test.YtgaenniknmphcaaGreatJm
import Derived.Test.YtgaenniknmphcaaGreatWs
import Derived.Test.YtgaenniknmphcaaGreatChecked
namespace Evl.T
open Go Evl Go.Proofs
set_option maxRecDepth 100000
def HF : FuncId → Bool := fun f => [50].contains f
def HB : Hints := { mv := hasP [(62, 47), (94, 41)], own := hasP [(56, 1), (100, 0), (116, 1), (116, 2), (123, 1), (134, 1), (134, 2), (135, 1), (188, 2), (188, 3), (243, 1), (243, 2)], mt := hasP [(56, 0), (57, 0), (58, 0), (60, 0), (61, 0), (70, 0), (92, 0), (112, 0), (118, 0), (123, 0), (146, 0), (170, 0), (187, 0), (188, 0), (217, 0), (220, 0), (242, 0)], eqt := fun t => [32, 43, 112].contains t, fl := fun f => [50].contains f }
def H : Hints := withMarks HB Tryz.prog HF fun _ _ => True
theorem mixW : Tryz.prog.follows .mixedOrders = true := by decide +kernel
theorem eqW : EqtOk Tryz.prog H := eqt_of fun t ht => by
  have h : [32, 43, 112].contains t = true := ht
  have : t = 32 ∨ t = 43 ∨ t = 112 := by simpa using h
  rcases this with rfl | rfl | rfl
  · exact .inl ⟨by kernel_rfl, by kernel_rfl, by kernel_rfl, by kernel_rfl, by kernel_rfl⟩
  · exact .inl ⟨by kernel_rfl, by kernel_rfl, by kernel_rfl, by kernel_rfl, by kernel_rfl⟩
  · exact .inr ⟨⟨3, 3, (Tryz.prog.info? 3).get (by kernel_rfl), by kernel_rfl, (Option.some_get _).symm, by kernel_rfl, by kernel_rfl, by kernel_rfl, by kernel_rfl⟩, by kernel_rfl⟩
/-! laws.szSolidS -/
def Dlaws_szSolidS_in_0 (_n : Nat) (self : (Sol × Int) → Option Int) (t0 : List Sol) (rec0 : (Int × Int) → Option Int) (a : (Int × Int)) : Option Int :=
  match a with
  | (t1, t5) => frk (decide (t5 < (t0.length : Int))) ((lget t0 t5).bind fun v0 => (self (v0, t1)).bind fun v1 => frk (decide (v1 < 0)) (some (-1)) (rec0 (v1, w64 (t5 + 1)))) (some t1)
theorem Tlaws_szSolidS_in_0 {Y} (n : Nat) (self : (Sol × Int) → Option Int) (hself : ∀ (a : (Sol × Int)) (r : Int), self a = some r → Big Tryz.prog H Y (.call 7 [.agg [bl a.1.inn, i64 a.1.pl.A, i64 a.1.pl.B, i64 a.1.pl.C, i64 a.1.pl.D, .sl false 6 a.1.kids.length ((eSol false).f a.1.kids)], i64 a.2] (lk []) (i64 r) (lk []))) (t0 : List Sol) : ∀ (m : Nat) (a : (Int × Int)) (r : Int), loopN (Dlaws_szSolidS_in_0 n self t0) m a = some r → Wk Tryz.prog H Y 39 [.code (cp [1, 1, 1, 0, 1, 0] (bodyOf Tryz.f39)), .blk 0, .code (cp [1, 1, 1, 1] (bodyOf Tryz.f39))] (FinX Tryz.prog Tryz.f39 [] (i64 r) []) ⟨[(0, .sl false 6 t0.length ((eSol false).f t0)), (1, i64 a.1), (5, i64 a.2)], []⟩ := by
  refine loopN_ind (fun _rec0 hrec0 a r h => ?_)
  obtain ⟨t1, t5⟩ := a
  unfold Dlaws_szSolidS_in_0 at h
  refine x_frk 9 [] onil h (by kernel_rfl) (fun h => ?_) (fun h => ?_)
  · obtain ⟨v0, hv0, h⟩ := bind_some h
    obtain ⟨v1, hv1, h⟩ := bind_some h
    refine x_frk 18 [(2, .val (.cptr ((eSol false).c v0 ++ (eSol false).f ((t0).drop (Int.toNat t5 + 1))))), (2, .call [] [] (i64 v1) [])] (ocons (ix (eSol false) hv0) (ocons (hself (v0, t1) _ hv1) onil)) h (by kernel_rfl) (fun h => ?_) (fun h => ?_)
    · replace h := Option.some.inj h; subst h
      exact x_end 4 [] [] onil onil (by kernel_rfl)
    · exact x_to 8 [] onil (hrec0 (v1, w64 (t5 + 1)) r h) (by kernel_rfl)
  · replace h := Option.some.inj h; subst h
    exact x_end 6 [] [] onil onil (by kernel_rfl)
def Dlaws_szSolidS_in (n : Nat) (self : (Sol × Int) → Option Int) (a0 : (List Sol)) (a1 : Int) : Option Int :=
  frk (decide ((w64 (a1 - (a0.length : Int))) < 0)) (some (-1)) (loopN (Dlaws_szSolidS_in_0 n self a0) n (w64 (a1 - (a0.length : Int)), 0))
theorem Tlaws_szSolidS_in {Y} (n : Nat) (self : (Sol × Int) → Option Int) (hself : ∀ (a : (Sol × Int)) (r : Int), self a = some r → Big Tryz.prog H Y (.call 7 [.agg [bl a.1.inn, i64 a.1.pl.A, i64 a.1.pl.B, i64 a.1.pl.C, i64 a.1.pl.D, .sl false 6 a.1.kids.length ((eSol false).f a.1.kids)], i64 a.2] (lk []) (i64 r) (lk []))) (a0 : (List Sol)) (a1 r : Int) (h : Dlaws_szSolidS_in n self a0 a1 = some r) : Big Tryz.prog H Y (.call 39 [.sl false 6 a0.length ((eSol false).f a0), i64 a1] (lk []) (i64 r) (lk [])) := by
  unfold Dlaws_szSolidS_in at h
  refine x_call (fn := Tryz.f39) (c := bodyOf Tryz.f39) (bs0 := []) Tryz.func39 (by kernel_rfl) (by kernel_rfl) ?_
  refine x_frk 18 [] onil h (by kernel_rfl) (fun h => ?_) (fun h => ?_)
  · replace h := Option.some.inj h; subst h
    exact x_end 4 [] [] onil onil (by kernel_rfl)
  · exact x_to 7 [] onil (Tlaws_szSolidS_in_0 n self hself a0 n (w64 (a1 - (a0.length : Int)), 0) r h) (by kernel_rfl)
/-! laws.szSolid -/
def Dlaws_szSolid_b (n : Nat) (self : (Sol × Int) → Option Int) (a : (Sol × Int)) : Option Int :=
  match a with
  | (a0, a1) => (Dlaws_szSolidS_in n self a0.kids a1).bind fun v0 => frk (decide (v0 < 0)) (some (-1)) (some v0)
def Dlaws_szSolid (n : Nat) (a0 : Sol) (a1 : Int) : Option Int := loopN (Dlaws_szSolid_b n) n (a0, a1)
theorem Tlaws_szSolid_b {Y} (n : Nat) : ∀ (m : Nat) (a : (Sol × Int)) (r : Int), loopN (Dlaws_szSolid_b n) m a = some r → ∀ (_ : Unit), Big Tryz.prog H Y (.call 7 [.agg [bl a.1.inn, i64 a.1.pl.A, i64 a.1.pl.B, i64 a.1.pl.C, i64 a.1.pl.D, .sl false 6 a.1.kids.length ((eSol false).f a.1.kids)], i64 a.2] (lk []) (i64 r) (lk [])) := by
  refine loopN_ind (fun self hs a r h => ?_)
  have hself : ∀ (a : (Sol × Int)) (r : Int), self a = some r → Big Tryz.prog H Y (.call 7 [.agg [bl a.1.inn, i64 a.1.pl.A, i64 a.1.pl.B, i64 a.1.pl.C, i64 a.1.pl.D, .sl false 6 a.1.kids.length ((eSol false).f a.1.kids)], i64 a.2] (lk []) (i64 r) (lk [])) := fun a r h => hs a r h ()
  intro _
  obtain ⟨a0, a1⟩ := a
  unfold Dlaws_szSolid_b at h
  refine x_call (fn := Tryz.f7) (c := bodyOf Tryz.f7) (bs0 := []) Tryz.func7 (by kernel_rfl) (by kernel_rfl) ?_
  obtain ⟨v0, hv0, h⟩ := bind_some h
  refine x_frk 19 [(5, .call [] [] (i64 v0) [])] (ocons (Tlaws_szSolidS_in (Y := Y) n self hself a0.kids a1 _ hv0) onil) h (by kernel_rfl) (fun h => ?_) (fun h => ?_)
  · replace h := Option.some.inj h; subst h
    exact x_end 4 [] [] onil onil (by kernel_rfl)
  · replace h := Option.some.inj h; subst h
    exact x_end 6 [] [] onil onil (by kernel_rfl)
theorem Tlaws_szSolid {Y} (n : Nat) (a0 : Sol) (a1 r : Int) (h : Dlaws_szSolid n a0 a1 = some r) : Big Tryz.prog H Y (.call 7 [.agg [bl a0.inn, i64 a0.pl.A, i64 a0.pl.B, i64 a0.pl.C, i64 a0.pl.D, .sl false 6 a0.kids.length ((eSol false).f a0.kids)], i64 a1] (lk []) (i64 r) (lk [])) := Tlaws_szSolid_b n n (a0, a1) r h ()
/-! laws.toPlane -/
def Dlaws_toPlane (a0 : Pl) : Option Pl :=
  some a0
theorem Tlaws_toPlane {Y} (a0 : Pl) (r : Pl) (h : Dlaws_toPlane a0 = some r) : Big Tryz.prog H Y (.call 47 [.agg [i64 a0.A, i64 a0.B, i64 a0.C, i64 a0.D]] (lk []) (.agg [i64 r.A, i64 r.B, i64 r.C, i64 r.D]) (lk [])) := by
  unfold Dlaws_toPlane at h
  refine x_call (fn := Tryz.f47) (c := bodyOf Tryz.f47) (bs0 := []) Tryz.func47 (by kernel_rfl) (by kernel_rfl) ?_
  replace h := Option.some.inj h; subst h
  exact x_end 42 [] [] onil onil (by kernel_rfl)
/-! laws.toSolidS -/
def Dlaws_toSolidS_in_0 (_n : Nat) (self : Sol → Option Sol) (t0 : List Sol) (rec0 : (Int × List Sol) → Option (List Sol)) (a : (Int × List Sol)) : Option (List Sol) :=
  match a with
  | (t4, l7) => frk (decide (t4 < (t0.length : Int))) ((lget t0 t4).bind fun v1 => (self v1).bind fun v2 => (lget l7 t4).bind fun _v3 => rec0 (w64 (t4 + 1), (l7.set (Int.toNat t4) v2))) (some l7)
theorem Tlaws_toSolidS_in_0 {Y} (n : Nat) (self : Sol → Option Sol) (hself : ∀ (a : Sol) (r : Sol), self a = some r → Big Tryz.prog H Y (.call 9 [.agg [bl a.inn, i64 a.pl.A, i64 a.pl.B, i64 a.pl.C, i64 a.pl.D, .sl false 6 a.kids.length ((eSol false).f a.kids)]] (lk []) (.agg [bl r.inn, i64 r.pl.A, i64 r.pl.B, i64 r.pl.C, i64 r.pl.D, .sl true 6 r.kids.length ((eSol true).f r.kids)]) (lk []))) (t0 : List Sol) : ∀ (m : Nat) (a : (Int × List Sol)) (r : (List Sol)), loopN (Dlaws_toSolidS_in_0 n self t0) m a = some r → Wk Tryz.prog H Y 48 [.code (cp [1, 1, 0, 1, 0] (bodyOf Tryz.f48)), .blk 0, .code (cp [1, 1, 1] (bodyOf Tryz.f48))] (FinX Tryz.prog Tryz.f48 [] (.sl true 6 r.length ((eSol true).f r)) []) ⟨[(0, .sl false 6 t0.length ((eSol false).f t0)), (3, .msl 7 a.2.length), (4, i64 a.1)], [(7, ⟨true, 6, (eSol true).f a.2⟩)]⟩ := by
  refine loopN_ind (fun _rec0 hrec0 a r h => ?_)
  obtain ⟨t4, l7⟩ := a
  unfold Dlaws_toSolidS_in_0 at h
  refine x_frk 9 [] onil h (by kernel_rfl) (fun h => ?_) (fun h => ?_)
  · obtain ⟨v1, hv1, h⟩ := bind_some h
    obtain ⟨v2, hv2, h⟩ := bind_some h
    obtain ⟨_v3, hv3, h⟩ := bind_some h
    exact x_to 23 [(4, .val (.cptr ((eSol false).c v1 ++ (eSol false).f ((t0).drop (Int.toNat t4 + 1))))), (1, .call [] [] (.agg [bl v2.inn, i64 v2.pl.A, i64 v2.pl.B, i64 v2.pl.C, i64 v2.pl.D, .sl true 6 v2.kids.length ((eSol true).f v2.kids)]) []), (0, .unit), (0, .cells ((eSol true).f (l7.set (Int.toNat t4) v2))), (0, .fix 3 (.msl 7 (l7.set (Int.toNat t4) v2).length)), (0, .fix 14 (.msl 7 (l7.set (Int.toNat t4) v2).length))] (ocons (ix (eSol false) hv1) (ocons (hself v1 _ hv2) (ocons (inr hv3) (ocons (stA (eSol true) hv3 0 6 [bl v2.inn, i64 v2.pl.A, i64 v2.pl.B, i64 v2.pl.C, i64 v2.pl.D, .sl true 6 v2.kids.length ((eSol true).f v2.kids)] v2 rfl rfl) (ocons (setLen 7 l7 (Int.toNat t4) v2) (ocons (setLen 7 l7 (Int.toNat t4) v2) onil)))))) (hrec0 (w64 (t4 + 1), (l7.set (Int.toNat t4) v2)) r h) (by kernel_rfl)
  · replace h := Option.some.inj h; subst h
    exact x_end 6 [] [] onil (ocons (len_row (L := l7) (eSol true)) onil) (by kernel_rfl)
def Dlaws_toSolidS_in (n : Nat) (self : Sol → Option Sol) (a0 : (List Sol)) : Option (List Sol) :=
  chk (mkB (a0.length : Int) 64) (loopN (Dlaws_toSolidS_in_0 n self a0) n (0, (List.replicate (Int.toNat (a0.length : Int)) zSol)))
theorem Tlaws_toSolidS_in {Y} (n : Nat) (self : Sol → Option Sol) (hself : ∀ (a : Sol) (r : Sol), self a = some r → Big Tryz.prog H Y (.call 9 [.agg [bl a.inn, i64 a.pl.A, i64 a.pl.B, i64 a.pl.C, i64 a.pl.D, .sl false 6 a.kids.length ((eSol false).f a.kids)]] (lk []) (.agg [bl r.inn, i64 r.pl.A, i64 r.pl.B, i64 r.pl.C, i64 r.pl.D, .sl true 6 r.kids.length ((eSol true).f r.kids)]) (lk []))) (a0 : (List Sol)) (r : (List Sol)) (h : Dlaws_toSolidS_in n self a0 = some r) : Big Tryz.prog H Y (.call 48 [.sl false 6 a0.length ((eSol false).f a0)] (lk []) (.sl true 6 r.length ((eSol true).f r)) (lk [])) := by
  unfold Dlaws_toSolidS_in at h
  refine x_call (fn := Tryz.f48) (c := bodyOf Tryz.f48) (bs0 := []) Tryz.func48 (by kernel_rfl) (by kernel_rfl) ?_
  obtain ⟨c0, h⟩ := chk_some h
  exact x_to 20 [(3, .mk (List.replicate (Int.toNat (a0.length : Int)) ()).length (eZs.f (List.replicate (Int.toNat (a0.length : Int)) ()))), (1, .wkb 7 ⟨true, 6, eZs.f (List.replicate (Int.toNat (a0.length : Int)) ())⟩ ⟨true, 6, (eSol true).f (List.replicate (Int.toNat (a0.length : Int)) zSol)⟩), (0, .fix 3 (.msl 7 (List.replicate (Int.toNat (a0.length : Int)) zSol).length)), (0, .fix 7 (.msl 7 (List.replicate (Int.toNat (a0.length : Int)) zSol).length))] (ocons (rflI (a0.length : Int)) (ocons (mkOk eZs c0 () rfl) (ocons (rflB ⟨true, 6, eZs.f (List.replicate (Int.toNat (a0.length : Int)) ())⟩) (ocons (wkZs true true (Int.toNat (a0.length : Int))) (ocons (congrArg (AV.msl 7) (zLen (Int.toNat (a0.length : Int)))) (ocons (congrArg (AV.msl 7) (zLen (Int.toNat (a0.length : Int)))) onil)))))) (Tlaws_toSolidS_in_0 n self hself a0 n (0, (List.replicate (Int.toNat (a0.length : Int)) zSol)) r h) (by kernel_rfl)
/-! laws.toSolid -/
def Dlaws_toSolid_b (n : Nat) (self : Sol → Option Sol) (a : Sol) : Option Sol :=
  match a with
  | a0 => (Dlaws_toPlane a0.pl).bind fun v0 => (Dlaws_toSolidS_in n self a0.kids).bind fun v1 => some (Sol.mk a0.inn v0 v1)
def Dlaws_toSolid (n : Nat) (a0 : Sol) : Option Sol := loopN (Dlaws_toSolid_b n) n a0
theorem Tlaws_toSolid_b {Y} (n : Nat) : ∀ (m : Nat) (a : Sol) (r : Sol), loopN (Dlaws_toSolid_b n) m a = some r → ∀ (_ : Unit), Big Tryz.prog H Y (.call 9 [.agg [bl a.inn, i64 a.pl.A, i64 a.pl.B, i64 a.pl.C, i64 a.pl.D, .sl false 6 a.kids.length ((eSol false).f a.kids)]] (lk []) (.agg [bl r.inn, i64 r.pl.A, i64 r.pl.B, i64 r.pl.C, i64 r.pl.D, .sl true 6 r.kids.length ((eSol true).f r.kids)]) (lk [])) := by
  refine loopN_ind (fun self hs a r h => ?_)
  have hself : ∀ (a : Sol) (r : Sol), self a = some r → Big Tryz.prog H Y (.call 9 [.agg [bl a.inn, i64 a.pl.A, i64 a.pl.B, i64 a.pl.C, i64 a.pl.D, .sl false 6 a.kids.length ((eSol false).f a.kids)]] (lk []) (.agg [bl r.inn, i64 r.pl.A, i64 r.pl.B, i64 r.pl.C, i64 r.pl.D, .sl true 6 r.kids.length ((eSol true).f r.kids)]) (lk [])) := fun a r h => hs a r h ()
  intro _
  obtain ⟨a0, rfl⟩ : ∃ x, x = a := ⟨a, rfl⟩
  unfold Dlaws_toSolid_b at h
  refine x_call (fn := Tryz.f9) (c := bodyOf Tryz.f9) (bs0 := []) Tryz.func9 (by kernel_rfl) (by kernel_rfl) ?_
  obtain ⟨v0, hv0, h⟩ := bind_some h
  obtain ⟨v1, hv1, h⟩ := bind_some h
  replace h := Option.some.inj h; subst h
  exact x_end 37 [(9, .call [] [] (.agg [i64 v0.A, i64 v0.B, i64 v0.C, i64 v0.D]) []), (4, .call [] [] (.sl true 6 v1.length ((eSol true).f v1)) [])] [] (ocons (Tlaws_toPlane (Y := Y) a0.pl _ hv0) (ocons (Tlaws_toSolidS_in (Y := Y) n self hself a0.kids _ hv1) onil)) (ocons (len_row (L := v1) (eSol true)) onil) (by kernel_rfl)
theorem Tlaws_toSolid {Y} (n : Nat) (a0 : Sol) (r : Sol) (h : Dlaws_toSolid n a0 = some r) : Big Tryz.prog H Y (.call 9 [.agg [bl a0.inn, i64 a0.pl.A, i64 a0.pl.B, i64 a0.pl.C, i64 a0.pl.D, .sl false 6 a0.kids.length ((eSol false).f a0.kids)]] (lk []) (.agg [bl r.inn, i64 r.pl.A, i64 r.pl.B, i64 r.pl.C, i64 r.pl.D, .sl true 6 r.kids.length ((eSol true).f r.kids)]) (lk [])) := Tlaws_toSolid_b n n a0 r h ()
/-! spec.l8Leaf -/
def Dspec_l8Leaf (a0 : Sol) : Option Bool :=
  some ((a0.kids.length : Int) == 0)
theorem Tspec_l8Leaf {Y} (a0 : Sol) (r : Bool) (h : Dspec_l8Leaf a0 = some r) : Big Tryz.prog H Y (.call 158 [.agg [bl a0.inn, i64 a0.pl.A, i64 a0.pl.B, i64 a0.pl.C, i64 a0.pl.D, .sl false 6 a0.kids.length ((eSol false).f a0.kids)]] (lk []) (bl r) (lk [])) := by
  unfold Dspec_l8Leaf at h
  refine x_call (fn := Tryz.f158) (c := bodyOf Tryz.f158) (bs0 := []) Tryz.func158 (by kernel_rfl) (by kernel_rfl) ?_
  replace h := Option.some.inj h; subst h
  exact x_end 13 [] [] onil onil (by kernel_rfl)
/-! spec.l8Count -/
def Dspec_l8Count_1 (_n : Nat) (self : (Sol × Int) → Option Int) (t1 : Int) (_b2_0 : Bool) (_b2_1 _b2_2 _b2_3 _b2_4 : Int) (b2_5 : List Sol) (rec0 : (Int × Int) → Option Int) (a : (Int × Int)) : Option Int :=
  match a with
  | (t5, t6) => frk (decide (t6 < (b2_5.length : Int))) ((lget b2_5 t6).bind fun v1 => (self (v1, w64 (t1 - t5))).bind fun v2 => rec0 (w64 (t5 + v2), w64 (t6 + 1))) (some t5)
theorem Tspec_l8Count_1 {Y} (n : Nat) (self : (Sol × Int) → Option Int) (hself : ∀ (a : (Sol × Int)) (r : Int), self a = some r → Big Tryz.prog H Y (.call 143 [.agg [bl a.1.inn, i64 a.1.pl.A, i64 a.1.pl.B, i64 a.1.pl.C, i64 a.1.pl.D, .sl false 6 a.1.kids.length ((eSol false).f a.1.kids)], i64 a.2] (lk []) (i64 r) (lk []))) (t1 : Int) (b2_0 : Bool) (b2_1 b2_2 b2_3 b2_4 : Int) (b2_5 : List Sol) : ∀ (m : Nat) (a : (Int × Int)) (r : Int), loopN (Dspec_l8Count_1 n self t1 b2_0 b2_1 b2_2 b2_3 b2_4 b2_5) m a = some r → Wk Tryz.prog H Y 143 [.code (cp [1, 1, 1, 0, 1, 0] (bodyOf Tryz.f143)), .blk 0, .code (cp [1, 1, 1, 1] (bodyOf Tryz.f143))] (FinX Tryz.prog Tryz.f143 [] (i64 r) []) ⟨[(1, i64 t1), (2, .ptr 2 0), (5, i64 a.1), (6, i64 a.2)], [(2, ⟨true, 0, [bl b2_0, i64 b2_1, i64 b2_2, i64 b2_3, i64 b2_4, .sl false 6 b2_5.length ((eSol false).f b2_5)]⟩)]⟩ := by
  refine loopN_ind (fun _rec0 hrec0 a r h => ?_)
  obtain ⟨t5, t6⟩ := a
  unfold Dspec_l8Count_1 at h
  refine x_frk 10 [] onil h (by kernel_rfl) (fun h => ?_) (fun h => ?_)
  · obtain ⟨v1, hv1, h⟩ := bind_some h
    obtain ⟨v2, hv2, h⟩ := bind_some h
    exact x_to 24 [(4, .val (.cptr ((eSol false).c v1 ++ (eSol false).f ((b2_5).drop (Int.toNat t6 + 1))))), (4, .call [] [] (i64 v2) [])] (ocons (ix (eSol false) hv1) (ocons (hself (v1, w64 (t1 - t5)) _ hv2) onil)) (hrec0 (w64 (t5 + v2), w64 (t6 + 1)) r h) (by kernel_rfl)
  · replace h := Option.some.inj h; subst h
    exact x_end 6 [] [] onil onil (by kernel_rfl)
def Dspec_l8Count_0 (n : Nat) (self : (Sol × Int) → Option Int) (t1 : Int) (t12 b2_0 : Bool) (b2_1 b2_2 b2_3 b2_4 : Int) (b2_5 : List Sol) : Option Int :=
  frk t12 (some 0) (loopN (Dspec_l8Count_1 n self t1 b2_0 b2_1 b2_2 b2_3 b2_4 b2_5) n (1, 0))
theorem Tspec_l8Count_0 {Y} (n : Nat) (self : (Sol × Int) → Option Int) (hself : ∀ (a : (Sol × Int)) (r : Int), self a = some r → Big Tryz.prog H Y (.call 143 [.agg [bl a.1.inn, i64 a.1.pl.A, i64 a.1.pl.B, i64 a.1.pl.C, i64 a.1.pl.D, .sl false 6 a.1.kids.length ((eSol false).f a.1.kids)], i64 a.2] (lk []) (i64 r) (lk []))) (t1 : Int) (t12 b2_0 : Bool) (b2_1 b2_2 b2_3 b2_4 : Int) (b2_5 : List Sol) (r : Int) (h : Dspec_l8Count_0 n self t1 t12 b2_0 b2_1 b2_2 b2_3 b2_4 b2_5 = some r) : Wk Tryz.prog H Y 143 [.code (cp [1, 0, 1] (bodyOf Tryz.f143)), .code (cp [1, 1] (bodyOf Tryz.f143))] (FinX Tryz.prog Tryz.f143 [] (i64 r) []) ⟨[(1, i64 t1), (2, .ptr 2 0), (12, bl t12)], [(2, ⟨true, 0, [bl b2_0, i64 b2_1, i64 b2_2, i64 b2_3, i64 b2_4, .sl false 6 b2_5.length ((eSol false).f b2_5)]⟩)]⟩ := by
  unfold Dspec_l8Count_0 at h
  refine x_frk 0 [] onil h (by kernel_rfl) (fun h => ?_) (fun h => ?_)
  · replace h := Option.some.inj h; subst h
    exact x_end 4 [] [] onil onil (by kernel_rfl)
  · exact x_to 11 [] onil (Tspec_l8Count_1 n self hself t1 b2_0 b2_1 b2_2 b2_3 b2_4 b2_5 n (1, 0) r h) (by kernel_rfl)
def Dspec_l8Count_b (n : Nat) (self : (Sol × Int) → Option Int) (a : (Sol × Int)) : Option Int :=
  match a with
  | (a0, a1) => (Dspec_l8Leaf a0).bind fun v0 => frk v0 (some 0) (Dspec_l8Count_0 n self a1 (decide (a1 ≤ 0)) a0.inn a0.pl.A a0.pl.B a0.pl.C a0.pl.D a0.kids)
def Dspec_l8Count (n : Nat) (a0 : Sol) (a1 : Int) : Option Int := loopN (Dspec_l8Count_b n) n (a0, a1)
theorem Tspec_l8Count_b {Y} (n : Nat) : ∀ (m : Nat) (a : (Sol × Int)) (r : Int), loopN (Dspec_l8Count_b n) m a = some r → ∀ (_ : Unit), Big Tryz.prog H Y (.call 143 [.agg [bl a.1.inn, i64 a.1.pl.A, i64 a.1.pl.B, i64 a.1.pl.C, i64 a.1.pl.D, .sl false 6 a.1.kids.length ((eSol false).f a.1.kids)], i64 a.2] (lk []) (i64 r) (lk [])) := by
  refine loopN_ind (fun self hs a r h => ?_)
  have hself : ∀ (a : (Sol × Int)) (r : Int), self a = some r → Big Tryz.prog H Y (.call 143 [.agg [bl a.1.inn, i64 a.1.pl.A, i64 a.1.pl.B, i64 a.1.pl.C, i64 a.1.pl.D, .sl false 6 a.1.kids.length ((eSol false).f a.1.kids)], i64 a.2] (lk []) (i64 r) (lk [])) := fun a r h => hs a r h ()
  intro _
  obtain ⟨a0, a1⟩ := a
  unfold Dspec_l8Count_b at h
  refine x_call (fn := Tryz.f143) (c := bodyOf Tryz.f143) (bs0 := []) Tryz.func143 (by kernel_rfl) (by kernel_rfl) ?_
  obtain ⟨v0, hv0, h⟩ := bind_some h
  refine x_frk 11 [(3, .call [] [] (bl v0) [])] (ocons (Tspec_l8Leaf (Y := Y) a0 _ hv0) onil) h (by kernel_rfl) (fun h => ?_) (fun h => ?_)
  · replace h := Option.some.inj h; subst h
    exact x_end 9 [] [] onil onil (by kernel_rfl)
  · exact x_to 4 [] onil (Tspec_l8Count_0 n self hself a1 (decide (a1 ≤ 0)) a0.inn a0.pl.A a0.pl.B a0.pl.C a0.pl.D a0.kids r h) (by kernel_rfl)
theorem Tspec_l8Count {Y} (n : Nat) (a0 : Sol) (a1 r : Int) (h : Dspec_l8Count n a0 a1 = some r) : Big Tryz.prog H Y (.call 143 [.agg [bl a0.inn, i64 a0.pl.A, i64 a0.pl.B, i64 a0.pl.C, i64 a0.pl.D, .sl false 6 a0.kids.length ((eSol false).f a0.kids)], i64 a1] (lk []) (i64 r) (lk [])) := Tspec_l8Count_b n n (a0, a1) r h ()
/-! spec.l1In -/
def Dspec_l1In (a0 a1 a2 : Int) : Option Bool :=
  frk (decide (a0 ≥ a1)) (some (decide (a0 ≤ a2))) (some false)
theorem Tspec_l1In {Y} (a0 a1 a2 : Int) (r : Bool) (h : Dspec_l1In a0 a1 a2 = some r) : Big Tryz.prog H Y (.call 101 [i64 a0, i64 a1, i64 a2] (lk []) (bl r) (lk [])) := by
  unfold Dspec_l1In at h
  refine x_call (fn := Tryz.f101) (c := bodyOf Tryz.f101) (bs0 := []) Tryz.func101 (by kernel_rfl) (by kernel_rfl) ?_
  refine x_frk 10 [] onil h (by kernel_rfl) (fun h => ?_) (fun h => ?_)
  · replace h := Option.some.inj h; subst h
    exact x_end 6 [] [] onil onil (by kernel_rfl)
  · replace h := Option.some.inj h; subst h
    exact x_end 6 [] [] onil onil (by kernel_rfl)
/-! spec.l3In -/
def Dspec_l3In (a0 : Pl) : Option Bool :=
  (Dspec_l1In a0.A (-500) 500).bind fun v0 => frk v0 ((Dspec_l1In a0.B (-500) 500).bind fun v1 => frk v1 ((Dspec_l1In a0.C (-500) 500).bind fun v2 => frk v2 ((Dspec_l1In a0.D (-500) 500).bind fun v3 => some v3) (some false)) (some false)) (some false)
theorem Tspec_l3In {Y} (a0 : Pl) (r : Bool) (h : Dspec_l3In a0 = some r) : Big Tryz.prog H Y (.call 213 [.agg [i64 a0.A, i64 a0.B, i64 a0.C, i64 a0.D]] (lk []) (bl r) (lk [])) := by
  unfold Dspec_l3In at h
  refine x_call (fn := Tryz.f213) (c := bodyOf Tryz.f213) (bs0 := []) Tryz.func213 (by kernel_rfl) (by kernel_rfl) ?_
  obtain ⟨v0, hv0, h⟩ := bind_some h
  refine x_frk 18 [(8, .call [] [] (bl v0) [])] (ocons (Tspec_l1In (Y := Y) a0.A (-500) 500 _ hv0) onil) h (by kernel_rfl) (fun h => ?_) (fun h => ?_)
  · obtain ⟨v1, hv1, h⟩ := bind_some h
    refine x_frk 8 [(5, .call [] [] (bl v1) [])] (ocons (Tspec_l1In (Y := Y) a0.B (-500) 500 _ hv1) onil) h (by kernel_rfl) (fun h => ?_) (fun h => ?_)
    · obtain ⟨v2, hv2, h⟩ := bind_some h
      refine x_frk 8 [(5, .call [] [] (bl v2) [])] (ocons (Tspec_l1In (Y := Y) a0.C (-500) 500 _ hv2) onil) h (by kernel_rfl) (fun h => ?_) (fun h => ?_)
      · obtain ⟨v3, hv3, h⟩ := bind_some h
        replace h := Option.some.inj h; subst h
        exact x_end 9 [(5, .call [] [] (bl v3) [])] [] (ocons (Tspec_l1In (Y := Y) a0.D (-500) 500 _ hv3) onil) onil (by kernel_rfl)
      · replace h := Option.some.inj h; subst h
        exact x_end 9 [] [] onil onil (by kernel_rfl)
    · replace h := Option.some.inj h; subst h
      exact x_end 17 [] [] onil onil (by kernel_rfl)
  · replace h := Option.some.inj h; subst h
    exact x_end 25 [] [] onil onil (by kernel_rfl)
/-! spec.l3Abs -/
def Dspec_l3Abs (a0 : Int) : Option Int :=
  frk (decide (a0 < 0)) (some (w64 (0 - a0))) (some a0)
theorem Tspec_l3Abs {Y} (a0 r : Int) (h : Dspec_l3Abs a0 = some r) : Big Tryz.prog H Y (.call 211 [i64 a0] (lk []) (i64 r) (lk [])) := by
  unfold Dspec_l3Abs at h
  refine x_call (fn := Tryz.f211) (c := bodyOf Tryz.f211) (bs0 := []) Tryz.func211 (by kernel_rfl) (by kernel_rfl) ?_
  refine x_frk 10 [] onil h (by kernel_rfl) (fun h => ?_) (fun h => ?_)
  · replace h := Option.some.inj h; subst h
    exact x_end 6 [] [] onil onil (by kernel_rfl)
  · replace h := Option.some.inj h; subst h
    exact x_end 6 [] [] onil onil (by kernel_rfl)
/-! spec.l3Gcd -/
def Dspec_l3Gcd_0 (_n : Nat) (rec0 : (Int × Int) → Option Int) (a : (Int × Int)) : Option Int :=
  match a with
  | (t0, t1) => frk (decide (t1 > 0)) ((rm .i64 t0 t1).bind fun v2 => rec0 (t1, v2)) (some t0)
theorem Tspec_l3Gcd_0 {Y} (n : Nat) : ∀ (m : Nat) (a : (Int × Int)) (r : Int), loopN (Dspec_l3Gcd_0 n) m a = some r → Wk Tryz.prog H Y 176 [.code (cp [1, 1, 1, 0, 0] (bodyOf Tryz.f176)), .blk 0, .code (cp [1, 1, 1, 1] (bodyOf Tryz.f176))] (FinX Tryz.prog Tryz.f176 [] (i64 r) []) ⟨[(0, i64 a.1), (1, i64 a.2)], []⟩ := by
  refine loopN_ind (fun _rec0 hrec0 a r h => ?_)
  obtain ⟨_t0, t1⟩ := a
  unfold Dspec_l3Gcd_0 at h
  refine x_frk 7 [] onil h (by kernel_rfl) (fun h => ?_) (fun h => ?_)
  · obtain ⟨v2, hv2, h⟩ := bind_some h
    exact x_to 20 [(2, .val (i64 v2))] (ocons (rmOk hv2) onil) (hrec0 (t1, v2) r h) (by kernel_rfl)
  · replace h := Option.some.inj h; subst h
    exact x_end 6 [] [] onil onil (by kernel_rfl)
def Dspec_l3Gcd (n : Nat) (a0 a1 : Int) : Option Int :=
  (Dspec_l3Abs a0).bind fun v0 => (Dspec_l3Abs a1).bind fun v1 => loopN (Dspec_l3Gcd_0 n) n (v0, v1)
theorem Tspec_l3Gcd {Y} (n : Nat) (a0 a1 r : Int) (h : Dspec_l3Gcd n a0 a1 = some r) : Big Tryz.prog H Y (.call 176 [i64 a0, i64 a1] (lk []) (i64 r) (lk [])) := by
  unfold Dspec_l3Gcd at h
  refine x_call (fn := Tryz.f176) (c := bodyOf Tryz.f176) (bs0 := []) Tryz.func176 (by kernel_rfl) (by kernel_rfl) ?_
  obtain ⟨v0, hv0, h⟩ := bind_some h
  obtain ⟨v1, hv1, h⟩ := bind_some h
  exact x_to 18 [(2, .call [] [] (i64 v0) []), (2, .call [] [] (i64 v1) [])] (ocons (Tspec_l3Abs (Y := Y) a0 _ hv0) (ocons (Tspec_l3Abs (Y := Y) a1 _ hv1) onil)) (Tspec_l3Gcd_0 n n (v0, v1) r h) (by kernel_rfl)
/-! spec.PlaneOk -/
def Dspec_PlaneOk (n : Nat) (a0 : Pl) : Option Bool :=
  (Dspec_l3In a0).bind fun v0 => frk v0 (frk (a0.A != 0) ((Dspec_l3Gcd n a0.A a0.B).bind fun v1 => (Dspec_l3Gcd n a0.C a0.D).bind fun v2 => (Dspec_l3Gcd n v1 v2).bind fun v3 => some (v3 == 1)) (frk (a0.B != 0) ((Dspec_l3Gcd n a0.A a0.B).bind fun v4 => (Dspec_l3Gcd n a0.C a0.D).bind fun v5 => (Dspec_l3Gcd n v4 v5).bind fun v6 => some (v6 == 1)) (frk (a0.C != 0) ((Dspec_l3Gcd n a0.A a0.B).bind fun v7 => (Dspec_l3Gcd n a0.C a0.D).bind fun v8 => (Dspec_l3Gcd n v7 v8).bind fun v9 => some (v9 == 1)) (some false)))) (some false)
theorem Tspec_PlaneOk {Y} (n : Nat) (a0 : Pl) (r : Bool) (h : Dspec_PlaneOk n a0 = some r) : Big Tryz.prog H Y (.call 175 [.agg [i64 a0.A, i64 a0.B, i64 a0.C, i64 a0.D]] (lk []) (bl r) (lk [])) := by
  unfold Dspec_PlaneOk at h
  refine x_call (fn := Tryz.f175) (c := bodyOf Tryz.f175) (bs0 := []) Tryz.func175 (by kernel_rfl) (by kernel_rfl) ?_
  obtain ⟨v0, hv0, h⟩ := bind_some h
  refine x_frk 10 [(3, .call [] [] (bl v0) [])] (ocons (Tspec_l3In (Y := Y) a0 _ hv0) onil) h (by kernel_rfl) (fun h => ?_) (fun h => ?_)
  · refine x_frk 4 [] onil h (by kernel_rfl) (fun h => ?_) (fun h => ?_)
    · obtain ⟨v1, hv1, h⟩ := bind_some h
      obtain ⟨v2, hv2, h⟩ := bind_some h
      obtain ⟨v3, hv3, h⟩ := bind_some h
      replace h := Option.some.inj h; subst h
      exact x_end 26 [(15, .call [] [] (i64 v1) []), (4, .call [] [] (i64 v2) []), (0, .call [] [] (i64 v3) [])] [] (ocons (Tspec_l3Gcd (Y := Y) n a0.A a0.B _ hv1) (ocons (Tspec_l3Gcd (Y := Y) n a0.C a0.D _ hv2) (ocons (Tspec_l3Gcd (Y := Y) n v1 v2 _ hv3) onil))) onil (by kernel_rfl)
    · refine x_frk 5 [] onil h (by kernel_rfl) (fun h => ?_) (fun h => ?_)
      · obtain ⟨v4, hv4, h⟩ := bind_some h
        obtain ⟨v5, hv5, h⟩ := bind_some h
        obtain ⟨v6, hv6, h⟩ := bind_some h
        replace h := Option.some.inj h; subst h
        exact x_end 21 [(10, .call [] [] (i64 v4) []), (4, .call [] [] (i64 v5) []), (0, .call [] [] (i64 v6) [])] [] (ocons (Tspec_l3Gcd (Y := Y) n a0.A a0.B _ hv4) (ocons (Tspec_l3Gcd (Y := Y) n a0.C a0.D _ hv5) (ocons (Tspec_l3Gcd (Y := Y) n v4 v5 _ hv6) onil))) onil (by kernel_rfl)
      · refine x_frk 6 [] onil h (by kernel_rfl) (fun h => ?_) (fun h => ?_)
        · obtain ⟨v7, hv7, h⟩ := bind_some h
          obtain ⟨v8, hv8, h⟩ := bind_some h
          obtain ⟨v9, hv9, h⟩ := bind_some h
          replace h := Option.some.inj h; subst h
          exact x_end 15 [(4, .call [] [] (i64 v7) []), (4, .call [] [] (i64 v8) []), (0, .call [] [] (i64 v9) [])] [] (ocons (Tspec_l3Gcd (Y := Y) n a0.A a0.B _ hv7) (ocons (Tspec_l3Gcd (Y := Y) n a0.C a0.D _ hv8) (ocons (Tspec_l3Gcd (Y := Y) n v7 v8 _ hv9) onil))) onil (by kernel_rfl)
        · replace h := Option.some.inj h; subst h
          exact x_end 15 [] [] onil onil (by kernel_rfl)
  · replace h := Option.some.inj h; subst h
    exact x_end 30 [] [] onil onil (by kernel_rfl)
/-! spec.l4Cross -/
def Dspec_l4Cross (a0 : Pl) (a1 : Pl) : Option (Int × Int × Int) :=
  some (w64 ((w64 (a0.B * a1.C)) - (w64 (a0.C * a1.B))), w64 ((w64 (a0.C * a1.A)) - (w64 (a0.A * a1.C))), w64 ((w64 (a0.A * a1.B)) - (w64 (a0.B * a1.A))))
theorem Tspec_l4Cross {Y} (a0 : Pl) (a1 : Pl) (r : (Int × Int × Int)) (h : Dspec_l4Cross a0 a1 = some r) : Big Tryz.prog H Y (.call 96 [.agg [i64 a0.A, i64 a0.B, i64 a0.C, i64 a0.D], .agg [i64 a1.A, i64 a1.B, i64 a1.C, i64 a1.D]] (lk []) (.agg [i64 r.1, i64 r.2.1, i64 r.2.2]) (lk [])) := by
  unfold Dspec_l4Cross at h
  refine x_call (fn := Tryz.f96) (c := bodyOf Tryz.f96) (bs0 := []) Tryz.func96 (by kernel_rfl) (by kernel_rfl) ?_
  replace h := Option.some.inj h; subst h
  exact x_end 44 [] [] onil onil (by kernel_rfl)
/-! spec.l3Sign -/
def Dspec_l3Sign (a0 : Int) : Option Int :=
  frk (decide (a0 > 0)) (some 1) (frk (decide (a0 < 0)) (some (-1)) (some 0))
theorem Tspec_l3Sign {Y} (a0 r : Int) (h : Dspec_l3Sign a0 = some r) : Big Tryz.prog H Y (.call 191 [i64 a0] (lk []) (i64 r) (lk [])) := by
  unfold Dspec_l3Sign at h
  refine x_call (fn := Tryz.f191) (c := bodyOf Tryz.f191) (bs0 := []) Tryz.func191 (by kernel_rfl) (by kernel_rfl) ?_
  refine x_frk 12 [] onil h (by kernel_rfl) (fun h => ?_) (fun h => ?_)
  · replace h := Option.some.inj h; subst h
    exact x_end 4 [] [] onil onil (by kernel_rfl)
  · refine x_frk 6 [] onil h (by kernel_rfl) (fun h => ?_) (fun h => ?_)
    · replace h := Option.some.inj h; subst h
      exact x_end 4 [] [] onil onil (by kernel_rfl)
    · replace h := Option.some.inj h; subst h
      exact x_end 6 [] [] onil onil (by kernel_rfl)
/-! spec.l4Parallel -/
def Dspec_l4Parallel (a0 : Pl) (a1 : Pl) : Option Int :=
  (Dspec_l4Cross a0 a1).bind fun v0 => frk (!(v0.1 == 0 && (v0.2.1 == 0 && (v0.2.2 == 0 && true)))) (some 0) ((Dspec_l3Sign (w64 ((w64 ((w64 (a0.A * a1.A)) + (w64 (a0.B * a1.B)))) + (w64 (a0.C * a1.C))))).bind fun v1 => some v1)
theorem Tspec_l4Parallel {Y} (a0 : Pl) (a1 : Pl) (r : Int) (h : Dspec_l4Parallel a0 a1 = some r) : Big Tryz.prog H Y (.call 210 [.agg [i64 a0.A, i64 a0.B, i64 a0.C, i64 a0.D], .agg [i64 a1.A, i64 a1.B, i64 a1.C, i64 a1.D]] (lk []) (i64 r) (lk [])) := by
  unfold Dspec_l4Parallel at h
  refine x_call (fn := Tryz.f210) (c := bodyOf Tryz.f210) (bs0 := []) Tryz.func210 (by kernel_rfl) (by kernel_rfl) ?_
  obtain ⟨v0, hv0, h⟩ := bind_some h
  refine x_frk 15 [(5, .call [] [] (.agg [i64 v0.1, i64 v0.2.1, i64 v0.2.2]) [])] (ocons (Tspec_l4Cross (Y := Y) a0 a1 _ hv0) onil) h (by kernel_rfl) (fun h => ?_) (fun h => ?_)
  · replace h := Option.some.inj h; subst h
    exact x_end 4 [] [] onil onil (by kernel_rfl)
  · obtain ⟨v1, hv1, h⟩ := bind_some h
    replace h := Option.some.inj h; subst h
    exact x_end 23 [(17, .call [] [] (i64 v1) [])] [] (ocons (Tspec_l3Sign (Y := Y) (w64 ((w64 ((w64 (a0.A * a1.A)) + (w64 (a0.B * a1.B)))) + (w64 (a0.C * a1.C)))) _ hv1) onil) onil (by kernel_rfl)
/-! spec.l6Clash2 -/
def Dspec_l6Clash2 (a0 : Pl) (a1 : Pl) : Option Bool :=
  (Dspec_l4Parallel a0 a1).bind fun v0 => frk (decide (v0 ≥ 0)) (some false) ((Dspec_l3Abs a1.A).bind fun v1 => (Dspec_l3Abs a1.B).bind fun v2 => (Dspec_l3Abs a1.C).bind fun v3 => (Dspec_l3Abs a0.A).bind fun v4 => (Dspec_l3Abs a0.B).bind fun v5 => (Dspec_l3Abs a0.C).bind fun v6 => some (decide ((w64 ((w64 ((w64 ((w64 (v1 + v2)) + v3)) * a0.D)) + (w64 ((w64 ((w64 (v4 + v5)) + v6)) * a1.D)))) ≤ 0)))
theorem Tspec_l6Clash2 {Y} (a0 : Pl) (a1 : Pl) (r : Bool) (h : Dspec_l6Clash2 a0 a1 = some r) : Big Tryz.prog H Y (.call 172 [.agg [i64 a0.A, i64 a0.B, i64 a0.C, i64 a0.D], .agg [i64 a1.A, i64 a1.B, i64 a1.C, i64 a1.D]] (lk []) (bl r) (lk [])) := by
  unfold Dspec_l6Clash2 at h
  refine x_call (fn := Tryz.f172) (c := bodyOf Tryz.f172) (bs0 := []) Tryz.func172 (by kernel_rfl) (by kernel_rfl) ?_
  obtain ⟨v0, hv0, h⟩ := bind_some h
  refine x_frk 14 [(5, .call [] [] (i64 v0) [])] (ocons (Tspec_l4Parallel (Y := Y) a0 a1 _ hv0) onil) h (by kernel_rfl) (fun h => ?_) (fun h => ?_)
  · replace h := Option.some.inj h; subst h
    exact x_end 4 [] [] onil onil (by kernel_rfl)
  · obtain ⟨v1, hv1, h⟩ := bind_some h
    obtain ⟨v2, hv2, h⟩ := bind_some h
    obtain ⟨v3, hv3, h⟩ := bind_some h
    obtain ⟨v4, hv4, h⟩ := bind_some h
    obtain ⟨v5, hv5, h⟩ := bind_some h
    obtain ⟨v6, hv6, h⟩ := bind_some h
    replace h := Option.some.inj h; subst h
    exact x_end 45 [(2, .call [] [] (i64 v1) []), (2, .call [] [] (i64 v2) []), (3, .call [] [] (i64 v3) []), (4, .call [] [] (i64 v4) []), (2, .call [] [] (i64 v5) []), (3, .call [] [] (i64 v6) [])] [] (ocons (Tspec_l3Abs (Y := Y) a1.A _ hv1) (ocons (Tspec_l3Abs (Y := Y) a1.B _ hv2) (ocons (Tspec_l3Abs (Y := Y) a1.C _ hv3) (ocons (Tspec_l3Abs (Y := Y) a0.A _ hv4) (ocons (Tspec_l3Abs (Y := Y) a0.B _ hv5) (ocons (Tspec_l3Abs (Y := Y) a0.C _ hv6) onil)))))) onil (by kernel_rfl)
/-! spec.l4Det3 -/
def Dspec_l4Det3 (a0 : Pl) (a1 : Pl) (a2 : Pl) : Option Int :=
  (Dspec_l4Cross a1 a2).bind fun v0 => some (w64 ((w64 ((w64 (a0.A * v0.1)) + (w64 (a0.B * v0.2.1)))) + (w64 (a0.C * v0.2.2))))
theorem Tspec_l4Det3 {Y} (a0 : Pl) (a1 : Pl) (a2 : Pl) (r : Int) (h : Dspec_l4Det3 a0 a1 a2 = some r) : Big Tryz.prog H Y (.call 159 [.agg [i64 a0.A, i64 a0.B, i64 a0.C, i64 a0.D], .agg [i64 a1.A, i64 a1.B, i64 a1.C, i64 a1.D], .agg [i64 a2.A, i64 a2.B, i64 a2.C, i64 a2.D]] (lk []) (i64 r) (lk [])) := by
  unfold Dspec_l4Det3 at h
  refine x_call (fn := Tryz.f159) (c := bodyOf Tryz.f159) (bs0 := []) Tryz.func159 (by kernel_rfl) (by kernel_rfl) ?_
  obtain ⟨v0, hv0, h⟩ := bind_some h
  replace h := Option.some.inj h; subst h
  exact x_end 36 [(6, .call [] [] (.agg [i64 v0.1, i64 v0.2.1, i64 v0.2.2]) [])] [] (ocons (Tspec_l4Cross (Y := Y) a1 a2 _ hv0) onil) onil (by kernel_rfl)
/-! spec.l6Sum -/
def Dspec_l6Sum_1 (_n : Nat) (rec0 : (Bool × Bool × Int × Int) → Option Bool) (t0 : List Int) (t1 : List Int) (t5 t6 : Bool) (t7 t8 : Int) : Option Bool :=
  (lget t0 t8).bind fun v2 => (Dspec_l3Abs v2).bind fun v3 => (lget t1 t8).bind fun v4 => rec0 (t5, t6, w64 (t7 + (w64 (v3 * v4))), w64 (t8 + 1))
theorem Tspec_l6Sum_1 {Y} (n : Nat) (rec0 : (Bool × Bool × Int × Int) → Option Bool) (t0 : List Int) (t1 : List Int) (hrec0 : ∀ (a : (Bool × Bool × Int × Int)) (r : Bool), rec0 a = some r → Wk Tryz.prog H Y 212 [.code (cp [1, 1, 1, 1, 0, 1, 0] (bodyOf Tryz.f212)), .blk 0, .code (cp [1, 1, 1, 1, 1] (bodyOf Tryz.f212))] (FinX Tryz.prog Tryz.f212 [] (bl r) []) ⟨[(0, .sl false 1 t0.length ((eInt).f t0)), (1, .sl false 1 t1.length ((eInt).f t1)), (5, bl a.1), (6, bl a.2.1), (7, i64 a.2.2.1), (8, i64 a.2.2.2)], []⟩) (t5 t6 : Bool) (t7 t8 : Int) (r : Bool) (h : Dspec_l6Sum_1 n rec0 t0 t1 t5 t6 t7 t8 = some r) : Wk Tryz.prog H Y 212 [.code (cp [1, 1, 1, 1, 0, 1, 0, 0, 1, 0, 0, 1, 1] (bodyOf Tryz.f212)), .blk 1, .code (cp [1, 1, 1, 1, 0, 1, 0, 0, 1, 1] (bodyOf Tryz.f212)), .lp (cp [1, 1, 1, 1, 0, 1, 0] (bodyOf Tryz.f212)), .blk 0, .code (cp [1, 1, 1, 1, 1] (bodyOf Tryz.f212))] (FinX Tryz.prog Tryz.f212 [] (bl r) []) ⟨[(0, .sl false 1 t0.length ((eInt).f t0)), (1, .sl false 1 t1.length ((eInt).f t1)), (5, bl t5), (6, bl t6), (7, i64 t7), (8, i64 t8)], []⟩ := by
  unfold Dspec_l6Sum_1 at h
  obtain ⟨v2, hv2, h⟩ := bind_some h
  obtain ⟨v3, hv3, h⟩ := bind_some h
  obtain ⟨v4, hv4, h⟩ := bind_some h
  exact x_to 22 [(3, .val (.cptr (eInt.c v2 ++ (eInt).f ((t0).drop (Int.toNat t8 + 1))))), (1, .call [] [] (i64 v3) []), (2, .val (.cptr (eInt.c v4 ++ (eInt).f ((t1).drop (Int.toNat t8 + 1)))))] (ocons (ix eInt hv2) (ocons (Tspec_l3Abs (Y := Y) v2 _ hv3) (ocons (ix eInt hv4) onil))) (hrec0 (t5, t6, w64 (t7 + (w64 (v3 * v4))), w64 (t8 + 1)) r h) (by kernel_rfl)
def Dspec_l6Sum_0 (n : Nat) (rec0 : (Bool × Bool × Int × Int) → Option Bool) (t0 : List Int) (t1 : List Int) (t5 t6 : Bool) (t7 t8 : Int) : Option Bool :=
  frk t6 ((lget t0 t8).bind fun v1 => Dspec_l6Sum_1 n rec0 t0 t1 t5 (decide (v1 < 0)) t7 t8) (Dspec_l6Sum_1 n rec0 t0 t1 t5 false t7 t8)
theorem Tspec_l6Sum_0 {Y} (n : Nat) (rec0 : (Bool × Bool × Int × Int) → Option Bool) (t0 : List Int) (t1 : List Int) (hrec0 : ∀ (a : (Bool × Bool × Int × Int)) (r : Bool), rec0 a = some r → Wk Tryz.prog H Y 212 [.code (cp [1, 1, 1, 1, 0, 1, 0] (bodyOf Tryz.f212)), .blk 0, .code (cp [1, 1, 1, 1, 1] (bodyOf Tryz.f212))] (FinX Tryz.prog Tryz.f212 [] (bl r) []) ⟨[(0, .sl false 1 t0.length ((eInt).f t0)), (1, .sl false 1 t1.length ((eInt).f t1)), (5, bl a.1), (6, bl a.2.1), (7, i64 a.2.2.1), (8, i64 a.2.2.2)], []⟩) (t5 t6 : Bool) (t7 t8 : Int) (r : Bool) (h : Dspec_l6Sum_0 n rec0 t0 t1 t5 t6 t7 t8 = some r) : Wk Tryz.prog H Y 212 [.code (cp [1, 1, 1, 1, 0, 1, 0, 0, 1, 0, 0, 1, 0] (bodyOf Tryz.f212)), .code (cp [1, 1, 1, 1, 0, 1, 0, 0, 1, 0, 0, 1, 1] (bodyOf Tryz.f212)), .blk 1, .code (cp [1, 1, 1, 1, 0, 1, 0, 0, 1, 1] (bodyOf Tryz.f212)), .lp (cp [1, 1, 1, 1, 0, 1, 0] (bodyOf Tryz.f212)), .blk 0, .code (cp [1, 1, 1, 1, 1] (bodyOf Tryz.f212))] (FinX Tryz.prog Tryz.f212 [] (bl r) []) ⟨[(0, .sl false 1 t0.length ((eInt).f t0)), (1, .sl false 1 t1.length ((eInt).f t1)), (5, bl t5), (6, bl t6), (7, i64 t7), (8, i64 t8)], []⟩ := by
  unfold Dspec_l6Sum_0 at h
  refine x_frk 3 [] onil h (by kernel_rfl) (fun h => ?_) (fun h => ?_)
  · obtain ⟨v1, hv1, h⟩ := bind_some h
    exact x_to 8 [(2, .val (.cptr (eInt.c v1 ++ (eInt).f ((t0).drop (Int.toNat t8 + 1)))))] (ocons (ix eInt hv1) onil) (Tspec_l6Sum_1 n rec0 t0 t1 hrec0 t5 (decide (v1 < 0)) t7 t8 r h) (by kernel_rfl)
  · exact x_to 8 [] onil (Tspec_l6Sum_1 n rec0 t0 t1 hrec0 t5 false t7 t8 r h) (by kernel_rfl)
def Dspec_l6Sum_2 (_n : Nat) (t5 t6 : Bool) (t7 : Int) : Option Bool :=
  frk t5 (some (decide (t7 ≤ 0))) (frk t6 (some (decide (t7 ≤ 0))) (some false))
theorem Tspec_l6Sum_2 {Y} (n : Nat) (t5 t6 : Bool) (t7 : Int) (r : Bool) (h : Dspec_l6Sum_2 n t5 t6 t7 = some r) : Wk Tryz.prog H Y 212 [.code (cp [1, 1, 1, 1, 1, 0] (bodyOf Tryz.f212)), .code (cp [1, 1, 1, 1, 1, 1] (bodyOf Tryz.f212))] (FinX Tryz.prog Tryz.f212 [] (bl r) []) ⟨[(5, bl t5), (6, bl t6), (7, i64 t7)], []⟩ := by
  unfold Dspec_l6Sum_2 at h
  refine x_frk 3 [] onil h (by kernel_rfl) (fun h => ?_) (fun h => ?_)
  · replace h := Option.some.inj h; subst h
    exact x_end 8 [] [] onil onil (by kernel_rfl)
  · refine x_frk 3 [] onil h (by kernel_rfl) (fun h => ?_) (fun h => ?_)
    · replace h := Option.some.inj h; subst h
      exact x_end 5 [] [] onil onil (by kernel_rfl)
    · replace h := Option.some.inj h; subst h
      exact x_end 5 [] [] onil onil (by kernel_rfl)
def Dspec_l6Sum_3 (n : Nat) (t0 : List Int) (t1 : List Int) (rec0 : (Bool × Bool × Int × Int) → Option Bool) (a : (Bool × Bool × Int × Int)) : Option Bool :=
  match a with
  | (t5, t6, t7, t8) => frk (decide (t8 < (t0.length : Int))) (frk t5 ((lget t0 t8).bind fun v0 => Dspec_l6Sum_0 n rec0 t0 t1 (decide (v0 > 0)) t6 t7 t8) (Dspec_l6Sum_0 n rec0 t0 t1 false t6 t7 t8)) (Dspec_l6Sum_2 n t5 t6 t7)
theorem Tspec_l6Sum_3 {Y} (n : Nat) (t0 : List Int) (t1 : List Int) : ∀ (m : Nat) (a : (Bool × Bool × Int × Int)) (r : Bool), loopN (Dspec_l6Sum_3 n t0 t1) m a = some r → Wk Tryz.prog H Y 212 [.code (cp [1, 1, 1, 1, 0, 1, 0] (bodyOf Tryz.f212)), .blk 0, .code (cp [1, 1, 1, 1, 1] (bodyOf Tryz.f212))] (FinX Tryz.prog Tryz.f212 [] (bl r) []) ⟨[(0, .sl false 1 t0.length ((eInt).f t0)), (1, .sl false 1 t1.length ((eInt).f t1)), (5, bl a.1), (6, bl a.2.1), (7, i64 a.2.2.1), (8, i64 a.2.2.2)], []⟩ := by
  refine loopN_ind (fun rec0 hrec0 a r h => ?_)
  obtain ⟨t5, t6, t7, t8⟩ := a
  unfold Dspec_l6Sum_3 at h
  refine x_frk 9 [] onil h (by kernel_rfl) (fun h => ?_) (fun h => ?_)
  · refine x_frk 7 [] onil h (by kernel_rfl) (fun h => ?_) (fun h => ?_)
    · obtain ⟨v0, hv0, h⟩ := bind_some h
      exact x_to 9 [(2, .val (.cptr (eInt.c v0 ++ (eInt).f ((t0).drop (Int.toNat t8 + 1)))))] (ocons (ix eInt hv0) onil) (Tspec_l6Sum_0 n rec0 t0 t1 hrec0 (decide (v0 > 0)) t6 t7 t8 r h) (by kernel_rfl)
    · exact x_to 9 [] onil (Tspec_l6Sum_0 n rec0 t0 t1 hrec0 false t6 t7 t8 r h) (by kernel_rfl)
  · exact x_to 2 [] onil (Tspec_l6Sum_2 n t5 t6 t7 r h) (by kernel_rfl)
def Dspec_l6Sum (n : Nat) (a0 : (List Int)) (a1 : (List Int)) : Option Bool :=
  loopN (Dspec_l6Sum_3 n a0 a1) n (true, true, 0, 0)
theorem Tspec_l6Sum {Y} (n : Nat) (a0 : (List Int)) (a1 : (List Int)) (r : Bool) (h : Dspec_l6Sum n a0 a1 = some r) : Big Tryz.prog H Y (.call 212 [.sl false 1 a0.length ((eInt).f a0), .sl false 1 a1.length ((eInt).f a1)] (lk []) (bl r) (lk [])) := by
  unfold Dspec_l6Sum at h
  refine x_call (fn := Tryz.f212) (c := bodyOf Tryz.f212) (bs0 := []) Tryz.func212 (by kernel_rfl) (by kernel_rfl) ?_
  exact x_to 22 [] onil (Tspec_l6Sum_3 n a0 a1 n (true, true, 0, 0) r h) (by kernel_rfl)
/-! spec.l6Clash3 -/
def Dspec_l6Clash3_0 (n : Nat) (_b3_0 _b3_1 _b3_2 b3_3 _b4_0 _b4_1 _b4_2 b4_3 _b5_0 _b5_1 _b5_2 b5_3 b7_0 _b7_1 _b7_2 b8_0 _b8_1 _b8_2 b9_0 _b9_1 _b9_2 : Int) : Option Bool :=
  (Dspec_l6Sum n [b7_0, b8_0, b9_0] [b3_3, b4_3, b5_3]).bind fun v4 => some v4
theorem Tspec_l6Clash3_0 {Y} (n : Nat) (b3_0 b3_1 b3_2 b3_3 b4_0 b4_1 b4_2 b4_3 b5_0 b5_1 b5_2 b5_3 b7_0 b7_1 b7_2 b8_0 b8_1 b8_2 b9_0 b9_1 b9_2 : Int) (r : Bool) (h : Dspec_l6Clash3_0 n b3_0 b3_1 b3_2 b3_3 b4_0 b4_1 b4_2 b4_3 b5_0 b5_1 b5_2 b5_3 b7_0 b7_1 b7_2 b8_0 b8_1 b8_2 b9_0 b9_1 b9_2 = some r) : Wk Tryz.prog H Y 173 [.code (cp [1, 1, 1, 1, 1, 0, 1, 0, 0, 1, 0, 0, 1, 0, 0] (bodyOf Tryz.f173)), .code (cp [1, 1, 1, 1, 1, 0, 1, 0, 0, 1, 0, 0, 1, 0, 1] (bodyOf Tryz.f173)), .blk 1, .code (cp [1, 1, 1, 1, 1, 0, 1, 0, 0, 1, 1] (bodyOf Tryz.f173)), .lp (cp [1, 1, 1, 1, 1, 0, 1, 0] (bodyOf Tryz.f173)), .blk 0, .code (cp [1, 1, 1, 1, 1, 1] (bodyOf Tryz.f173))] (FinX Tryz.prog Tryz.f173 [] (bl r) []) ⟨[(3, .ptr 3 0), (4, .ptr 4 0), (5, .ptr 5 0), (7, .ptr 7 0), (8, .ptr 8 0), (9, .ptr 9 0), (10, i64 0)], [(3, ⟨true, 0, [i64 b3_0, i64 b3_1, i64 b3_2, i64 b3_3]⟩), (4, ⟨true, 0, [i64 b4_0, i64 b4_1, i64 b4_2, i64 b4_3]⟩), (5, ⟨true, 0, [i64 b5_0, i64 b5_1, i64 b5_2, i64 b5_3]⟩), (7, ⟨true, 0, [i64 b7_0, i64 b7_1, i64 b7_2]⟩), (8, ⟨true, 0, [i64 b8_0, i64 b8_1, i64 b8_2]⟩), (9, ⟨true, 0, [i64 b9_0, i64 b9_1, i64 b9_2]⟩)]⟩ := by
  unfold Dspec_l6Clash3_0 at h
  obtain ⟨v4, hv4, h⟩ := bind_some h
  replace h := Option.some.inj h; subst h
  exact x_end 21 [(17, .call [] [(eInt).f [b3_3, b4_3, b5_3], (eInt).f [b7_0, b8_0, b9_0]] (bl v4) [])] [] (ocons (Tspec_l6Sum (Y := Y) n [b7_0, b8_0, b9_0] [b3_3, b4_3, b5_3] _ hv4) (ocons (len_row (L := [b7_0, b8_0, b9_0]) eInt) (ocons (Enc.share eInt eInt sInt [b7_0, b8_0, b9_0]) (ocons (len_row (L := [b3_3, b4_3, b5_3]) eInt) (ocons (Enc.share eInt eInt sInt [b3_3, b4_3, b5_3]) onil))))) onil (by kernel_rfl)
def Dspec_l6Clash3_2 (n : Nat) (_b3_0 _b3_1 _b3_2 b3_3 _b4_0 _b4_1 _b4_2 b4_3 _b5_0 _b5_1 _b5_2 b5_3 _b7_0 b7_1 _b7_2 _b8_0 b8_1 _b8_2 _b9_0 b9_1 _b9_2 : Int) : Option Bool :=
  (Dspec_l6Sum n [b7_1, b8_1, b9_1] [b3_3, b4_3, b5_3]).bind fun v6 => some v6
theorem Tspec_l6Clash3_2 {Y} (n : Nat) (b3_0 b3_1 b3_2 b3_3 b4_0 b4_1 b4_2 b4_3 b5_0 b5_1 b5_2 b5_3 b7_0 b7_1 b7_2 b8_0 b8_1 b8_2 b9_0 b9_1 b9_2 : Int) (r : Bool) (h : Dspec_l6Clash3_2 n b3_0 b3_1 b3_2 b3_3 b4_0 b4_1 b4_2 b4_3 b5_0 b5_1 b5_2 b5_3 b7_0 b7_1 b7_2 b8_0 b8_1 b8_2 b9_0 b9_1 b9_2 = some r) : Wk Tryz.prog H Y 173 [.code (cp [1, 1, 1, 1, 1, 0, 1, 0, 0, 1, 0, 0, 1, 0, 0] (bodyOf Tryz.f173)), .code (cp [1, 1, 1, 1, 1, 0, 1, 0, 0, 1, 0, 0, 1, 0, 1] (bodyOf Tryz.f173)), .blk 1, .code (cp [1, 1, 1, 1, 1, 0, 1, 0, 0, 1, 1] (bodyOf Tryz.f173)), .lp (cp [1, 1, 1, 1, 1, 0, 1, 0] (bodyOf Tryz.f173)), .blk 0, .code (cp [1, 1, 1, 1, 1, 1] (bodyOf Tryz.f173))] (FinX Tryz.prog Tryz.f173 [] (bl r) []) ⟨[(3, .ptr 3 0), (4, .ptr 4 0), (5, .ptr 5 0), (7, .ptr 7 0), (8, .ptr 8 0), (9, .ptr 9 0), (10, i64 1)], [(3, ⟨true, 0, [i64 b3_0, i64 b3_1, i64 b3_2, i64 b3_3]⟩), (4, ⟨true, 0, [i64 b4_0, i64 b4_1, i64 b4_2, i64 b4_3]⟩), (5, ⟨true, 0, [i64 b5_0, i64 b5_1, i64 b5_2, i64 b5_3]⟩), (7, ⟨true, 0, [i64 b7_0, i64 b7_1, i64 b7_2]⟩), (8, ⟨true, 0, [i64 b8_0, i64 b8_1, i64 b8_2]⟩), (9, ⟨true, 0, [i64 b9_0, i64 b9_1, i64 b9_2]⟩)]⟩ := by
  unfold Dspec_l6Clash3_2 at h
  obtain ⟨v6, hv6, h⟩ := bind_some h
  replace h := Option.some.inj h; subst h
  exact x_end 21 [(17, .call [] [(eInt).f [b3_3, b4_3, b5_3], (eInt).f [b7_1, b8_1, b9_1]] (bl v6) [])] [] (ocons (Tspec_l6Sum (Y := Y) n [b7_1, b8_1, b9_1] [b3_3, b4_3, b5_3] _ hv6) (ocons (len_row (L := [b7_1, b8_1, b9_1]) eInt) (ocons (Enc.share eInt eInt sInt [b7_1, b8_1, b9_1]) (ocons (len_row (L := [b3_3, b4_3, b5_3]) eInt) (ocons (Enc.share eInt eInt sInt [b3_3, b4_3, b5_3]) onil))))) onil (by kernel_rfl)
def Dspec_l6Clash3_4 (n : Nat) (_b3_0 _b3_1 _b3_2 b3_3 _b4_0 _b4_1 _b4_2 b4_3 _b5_0 _b5_1 _b5_2 b5_3 _b7_0 _b7_1 b7_2 _b8_0 _b8_1 b8_2 _b9_0 _b9_1 b9_2 : Int) : Option Bool :=
  (Dspec_l6Sum n [b7_2, b8_2, b9_2] [b3_3, b4_3, b5_3]).bind fun v8 => some v8
theorem Tspec_l6Clash3_4 {Y} (n : Nat) (b3_0 b3_1 b3_2 b3_3 b4_0 b4_1 b4_2 b4_3 b5_0 b5_1 b5_2 b5_3 b7_0 b7_1 b7_2 b8_0 b8_1 b8_2 b9_0 b9_1 b9_2 : Int) (r : Bool) (h : Dspec_l6Clash3_4 n b3_0 b3_1 b3_2 b3_3 b4_0 b4_1 b4_2 b4_3 b5_0 b5_1 b5_2 b5_3 b7_0 b7_1 b7_2 b8_0 b8_1 b8_2 b9_0 b9_1 b9_2 = some r) : Wk Tryz.prog H Y 173 [.code (cp [1, 1, 1, 1, 1, 0, 1, 0, 0, 1, 0, 0, 1, 0, 0] (bodyOf Tryz.f173)), .code (cp [1, 1, 1, 1, 1, 0, 1, 0, 0, 1, 0, 0, 1, 0, 1] (bodyOf Tryz.f173)), .blk 1, .code (cp [1, 1, 1, 1, 1, 0, 1, 0, 0, 1, 1] (bodyOf Tryz.f173)), .lp (cp [1, 1, 1, 1, 1, 0, 1, 0] (bodyOf Tryz.f173)), .blk 0, .code (cp [1, 1, 1, 1, 1, 1] (bodyOf Tryz.f173))] (FinX Tryz.prog Tryz.f173 [] (bl r) []) ⟨[(3, .ptr 3 0), (4, .ptr 4 0), (5, .ptr 5 0), (7, .ptr 7 0), (8, .ptr 8 0), (9, .ptr 9 0), (10, i64 2)], [(3, ⟨true, 0, [i64 b3_0, i64 b3_1, i64 b3_2, i64 b3_3]⟩), (4, ⟨true, 0, [i64 b4_0, i64 b4_1, i64 b4_2, i64 b4_3]⟩), (5, ⟨true, 0, [i64 b5_0, i64 b5_1, i64 b5_2, i64 b5_3]⟩), (7, ⟨true, 0, [i64 b7_0, i64 b7_1, i64 b7_2]⟩), (8, ⟨true, 0, [i64 b8_0, i64 b8_1, i64 b8_2]⟩), (9, ⟨true, 0, [i64 b9_0, i64 b9_1, i64 b9_2]⟩)]⟩ := by
  unfold Dspec_l6Clash3_4 at h
  obtain ⟨v8, hv8, h⟩ := bind_some h
  replace h := Option.some.inj h; subst h
  exact x_end 21 [(17, .call [] [(eInt).f [b3_3, b4_3, b5_3], (eInt).f [b7_2, b8_2, b9_2]] (bl v8) [])] [] (ocons (Tspec_l6Sum (Y := Y) n [b7_2, b8_2, b9_2] [b3_3, b4_3, b5_3] _ hv8) (ocons (len_row (L := [b7_2, b8_2, b9_2]) eInt) (ocons (Enc.share eInt eInt sInt [b7_2, b8_2, b9_2]) (ocons (len_row (L := [b3_3, b4_3, b5_3]) eInt) (ocons (Enc.share eInt eInt sInt [b3_3, b4_3, b5_3]) onil))))) onil (by kernel_rfl)
def Dspec_l6Clash3_5 (n : Nat) (t44 : Bool) (_b3_0 _b3_1 _b3_2 b3_3 _b4_0 _b4_1 _b4_2 b4_3 _b5_0 _b5_1 _b5_2 b5_3 _b7_0 _b7_1 b7_2 _b8_0 _b8_1 b8_2 _b9_0 _b9_1 b9_2 : Int) : Option Bool :=
  frk t44 ((Dspec_l6Sum n [b7_2, b8_2, b9_2] [b3_3, b4_3, b5_3]).bind fun v9 => some v9) (some false)
theorem Tspec_l6Clash3_5 {Y} (n : Nat) (t44 : Bool) (b3_0 b3_1 b3_2 b3_3 b4_0 b4_1 b4_2 b4_3 b5_0 b5_1 b5_2 b5_3 b7_0 b7_1 b7_2 b8_0 b8_1 b8_2 b9_0 b9_1 b9_2 : Int) (r : Bool) (h : Dspec_l6Clash3_5 n t44 b3_0 b3_1 b3_2 b3_3 b4_0 b4_1 b4_2 b4_3 b5_0 b5_1 b5_2 b5_3 b7_0 b7_1 b7_2 b8_0 b8_1 b8_2 b9_0 b9_1 b9_2 = some r) : Wk Tryz.prog H Y 173 [.code (cp [1, 1, 1, 1, 1, 0, 1, 0, 0, 1, 0, 0, 1] (bodyOf Tryz.f173)), .blk 1, .code (cp [1, 1, 1, 1, 1, 0, 1, 0, 0, 1, 1] (bodyOf Tryz.f173)), .lp (cp [1, 1, 1, 1, 1, 0, 1, 0] (bodyOf Tryz.f173)), .blk 0, .code (cp [1, 1, 1, 1, 1, 1] (bodyOf Tryz.f173))] (FinX Tryz.prog Tryz.f173 [] (bl r) []) ⟨[(3, .ptr 3 0), (4, .ptr 4 0), (5, .ptr 5 0), (7, .ptr 7 0), (8, .ptr 8 0), (9, .ptr 9 0), (10, i64 2), (44, bl t44)], [(3, ⟨true, 0, [i64 b3_0, i64 b3_1, i64 b3_2, i64 b3_3]⟩), (4, ⟨true, 0, [i64 b4_0, i64 b4_1, i64 b4_2, i64 b4_3]⟩), (5, ⟨true, 0, [i64 b5_0, i64 b5_1, i64 b5_2, i64 b5_3]⟩), (7, ⟨true, 0, [i64 b7_0, i64 b7_1, i64 b7_2]⟩), (8, ⟨true, 0, [i64 b8_0, i64 b8_1, i64 b8_2]⟩), (9, ⟨true, 0, [i64 b9_0, i64 b9_1, i64 b9_2]⟩)]⟩ := by
  unfold Dspec_l6Clash3_5 at h
  refine x_frk 0 [] onil h (by kernel_rfl) (fun h => ?_) (fun h => ?_)
  · obtain ⟨v9, hv9, h⟩ := bind_some h
    replace h := Option.some.inj h; subst h
    exact x_end 22 [(17, .call [] [(eInt).f [b3_3, b4_3, b5_3], (eInt).f [b7_2, b8_2, b9_2]] (bl v9) [])] [] (ocons (Tspec_l6Sum (Y := Y) n [b7_2, b8_2, b9_2] [b3_3, b4_3, b5_3] _ hv9) (ocons (len_row (L := [b7_2, b8_2, b9_2]) eInt) (ocons (Enc.share eInt eInt sInt [b7_2, b8_2, b9_2]) (ocons (len_row (L := [b3_3, b4_3, b5_3]) eInt) (ocons (Enc.share eInt eInt sInt [b3_3, b4_3, b5_3]) onil))))) onil (by kernel_rfl)
  · replace h := Option.some.inj h; subst h
    exact x_end 21 [] [] onil onil (by kernel_rfl)
def Dspec_l6Clash3_3 (n : Nat) (t44 : Bool) (b3_0 b3_1 b3_2 b3_3 b4_0 b4_1 b4_2 b4_3 b5_0 b5_1 b5_2 b5_3 b7_0 b7_1 b7_2 b8_0 b8_1 b8_2 b9_0 b9_1 b9_2 : Int) : Option Bool :=
  frk t44 ((Dspec_l6Sum n [b7_1, b8_1, b9_1] [b3_3, b4_3, b5_3]).bind fun v7 => some v7) (frk (b7_2 != 0) (Dspec_l6Clash3_4 n b3_0 b3_1 b3_2 b3_3 b4_0 b4_1 b4_2 b4_3 b5_0 b5_1 b5_2 b5_3 b7_0 b7_1 b7_2 b8_0 b8_1 b8_2 b9_0 b9_1 b9_2) (frk (b8_2 != 0) (Dspec_l6Clash3_4 n b3_0 b3_1 b3_2 b3_3 b4_0 b4_1 b4_2 b4_3 b5_0 b5_1 b5_2 b5_3 b7_0 b7_1 b7_2 b8_0 b8_1 b8_2 b9_0 b9_1 b9_2) (Dspec_l6Clash3_5 n (b9_2 != 0) b3_0 b3_1 b3_2 b3_3 b4_0 b4_1 b4_2 b4_3 b5_0 b5_1 b5_2 b5_3 b7_0 b7_1 b7_2 b8_0 b8_1 b8_2 b9_0 b9_1 b9_2)))
theorem Tspec_l6Clash3_3 {Y} (n : Nat) (t44 : Bool) (b3_0 b3_1 b3_2 b3_3 b4_0 b4_1 b4_2 b4_3 b5_0 b5_1 b5_2 b5_3 b7_0 b7_1 b7_2 b8_0 b8_1 b8_2 b9_0 b9_1 b9_2 : Int) (r : Bool) (h : Dspec_l6Clash3_3 n t44 b3_0 b3_1 b3_2 b3_3 b4_0 b4_1 b4_2 b4_3 b5_0 b5_1 b5_2 b5_3 b7_0 b7_1 b7_2 b8_0 b8_1 b8_2 b9_0 b9_1 b9_2 = some r) : Wk Tryz.prog H Y 173 [.code (cp [1, 1, 1, 1, 1, 0, 1, 0, 0, 1, 0, 0, 1] (bodyOf Tryz.f173)), .blk 1, .code (cp [1, 1, 1, 1, 1, 0, 1, 0, 0, 1, 1] (bodyOf Tryz.f173)), .lp (cp [1, 1, 1, 1, 1, 0, 1, 0] (bodyOf Tryz.f173)), .blk 0, .code (cp [1, 1, 1, 1, 1, 1] (bodyOf Tryz.f173))] (FinX Tryz.prog Tryz.f173 [] (bl r) []) ⟨[(3, .ptr 3 0), (4, .ptr 4 0), (5, .ptr 5 0), (7, .ptr 7 0), (8, .ptr 8 0), (9, .ptr 9 0), (10, i64 1), (44, bl t44)], [(3, ⟨true, 0, [i64 b3_0, i64 b3_1, i64 b3_2, i64 b3_3]⟩), (4, ⟨true, 0, [i64 b4_0, i64 b4_1, i64 b4_2, i64 b4_3]⟩), (5, ⟨true, 0, [i64 b5_0, i64 b5_1, i64 b5_2, i64 b5_3]⟩), (7, ⟨true, 0, [i64 b7_0, i64 b7_1, i64 b7_2]⟩), (8, ⟨true, 0, [i64 b8_0, i64 b8_1, i64 b8_2]⟩), (9, ⟨true, 0, [i64 b9_0, i64 b9_1, i64 b9_2]⟩)]⟩ := by
  unfold Dspec_l6Clash3_3 at h
  refine x_frk 0 [] onil h (by kernel_rfl) (fun h => ?_) (fun h => ?_)
  · obtain ⟨v7, hv7, h⟩ := bind_some h
    replace h := Option.some.inj h; subst h
    exact x_end 22 [(17, .call [] [(eInt).f [b3_3, b4_3, b5_3], (eInt).f [b7_1, b8_1, b9_1]] (bl v7) [])] [] (ocons (Tspec_l6Sum (Y := Y) n [b7_1, b8_1, b9_1] [b3_3, b4_3, b5_3] _ hv7) (ocons (len_row (L := [b7_1, b8_1, b9_1]) eInt) (ocons (Enc.share eInt eInt sInt [b7_1, b8_1, b9_1]) (ocons (len_row (L := [b3_3, b4_3, b5_3]) eInt) (ocons (Enc.share eInt eInt sInt [b3_3, b4_3, b5_3]) onil))))) onil (by kernel_rfl)
  · refine x_frk 26 [] onil h (by kernel_rfl) (fun h => ?_) (fun h => ?_)
    · exact x_to 14 [] onil (Tspec_l6Clash3_4 n b3_0 b3_1 b3_2 b3_3 b4_0 b4_1 b4_2 b4_3 b5_0 b5_1 b5_2 b5_3 b7_0 b7_1 b7_2 b8_0 b8_1 b8_2 b9_0 b9_1 b9_2 r h) (by kernel_rfl)
    · refine x_frk 6 [] onil h (by kernel_rfl) (fun h => ?_) (fun h => ?_)
      · exact x_to 8 [] onil (Tspec_l6Clash3_4 n b3_0 b3_1 b3_2 b3_3 b4_0 b4_1 b4_2 b4_3 b5_0 b5_1 b5_2 b5_3 b7_0 b7_1 b7_2 b8_0 b8_1 b8_2 b9_0 b9_1 b9_2 r h) (by kernel_rfl)
      · exact x_to 6 [] onil (Tspec_l6Clash3_5 n (b9_2 != 0) b3_0 b3_1 b3_2 b3_3 b4_0 b4_1 b4_2 b4_3 b5_0 b5_1 b5_2 b5_3 b7_0 b7_1 b7_2 b8_0 b8_1 b8_2 b9_0 b9_1 b9_2 r h) (by kernel_rfl)
def Dspec_l6Clash3_1 (n : Nat) (t44 : Bool) (b3_0 b3_1 b3_2 b3_3 b4_0 b4_1 b4_2 b4_3 b5_0 b5_1 b5_2 b5_3 b7_0 b7_1 b7_2 b8_0 b8_1 b8_2 b9_0 b9_1 b9_2 : Int) : Option Bool :=
  frk t44 ((Dspec_l6Sum n [b7_0, b8_0, b9_0] [b3_3, b4_3, b5_3]).bind fun v5 => some v5) (frk (b7_1 != 0) (Dspec_l6Clash3_2 n b3_0 b3_1 b3_2 b3_3 b4_0 b4_1 b4_2 b4_3 b5_0 b5_1 b5_2 b5_3 b7_0 b7_1 b7_2 b8_0 b8_1 b8_2 b9_0 b9_1 b9_2) (frk (b8_1 != 0) (Dspec_l6Clash3_2 n b3_0 b3_1 b3_2 b3_3 b4_0 b4_1 b4_2 b4_3 b5_0 b5_1 b5_2 b5_3 b7_0 b7_1 b7_2 b8_0 b8_1 b8_2 b9_0 b9_1 b9_2) (Dspec_l6Clash3_3 n (b9_1 != 0) b3_0 b3_1 b3_2 b3_3 b4_0 b4_1 b4_2 b4_3 b5_0 b5_1 b5_2 b5_3 b7_0 b7_1 b7_2 b8_0 b8_1 b8_2 b9_0 b9_1 b9_2)))
theorem Tspec_l6Clash3_1 {Y} (n : Nat) (t44 : Bool) (b3_0 b3_1 b3_2 b3_3 b4_0 b4_1 b4_2 b4_3 b5_0 b5_1 b5_2 b5_3 b7_0 b7_1 b7_2 b8_0 b8_1 b8_2 b9_0 b9_1 b9_2 : Int) (r : Bool) (h : Dspec_l6Clash3_1 n t44 b3_0 b3_1 b3_2 b3_3 b4_0 b4_1 b4_2 b4_3 b5_0 b5_1 b5_2 b5_3 b7_0 b7_1 b7_2 b8_0 b8_1 b8_2 b9_0 b9_1 b9_2 = some r) : Wk Tryz.prog H Y 173 [.code (cp [1, 1, 1, 1, 1, 0, 1, 0, 0, 1, 0, 0, 1] (bodyOf Tryz.f173)), .blk 1, .code (cp [1, 1, 1, 1, 1, 0, 1, 0, 0, 1, 1] (bodyOf Tryz.f173)), .lp (cp [1, 1, 1, 1, 1, 0, 1, 0] (bodyOf Tryz.f173)), .blk 0, .code (cp [1, 1, 1, 1, 1, 1] (bodyOf Tryz.f173))] (FinX Tryz.prog Tryz.f173 [] (bl r) []) ⟨[(3, .ptr 3 0), (4, .ptr 4 0), (5, .ptr 5 0), (7, .ptr 7 0), (8, .ptr 8 0), (9, .ptr 9 0), (10, i64 0), (44, bl t44)], [(3, ⟨true, 0, [i64 b3_0, i64 b3_1, i64 b3_2, i64 b3_3]⟩), (4, ⟨true, 0, [i64 b4_0, i64 b4_1, i64 b4_2, i64 b4_3]⟩), (5, ⟨true, 0, [i64 b5_0, i64 b5_1, i64 b5_2, i64 b5_3]⟩), (7, ⟨true, 0, [i64 b7_0, i64 b7_1, i64 b7_2]⟩), (8, ⟨true, 0, [i64 b8_0, i64 b8_1, i64 b8_2]⟩), (9, ⟨true, 0, [i64 b9_0, i64 b9_1, i64 b9_2]⟩)]⟩ := by
  unfold Dspec_l6Clash3_1 at h
  refine x_frk 0 [] onil h (by kernel_rfl) (fun h => ?_) (fun h => ?_)
  · obtain ⟨v5, hv5, h⟩ := bind_some h
    replace h := Option.some.inj h; subst h
    exact x_end 22 [(17, .call [] [(eInt).f [b3_3, b4_3, b5_3], (eInt).f [b7_0, b8_0, b9_0]] (bl v5) [])] [] (ocons (Tspec_l6Sum (Y := Y) n [b7_0, b8_0, b9_0] [b3_3, b4_3, b5_3] _ hv5) (ocons (len_row (L := [b7_0, b8_0, b9_0]) eInt) (ocons (Enc.share eInt eInt sInt [b7_0, b8_0, b9_0]) (ocons (len_row (L := [b3_3, b4_3, b5_3]) eInt) (ocons (Enc.share eInt eInt sInt [b3_3, b4_3, b5_3]) onil))))) onil (by kernel_rfl)
  · refine x_frk 26 [] onil h (by kernel_rfl) (fun h => ?_) (fun h => ?_)
    · exact x_to 14 [] onil (Tspec_l6Clash3_2 n b3_0 b3_1 b3_2 b3_3 b4_0 b4_1 b4_2 b4_3 b5_0 b5_1 b5_2 b5_3 b7_0 b7_1 b7_2 b8_0 b8_1 b8_2 b9_0 b9_1 b9_2 r h) (by kernel_rfl)
    · refine x_frk 6 [] onil h (by kernel_rfl) (fun h => ?_) (fun h => ?_)
      · exact x_to 8 [] onil (Tspec_l6Clash3_2 n b3_0 b3_1 b3_2 b3_3 b4_0 b4_1 b4_2 b4_3 b5_0 b5_1 b5_2 b5_3 b7_0 b7_1 b7_2 b8_0 b8_1 b8_2 b9_0 b9_1 b9_2 r h) (by kernel_rfl)
      · exact x_to 6 [] onil (Tspec_l6Clash3_3 n (b9_1 != 0) b3_0 b3_1 b3_2 b3_3 b4_0 b4_1 b4_2 b4_3 b5_0 b5_1 b5_2 b5_3 b7_0 b7_1 b7_2 b8_0 b8_1 b8_2 b9_0 b9_1 b9_2 r h) (by kernel_rfl)
def Dspec_l6Clash3 (n : Nat) (a0 : Pl) (a1 : Pl) (a2 : Pl) : Option Bool :=
  (Dspec_l4Det3 a0 a1 a2).bind fun v0 => frk (v0 != 0) (some false) ((Dspec_l4Cross a1 a2).bind fun v1 => (Dspec_l4Cross a2 a0).bind fun v2 => (Dspec_l4Cross a0 a1).bind fun v3 => frk (v1.1 != 0) (Dspec_l6Clash3_0 n a0.A a0.B a0.C a0.D a1.A a1.B a1.C a1.D a2.A a2.B a2.C a2.D v1.1 v1.2.1 v1.2.2 v2.1 v2.2.1 v2.2.2 v3.1 v3.2.1 v3.2.2) (frk (v2.1 != 0) (Dspec_l6Clash3_0 n a0.A a0.B a0.C a0.D a1.A a1.B a1.C a1.D a2.A a2.B a2.C a2.D v1.1 v1.2.1 v1.2.2 v2.1 v2.2.1 v2.2.2 v3.1 v3.2.1 v3.2.2) (Dspec_l6Clash3_1 n (v3.1 != 0) a0.A a0.B a0.C a0.D a1.A a1.B a1.C a1.D a2.A a2.B a2.C a2.D v1.1 v1.2.1 v1.2.2 v2.1 v2.2.1 v2.2.2 v3.1 v3.2.1 v3.2.2)))
theorem Tspec_l6Clash3 {Y} (n : Nat) (a0 : Pl) (a1 : Pl) (a2 : Pl) (r : Bool) (h : Dspec_l6Clash3 n a0 a1 a2 = some r) : Big Tryz.prog H Y (.call 173 [.agg [i64 a0.A, i64 a0.B, i64 a0.C, i64 a0.D], .agg [i64 a1.A, i64 a1.B, i64 a1.C, i64 a1.D], .agg [i64 a2.A, i64 a2.B, i64 a2.C, i64 a2.D]] (lk []) (bl r) (lk [])) := by
  unfold Dspec_l6Clash3 at h
  refine x_call (fn := Tryz.f173) (c := bodyOf Tryz.f173) (bs0 := []) Tryz.func173 (by kernel_rfl) (by kernel_rfl) ?_
  obtain ⟨v0, hv0, h⟩ := bind_some h
  refine x_frk 16 [(7, .call [] [] (i64 v0) [])] (ocons (Tspec_l4Det3 (Y := Y) a0 a1 a2 _ hv0) onil) h (by kernel_rfl) (fun h => ?_) (fun h => ?_)
  · replace h := Option.some.inj h; subst h
    exact x_end 4 [] [] onil onil (by kernel_rfl)
  · obtain ⟨v1, hv1, h⟩ := bind_some h
    obtain ⟨v2, hv2, h⟩ := bind_some h
    obtain ⟨v3, hv3, h⟩ := bind_some h
    refine x_frk 49 [(2, .call [] [] (.agg [i64 v1.1, i64 v1.2.1, i64 v1.2.2]) []), (4, .call [] [] (.agg [i64 v2.1, i64 v2.2.1, i64 v2.2.2]) []), (4, .call [] [] (.agg [i64 v3.1, i64 v3.2.1, i64 v3.2.2]) [])] (ocons (Tspec_l4Cross (Y := Y) a1 a2 _ hv1) (ocons (Tspec_l4Cross (Y := Y) a2 a0 _ hv2) (ocons (Tspec_l4Cross (Y := Y) a0 a1 _ hv3) onil))) h (by kernel_rfl) (fun h => ?_) (fun h => ?_)
    · exact x_to 14 [] onil (Tspec_l6Clash3_0 n a0.A a0.B a0.C a0.D a1.A a1.B a1.C a1.D a2.A a2.B a2.C a2.D v1.1 v1.2.1 v1.2.2 v2.1 v2.2.1 v2.2.2 v3.1 v3.2.1 v3.2.2 r h) (by kernel_rfl)
    · refine x_frk 6 [] onil h (by kernel_rfl) (fun h => ?_) (fun h => ?_)
      · exact x_to 8 [] onil (Tspec_l6Clash3_0 n a0.A a0.B a0.C a0.D a1.A a1.B a1.C a1.D a2.A a2.B a2.C a2.D v1.1 v1.2.1 v1.2.2 v2.1 v2.2.1 v2.2.2 v3.1 v3.2.1 v3.2.2 r h) (by kernel_rfl)
      · exact x_to 6 [] onil (Tspec_l6Clash3_1 n (v3.1 != 0) a0.A a0.B a0.C a0.D a1.A a1.B a1.C a1.D a2.A a2.B a2.C a2.D v1.1 v1.2.1 v1.2.2 v2.1 v2.2.1 v2.2.2 v3.1 v3.2.1 v3.2.2 r h) (by kernel_rfl)
/-! spec.l6Clash4 -/
def Dspec_l6Clash4 (n : Nat) (a0 : Pl) (a1 : Pl) (a2 : Pl) (a3 : Pl) : Option Bool :=
  (Dspec_l4Det3 a1 a2 a3).bind fun v0 => (Dspec_l4Det3 a0 a2 a3).bind fun v1 => (Dspec_l4Det3 a0 a1 a3).bind fun v2 => (Dspec_l4Det3 a0 a1 a2).bind fun v3 => (Dspec_l6Sum n [v0, w64 (0 - v1), v2, w64 (0 - v3)] [a0.D, a1.D, a2.D, a3.D]).bind fun v4 => some v4
theorem Tspec_l6Clash4 {Y} (n : Nat) (a0 : Pl) (a1 : Pl) (a2 : Pl) (a3 : Pl) (r : Bool) (h : Dspec_l6Clash4 n a0 a1 a2 a3 = some r) : Big Tryz.prog H Y (.call 174 [.agg [i64 a0.A, i64 a0.B, i64 a0.C, i64 a0.D], .agg [i64 a1.A, i64 a1.B, i64 a1.C, i64 a1.D], .agg [i64 a2.A, i64 a2.B, i64 a2.C, i64 a2.D], .agg [i64 a3.A, i64 a3.B, i64 a3.C, i64 a3.D]] (lk []) (bl r) (lk [])) := by
  unfold Dspec_l6Clash4 at h
  refine x_call (fn := Tryz.f174) (c := bodyOf Tryz.f174) (bs0 := []) Tryz.func174 (by kernel_rfl) (by kernel_rfl) ?_
  obtain ⟨v0, hv0, h⟩ := bind_some h
  obtain ⟨v1, hv1, h⟩ := bind_some h
  obtain ⟨v2, hv2, h⟩ := bind_some h
  obtain ⟨v3, hv3, h⟩ := bind_some h
  obtain ⟨v4, hv4, h⟩ := bind_some h
  replace h := Option.some.inj h; subst h
  exact x_end 46 [(8, .call [] [] (i64 v0) []), (3, .call [] [] (i64 v1) []), (4, .call [] [] (i64 v2) []), (3, .call [] [] (i64 v3) []), (13, .call [] [(eInt).f [a0.D, a1.D, a2.D, a3.D], (eInt).f [v0, w64 (0 - v1), v2, w64 (0 - v3)]] (bl v4) [])] [] (ocons (Tspec_l4Det3 (Y := Y) a1 a2 a3 _ hv0) (ocons (Tspec_l4Det3 (Y := Y) a0 a2 a3 _ hv1) (ocons (Tspec_l4Det3 (Y := Y) a0 a1 a3 _ hv2) (ocons (Tspec_l4Det3 (Y := Y) a0 a1 a2 _ hv3) (ocons (Tspec_l6Sum (Y := Y) n [v0, w64 (0 - v1), v2, w64 (0 - v3)] [a0.D, a1.D, a2.D, a3.D] _ hv4) (ocons (len_row (L := [v0, w64 (0 - v1), v2, w64 (0 - v3)]) eInt) (ocons (Enc.share eInt eInt sInt [v0, w64 (0 - v1), v2, w64 (0 - v3)]) (ocons (len_row (L := [a0.D, a1.D, a2.D, a3.D]) eInt) (ocons (Enc.share eInt eInt sInt [a0.D, a1.D, a2.D, a3.D]) onil))))))))) onil (by kernel_rfl)
/-! spec.l6With -/
def Dspec_l6With_0 (n : Nat) (rec1 : Int → Option Bool) (_rec0 : Int → Option Bool) (t6 : Int) (t0 : List Pl) (t5 b3_0 b3_1 b3_2 b3_3 t7 : Int) (rec2 : Int → Option Bool) (a : Int) : Option Bool :=
  match a with
  | t8 => frk (decide (t8 < t5)) ((lget t0 t6).bind fun v5 => (lget t0 t7).bind fun v6 => (lget t0 t8).bind fun v7 => (Dspec_l6Clash4 n v5 v6 v7 (Pl.mk b3_0 b3_1 b3_2 b3_3)).bind fun v8 => frk v8 (some true) (rec2 (w64 (t8 + 1)))) (rec1 (w64 (t7 + 1)))
theorem Tspec_l6With_0 {Y} (n : Nat) (rec1 : Int → Option Bool) (rec0 : Int → Option Bool) (t6 : Int) (t0 : List Pl) (t5 b3_0 b3_1 b3_2 b3_3 : Int) (hrec1 : ∀ (a : Int) (r : Bool), rec1 a = some r → Wk Tryz.prog H Y 113 [.code (cp [1, 1, 0, 1, 0, 0, 1, 0, 0, 1, 1, 0] (bodyOf Tryz.f113)), .blk 2, .blk 1, .code (cp [1, 1, 0, 1, 0, 0, 1, 1] (bodyOf Tryz.f113)), .lp (cp [1, 1, 0, 1, 0] (bodyOf Tryz.f113)), .blk 0, .code (cp [1, 1, 1] (bodyOf Tryz.f113))] (FinX Tryz.prog Tryz.f113 [] (bl r) []) ⟨[(0, .sl false 4 t0.length ((ePl).f t0)), (3, .ptr 3 0), (5, i64 t5), (6, i64 t6), (7, i64 a)], [(3, ⟨true, 0, [i64 b3_0, i64 b3_1, i64 b3_2, i64 b3_3]⟩)]⟩) (_hrec0 : ∀ (a : Int) (r : Bool), rec0 a = some r → Wk Tryz.prog H Y 113 [.code (cp [1, 1, 0, 1, 0] (bodyOf Tryz.f113)), .blk 0, .code (cp [1, 1, 1] (bodyOf Tryz.f113))] (FinX Tryz.prog Tryz.f113 [] (bl r) []) ⟨[(0, .sl false 4 t0.length ((ePl).f t0)), (3, .ptr 3 0), (5, i64 t5), (6, i64 a)], [(3, ⟨true, 0, [i64 b3_0, i64 b3_1, i64 b3_2, i64 b3_3]⟩)]⟩) (t7 : Int) : ∀ (m : Nat) (a : Int) (r : Bool), loopN (Dspec_l6With_0 n rec1 rec0 t6 t0 t5 b3_0 b3_1 b3_2 b3_3 t7) m a = some r → Wk Tryz.prog H Y 113 [.code (cp [1, 1, 0, 1, 0, 0, 1, 0, 0, 1, 1, 0, 0, 1, 0, 0, 1, 1, 0] (bodyOf Tryz.f113)), .blk 4, .blk 3, .code (cp [1, 1, 0, 1, 0, 0, 1, 0, 0, 1, 1, 0, 0, 1, 1] (bodyOf Tryz.f113)), .lp (cp [1, 1, 0, 1, 0, 0, 1, 0, 0, 1, 1, 0] (bodyOf Tryz.f113)), .blk 2, .blk 1, .code (cp [1, 1, 0, 1, 0, 0, 1, 1] (bodyOf Tryz.f113)), .lp (cp [1, 1, 0, 1, 0] (bodyOf Tryz.f113)), .blk 0, .code (cp [1, 1, 1] (bodyOf Tryz.f113))] (FinX Tryz.prog Tryz.f113 [] (bl r) []) ⟨[(0, .sl false 4 t0.length ((ePl).f t0)), (3, .ptr 3 0), (5, i64 t5), (6, i64 t6), (7, i64 t7), (8, i64 a)], [(3, ⟨true, 0, [i64 b3_0, i64 b3_1, i64 b3_2, i64 b3_3]⟩)]⟩ := by
  refine loopN_ind (fun _rec2 hrec2 a r h => ?_)
  obtain ⟨t8, rfl⟩ : ∃ x, x = a := ⟨a, rfl⟩
  unfold Dspec_l6With_0 at h
  refine x_frk 8 [] onil h (by kernel_rfl) (fun h => ?_) (fun h => ?_)
  · obtain ⟨v5, hv5, h⟩ := bind_some h
    obtain ⟨v6, hv6, h⟩ := bind_some h
    obtain ⟨v7, hv7, h⟩ := bind_some h
    obtain ⟨v8, hv8, h⟩ := bind_some h
    refine x_frk 20 [(2, .val (.cptr (ePl.c v5 ++ (ePl).f ((t0).drop (Int.toNat t6 + 1))))), (3, .val (.cptr (ePl.c v6 ++ (ePl).f ((t0).drop (Int.toNat t7 + 1))))), (3, .val (.cptr (ePl.c v7 ++ (ePl).f ((t0).drop (Int.toNat t8 + 1))))), (2, .call [] [] (bl v8) [])] (ocons (ix ePl hv5) (ocons (ix ePl hv6) (ocons (ix ePl hv7) (ocons (Tspec_l6Clash4 (Y := Y) n v5 v6 v7 (Pl.mk b3_0 b3_1 b3_2 b3_3) _ hv8) onil)))) h (by kernel_rfl) (fun h => ?_) (fun h => ?_)
    · replace h := Option.some.inj h; subst h
      exact x_end 4 [] [] onil onil (by kernel_rfl)
    · exact x_to 8 [] onil (hrec2 (w64 (t8 + 1)) r h) (by kernel_rfl)
  · exact x_to 8 [] onil (hrec1 (w64 (t7 + 1)) r h) (by kernel_rfl)
def Dspec_l6With_1 (n : Nat) (rec0 : Int → Option Bool) (t0 : List Pl) (t5 b3_0 b3_1 b3_2 b3_3 t6 : Int) (rec1 : Int → Option Bool) (a : Int) : Option Bool :=
  match a with
  | t7 => frk (decide (t7 < t5)) ((lget t0 t6).bind fun v2 => (lget t0 t7).bind fun v3 => (Dspec_l6Clash3 n v2 v3 (Pl.mk b3_0 b3_1 b3_2 b3_3)).bind fun v4 => frk v4 (some true) (loopN (Dspec_l6With_0 n rec1 rec0 t6 t0 t5 b3_0 b3_1 b3_2 b3_3 t7) n (w64 (t7 + 1)))) (rec0 (w64 (t6 + 1)))
theorem Tspec_l6With_1 {Y} (n : Nat) (rec0 : Int → Option Bool) (t0 : List Pl) (t5 b3_0 b3_1 b3_2 b3_3 : Int) (hrec0 : ∀ (a : Int) (r : Bool), rec0 a = some r → Wk Tryz.prog H Y 113 [.code (cp [1, 1, 0, 1, 0] (bodyOf Tryz.f113)), .blk 0, .code (cp [1, 1, 1] (bodyOf Tryz.f113))] (FinX Tryz.prog Tryz.f113 [] (bl r) []) ⟨[(0, .sl false 4 t0.length ((ePl).f t0)), (3, .ptr 3 0), (5, i64 t5), (6, i64 a)], [(3, ⟨true, 0, [i64 b3_0, i64 b3_1, i64 b3_2, i64 b3_3]⟩)]⟩) (t6 : Int) : ∀ (m : Nat) (a : Int) (r : Bool), loopN (Dspec_l6With_1 n rec0 t0 t5 b3_0 b3_1 b3_2 b3_3 t6) m a = some r → Wk Tryz.prog H Y 113 [.code (cp [1, 1, 0, 1, 0, 0, 1, 0, 0, 1, 1, 0] (bodyOf Tryz.f113)), .blk 2, .blk 1, .code (cp [1, 1, 0, 1, 0, 0, 1, 1] (bodyOf Tryz.f113)), .lp (cp [1, 1, 0, 1, 0] (bodyOf Tryz.f113)), .blk 0, .code (cp [1, 1, 1] (bodyOf Tryz.f113))] (FinX Tryz.prog Tryz.f113 [] (bl r) []) ⟨[(0, .sl false 4 t0.length ((ePl).f t0)), (3, .ptr 3 0), (5, i64 t5), (6, i64 t6), (7, i64 a)], [(3, ⟨true, 0, [i64 b3_0, i64 b3_1, i64 b3_2, i64 b3_3]⟩)]⟩ := by
  refine loopN_ind (fun rec1 hrec1 a r h => ?_)
  obtain ⟨t7, rfl⟩ : ∃ x, x = a := ⟨a, rfl⟩
  unfold Dspec_l6With_1 at h
  refine x_frk 8 [] onil h (by kernel_rfl) (fun h => ?_) (fun h => ?_)
  · obtain ⟨v2, hv2, h⟩ := bind_some h
    obtain ⟨v3, hv3, h⟩ := bind_some h
    obtain ⟨v4, hv4, h⟩ := bind_some h
    refine x_frk 17 [(2, .val (.cptr (ePl.c v2 ++ (ePl).f ((t0).drop (Int.toNat t6 + 1))))), (3, .val (.cptr (ePl.c v3 ++ (ePl).f ((t0).drop (Int.toNat t7 + 1))))), (2, .call [] [] (bl v4) [])] (ocons (ix ePl hv2) (ocons (ix ePl hv3) (ocons (Tspec_l6Clash3 (Y := Y) n v2 v3 (Pl.mk b3_0 b3_1 b3_2 b3_3) _ hv4) onil))) h (by kernel_rfl) (fun h => ?_) (fun h => ?_)
    · replace h := Option.some.inj h; subst h
      exact x_end 4 [] [] onil onil (by kernel_rfl)
    · exact x_to 8 [] onil (Tspec_l6With_0 n rec1 rec0 t6 t0 t5 b3_0 b3_1 b3_2 b3_3 hrec1 hrec0 t7 n (w64 (t7 + 1)) r h) (by kernel_rfl)
  · exact x_to 8 [] onil (hrec0 (w64 (t6 + 1)) r h) (by kernel_rfl)
def Dspec_l6With_2 (n : Nat) (t0 : List Pl) (t5 b3_0 b3_1 b3_2 b3_3 : Int) (rec0 : Int → Option Bool) (a : Int) : Option Bool :=
  match a with
  | t6 => frk (decide (t6 < t5)) ((lget t0 t6).bind fun v0 => (Dspec_l6Clash2 v0 (Pl.mk b3_0 b3_1 b3_2 b3_3)).bind fun v1 => frk v1 (some true) (loopN (Dspec_l6With_1 n rec0 t0 t5 b3_0 b3_1 b3_2 b3_3 t6) n (w64 (t6 + 1)))) (some false)
theorem Tspec_l6With_2 {Y} (n : Nat) (t0 : List Pl) (t5 b3_0 b3_1 b3_2 b3_3 : Int) : ∀ (m : Nat) (a : Int) (r : Bool), loopN (Dspec_l6With_2 n t0 t5 b3_0 b3_1 b3_2 b3_3) m a = some r → Wk Tryz.prog H Y 113 [.code (cp [1, 1, 0, 1, 0] (bodyOf Tryz.f113)), .blk 0, .code (cp [1, 1, 1] (bodyOf Tryz.f113))] (FinX Tryz.prog Tryz.f113 [] (bl r) []) ⟨[(0, .sl false 4 t0.length ((ePl).f t0)), (3, .ptr 3 0), (5, i64 t5), (6, i64 a)], [(3, ⟨true, 0, [i64 b3_0, i64 b3_1, i64 b3_2, i64 b3_3]⟩)]⟩ := by
  refine loopN_ind (fun rec0 hrec0 a r h => ?_)
  obtain ⟨t6, rfl⟩ : ∃ x, x = a := ⟨a, rfl⟩
  unfold Dspec_l6With_2 at h
  refine x_frk 8 [] onil h (by kernel_rfl) (fun h => ?_) (fun h => ?_)
  · obtain ⟨v0, hv0, h⟩ := bind_some h
    obtain ⟨v1, hv1, h⟩ := bind_some h
    refine x_frk 13 [(2, .val (.cptr (ePl.c v0 ++ (ePl).f ((t0).drop (Int.toNat t6 + 1))))), (2, .call [] [] (bl v1) [])] (ocons (ix ePl hv0) (ocons (Tspec_l6Clash2 (Y := Y) v0 (Pl.mk b3_0 b3_1 b3_2 b3_3) _ hv1) onil)) h (by kernel_rfl) (fun h => ?_) (fun h => ?_)
    · replace h := Option.some.inj h; subst h
      exact x_end 4 [] [] onil onil (by kernel_rfl)
    · exact x_to 8 [] onil (Tspec_l6With_1 n rec0 t0 t5 b3_0 b3_1 b3_2 b3_3 hrec0 t6 n (w64 (t6 + 1)) r h) (by kernel_rfl)
  · replace h := Option.some.inj h; subst h
    exact x_end 5 [] [] onil onil (by kernel_rfl)
def Dspec_l6With (n : Nat) (a0 : (List Pl)) (a1 : Pl) : Option Bool :=
  loopN (Dspec_l6With_2 n a0 (a0.length : Int) a1.A a1.B a1.C a1.D) n 0
theorem Tspec_l6With {Y} (n : Nat) (a0 : (List Pl)) (a1 : Pl) (r : Bool) (h : Dspec_l6With n a0 a1 = some r) : Big Tryz.prog H Y (.call 113 [.sl false 4 a0.length ((ePl).f a0), .agg [i64 a1.A, i64 a1.B, i64 a1.C, i64 a1.D]] (lk []) (bl r) (lk [])) := by
  unfold Dspec_l6With at h
  refine x_call (fn := Tryz.f113) (c := bodyOf Tryz.f113) (bs0 := []) Tryz.func113 (by kernel_rfl) (by kernel_rfl) ?_
  exact x_to 17 [] onil (Tspec_l6With_2 n a0 (a0.length : Int) a1.A a1.B a1.C a1.D n 0 r h) (by kernel_rfl)
/-! spec.l3Flip -/
def Dspec_l3Flip (a0 : Pl) : Option Pl :=
  some (Pl.mk (w64 (0 - a0.A)) (w64 (0 - a0.B)) (w64 (0 - a0.C)) (w64 (0 - a0.D)))
theorem Tspec_l3Flip {Y} (a0 : Pl) (r : Pl) (h : Dspec_l3Flip a0 = some r) : Big Tryz.prog H Y (.call 114 [.agg [i64 a0.A, i64 a0.B, i64 a0.C, i64 a0.D]] (lk []) (.agg [i64 r.A, i64 r.B, i64 r.C, i64 r.D]) (lk [])) := by
  unfold Dspec_l3Flip at h
  refine x_call (fn := Tryz.f114) (c := bodyOf Tryz.f114) (bs0 := []) Tryz.func114 (by kernel_rfl) (by kernel_rfl) ?_
  replace h := Option.some.inj h; subst h
  exact x_end 22 [] [] onil onil (by kernel_rfl)
/-! spec.l8Path -/
def Dspec_l8Path (a0 : (List Pl)) (a1 : Pl) : Option (List Pl) :=
  chk (apB 32 (0 + a0.length)) (chk (apB 32 (([] ++ a0).length + 1)) (some (([] ++ a0) ++ [a1])))
theorem Tspec_l8Path {Y} (a0 : (List Pl)) (a1 : Pl) (r : (List Pl)) (h : Dspec_l8Path a0 a1 = some r) : Big Tryz.prog H Y (.call 115 [.sl false 4 a0.length ((ePl).f a0), .agg [i64 a1.A, i64 a1.B, i64 a1.C, i64 a1.D]] (lk []) (.sl true 4 r.length ((ePl).f r)) (lk [])) := by
  unfold Dspec_l8Path at h
  refine x_call (fn := Tryz.f115) (c := bodyOf Tryz.f115) (bs0 := []) Tryz.func115 (by kernel_rfl) (by kernel_rfl) ?_
  obtain ⟨c0, h⟩ := chk_some h
  obtain ⟨c1, h⟩ := chk_some h
  replace h := Option.some.inj h; subst h
  exact x_end 15 [(4, .app false (List.length ([] ++ a0)) ((ePl).f ([] ++ a0))), (2, .app false (List.length (([] ++ a0) ++ [a1])) ((ePl).f (([] ++ a0) ++ [a1])))] [] (ocons (len_row' (L := []) ePl) (ocons (app_one (L := []) (M := a0) ePl c0) (ocons (app_new (L := []) (M := a0) ePl) (ocons (app_m (L := []) (M := a0) ePl rfl) (ocons (len_row' (L := a0) ePl) (ocons (len_row' (L := ([] ++ a0)) ePl) (ocons (app_one (L := ([] ++ a0)) (M := [a1]) ePl c1) (ocons (app_new (L := ([] ++ a0)) (M := [a1]) ePl) (ocons (app_m (L := ([] ++ a0)) (M := [a1]) ePl rfl) (ocons (len_row' (L := [a1]) ePl) (ocons (Enc.noOwn ePl (fun _ => rfl) [a1]) onil))))))))))) (ocons (len_row (L := (([] ++ a0) ++ [a1])) ePl) onil) (by kernel_rfl)
/-! spec.l8Look -/
def Dspec_l8Look_0 (_n : Nat) (self : (Sol × (List Pl)) → Option Bool) (t1 : List Pl) (t42 _b2_0 : Bool) (b2_1 b2_2 b2_3 b2_4 : Int) (b2_5 : List Sol) : Option Bool :=
  frk t42 (some false) ((lget b2_5 0).bind fun v5 => (Dspec_l8Path t1 (Pl.mk b2_1 b2_2 b2_3 b2_4)).bind fun v6 => (self (v5, v6)).bind fun v7 => frk v7 ((lget b2_5 1).bind fun v8 => (Dspec_l3Flip (Pl.mk b2_1 b2_2 b2_3 b2_4)).bind fun v9 => (Dspec_l8Path t1 v9).bind fun v10 => (self (v8, v10)).bind fun v11 => some v11) (some false))
theorem Tspec_l8Look_0 {Y} (n : Nat) (self : (Sol × (List Pl)) → Option Bool) (hself : ∀ (a : (Sol × (List Pl))) (r : Bool), self a = some r → Big Tryz.prog H Y (.call 144 [.agg [bl a.1.inn, i64 a.1.pl.A, i64 a.1.pl.B, i64 a.1.pl.C, i64 a.1.pl.D, .sl false 6 a.1.kids.length ((eSol false).f a.1.kids)], .sl false 4 a.2.length ((ePl).f a.2)] (lk []) (bl r) (lk []))) (t1 : List Pl) (t42 b2_0 : Bool) (b2_1 b2_2 b2_3 b2_4 : Int) (b2_5 : List Sol) (r : Bool) (h : Dspec_l8Look_0 n self t1 t42 b2_0 b2_1 b2_2 b2_3 b2_4 b2_5 = some r) : Wk Tryz.prog H Y 144 [.code (cp [1, 1, 0, 1] (bodyOf Tryz.f144)), .code (cp [1, 1, 1] (bodyOf Tryz.f144))] (FinX Tryz.prog Tryz.f144 [] (bl r) []) ⟨[(1, .sl false 4 t1.length ((ePl).f t1)), (2, .ptr 2 0), (42, bl t42)], [(2, ⟨true, 0, [bl b2_0, i64 b2_1, i64 b2_2, i64 b2_3, i64 b2_4, .sl false 6 b2_5.length ((eSol false).f b2_5)]⟩)]⟩ := by
  unfold Dspec_l8Look_0 at h
  refine x_frk 0 [] onil h (by kernel_rfl) (fun h => ?_) (fun h => ?_)
  · replace h := Option.some.inj h; subst h
    exact x_end 4 [] [] onil onil (by kernel_rfl)
  · obtain ⟨v5, hv5, h⟩ := bind_some h
    obtain ⟨v6, hv6, h⟩ := bind_some h
    obtain ⟨v7, hv7, h⟩ := bind_some h
    refine x_frk 13 [(2, .val (.cptr ((eSol false).c v5 ++ (eSol false).f ((b2_5).drop (Int.toNat 0 + 1))))), (4, .call [] [] (.sl false 4 v6.length ((ePl).f v6)) []), (0, .call [] [] (bl v7) [])] (ocons (ix (eSol false) hv5) (ocons (shSl (L := v6) ePl ePl sPl (Tspec_l8Path (Y := Y) t1 (Pl.mk b2_1 b2_2 b2_3 b2_4) _ hv6)) (ocons (hself (v5, v6) _ hv7) onil))) h (by kernel_rfl) (fun h => ?_) (fun h => ?_)
    · obtain ⟨v8, hv8, h⟩ := bind_some h
      obtain ⟨v9, hv9, h⟩ := bind_some h
      obtain ⟨v10, hv10, h⟩ := bind_some h
      obtain ⟨v11, hv11, h⟩ := bind_some h
      replace h := Option.some.inj h; subst h
      exact x_end 13 [(2, .val (.cptr ((eSol false).c v8 ++ (eSol false).f ((b2_5).drop (Int.toNat 1 + 1))))), (4, .call [] [] (.agg [i64 v9.A, i64 v9.B, i64 v9.C, i64 v9.D]) []), (0, .call [] [] (.sl false 4 v10.length ((ePl).f v10)) []), (0, .call [] [] (bl v11) [])] [] (ocons (ix (eSol false) hv8) (ocons (Tspec_l3Flip (Y := Y) (Pl.mk b2_1 b2_2 b2_3 b2_4) _ hv9) (ocons (shSl (L := v10) ePl ePl sPl (Tspec_l8Path (Y := Y) t1 v9 _ hv10)) (ocons (hself (v8, v10) _ hv11) onil)))) onil (by kernel_rfl)
    · replace h := Option.some.inj h; subst h
      exact x_end 13 [] [] onil onil (by kernel_rfl)
def Dspec_l8Look_b (n : Nat) (self : (Sol × (List Pl)) → Option Bool) (a : (Sol × (List Pl))) : Option Bool :=
  match a with
  | (a0, a1) => (Dspec_l8Leaf a0).bind fun v0 => frk v0 (some (a0.pl.A == 0 && (a0.pl.B == 0 && (a0.pl.C == 0 && (a0.pl.D == 0 && true))))) (frk ((a0.kids.length : Int) != 2) (some false) (frk a0.inn (some false) ((Dspec_PlaneOk n a0.pl).bind fun v1 => frk (!v1) (some false) (frk ((a1.length : Int) == 24) (some false) ((Dspec_l6With n a1 a0.pl).bind fun v2 => frk v2 (some false) ((Dspec_l3Flip a0.pl).bind fun v3 => (Dspec_l6With n a1 v3).bind fun v4 => Dspec_l8Look_0 n self a1 v4 a0.inn a0.pl.A a0.pl.B a0.pl.C a0.pl.D a0.kids))))))
def Dspec_l8Look (n : Nat) (a0 : Sol) (a1 : (List Pl)) : Option Bool := loopN (Dspec_l8Look_b n) n (a0, a1)
theorem Tspec_l8Look_b {Y} (n : Nat) : ∀ (m : Nat) (a : (Sol × (List Pl))) (r : Bool), loopN (Dspec_l8Look_b n) m a = some r → ∀ (_ : Unit), Big Tryz.prog H Y (.call 144 [.agg [bl a.1.inn, i64 a.1.pl.A, i64 a.1.pl.B, i64 a.1.pl.C, i64 a.1.pl.D, .sl false 6 a.1.kids.length ((eSol false).f a.1.kids)], .sl false 4 a.2.length ((ePl).f a.2)] (lk []) (bl r) (lk [])) := by
  refine loopN_ind (fun self hs a r h => ?_)
  have hself : ∀ (a : (Sol × (List Pl))) (r : Bool), self a = some r → Big Tryz.prog H Y (.call 144 [.agg [bl a.1.inn, i64 a.1.pl.A, i64 a.1.pl.B, i64 a.1.pl.C, i64 a.1.pl.D, .sl false 6 a.1.kids.length ((eSol false).f a.1.kids)], .sl false 4 a.2.length ((ePl).f a.2)] (lk []) (bl r) (lk [])) := fun a r h => hs a r h ()
  intro _
  obtain ⟨a0, a1⟩ := a
  unfold Dspec_l8Look_b at h
  refine x_call (fn := Tryz.f144) (c := bodyOf Tryz.f144) (bs0 := []) Tryz.func144 (by kernel_rfl) (by kernel_rfl) ?_
  obtain ⟨v0, hv0, h⟩ := bind_some h
  refine x_frk 11 [(3, .call [] [] (bl v0) [])] (ocons (Tspec_l8Leaf (Y := Y) a0 _ hv0) onil) h (by kernel_rfl) (fun h => ?_) (fun h => ?_)
  · replace h := Option.some.inj h; subst h
    exact x_end 8 [] [] onil onil (by kernel_rfl)
  · refine x_frk 9 [] onil h (by kernel_rfl) (fun h => ?_) (fun h => ?_)
    · replace h := Option.some.inj h; subst h
      exact x_end 33 [] [] onil onil (by kernel_rfl)
    · refine x_frk 4 [] onil h (by kernel_rfl) (fun h => ?_) (fun h => ?_)
      · replace h := Option.some.inj h; subst h
        exact x_end 29 [] [] onil onil (by kernel_rfl)
      · obtain ⟨v1, hv1, h⟩ := bind_some h
        refine x_frk 6 [(2, .call [] [] (bl v1) [])] (ocons (Tspec_PlaneOk (Y := Y) n a0.pl _ hv1) onil) h (by kernel_rfl) (fun h => ?_) (fun h => ?_)
        · replace h := Option.some.inj h; subst h
          exact x_end 23 [] [] onil onil (by kernel_rfl)
        · refine x_frk 5 [] onil h (by kernel_rfl) (fun h => ?_) (fun h => ?_)
          · replace h := Option.some.inj h; subst h
            exact x_end 18 [] [] onil onil (by kernel_rfl)
          · obtain ⟨v2, hv2, h⟩ := bind_some h
            refine x_frk 6 [(3, .call [] [] (bl v2) [])] (ocons (Tspec_l6With (Y := Y) n a1 a0.pl _ hv2) onil) h (by kernel_rfl) (fun h => ?_) (fun h => ?_)
            · replace h := Option.some.inj h; subst h
              exact x_end 12 [] [] onil onil (by kernel_rfl)
            · obtain ⟨v3, hv3, h⟩ := bind_some h
              obtain ⟨v4, hv4, h⟩ := bind_some h
              exact x_to 7 [(3, .call [] [] (.agg [i64 v3.A, i64 v3.B, i64 v3.C, i64 v3.D]) []), (0, .call [] [] (bl v4) [])] (ocons (Tspec_l3Flip (Y := Y) a0.pl _ hv3) (ocons (Tspec_l6With (Y := Y) n a1 v3 _ hv4) onil)) (Tspec_l8Look_0 n self hself a1 v4 a0.inn a0.pl.A a0.pl.B a0.pl.C a0.pl.D a0.kids r h) (by kernel_rfl)
theorem Tspec_l8Look {Y} (n : Nat) (a0 : Sol) (a1 : (List Pl)) (r : Bool) (h : Dspec_l8Look n a0 a1 = some r) : Big Tryz.prog H Y (.call 144 [.agg [bl a0.inn, i64 a0.pl.A, i64 a0.pl.B, i64 a0.pl.C, i64 a0.pl.D, .sl false 6 a0.kids.length ((eSol false).f a0.kids)], .sl false 4 a1.length ((ePl).f a1)] (lk []) (bl r) (lk [])) := Tspec_l8Look_b n n (a0, a1) r h ()
/-! spec.SolidOk -/
def Dspec_SolidOk (n : Nat) (a0 : Sol) : Option Bool :=
  (Dspec_l8Count n a0 301).bind fun v0 => frk (decide (v0 ≤ 300)) ((Dspec_l8Look n a0 []).bind fun v1 => some v1) (some false)
theorem Tspec_SolidOk {Y} (n : Nat) (a0 : Sol) (r : Bool) (h : Dspec_SolidOk n a0 = some r) : Big Tryz.prog H Y (.call 77 [.agg [bl a0.inn, i64 a0.pl.A, i64 a0.pl.B, i64 a0.pl.C, i64 a0.pl.D, .sl false 6 a0.kids.length ((eSol false).f a0.kids)]] (lk []) (bl r) (lk [])) := by
  unfold Dspec_SolidOk at h
  refine x_call (fn := Tryz.f77) (c := bodyOf Tryz.f77) (bs0 := []) Tryz.func77 (by kernel_rfl) (by kernel_rfl) ?_
  obtain ⟨v0, hv0, h⟩ := bind_some h
  refine x_frk 11 [(3, .call [] [] (i64 v0) [])] (ocons (Tspec_l8Count (Y := Y) n a0 301 _ hv0) onil) h (by kernel_rfl) (fun h => ?_) (fun h => ?_)
  · obtain ⟨v1, hv1, h⟩ := bind_some h
    replace h := Option.some.inj h; subst h
    exact x_end 6 [(2, .call [] [(ePl).f []] (bl v1) [])] [] (ocons (Tspec_l8Look (Y := Y) n a0 [] _ hv1) (ocons (len_row (L := []) ePl) (ocons (Enc.share ePl ePl sPl []) onil))) onil (by kernel_rfl)
  · replace h := Option.some.inj h; subst h
    exact x_end 6 [] [] onil onil (by kernel_rfl)
/-! spec.l8Cells -/
def Dspec_l8Cells_b (_n : Nat) (self : (Sol × Bool × (List Pl)) → Option (List (List Pl))) (a : (Sol × Bool × (List Pl))) : Option (List (List Pl)) :=
  match a with
  | (a0, a1, a2) => (Dspec_l8Leaf a0).bind fun v0 => frk v0 (frk (a0.inn == a1) (chk (apB 32 (0 + a2.length)) (some [([] ++ a2)])) (some [])) ((lget a0.kids 0).bind fun v2 => (Dspec_l8Path a2 a0.pl).bind fun v3 => (self (v2, a1, v3)).bind fun v4 => (lget a0.kids 1).bind fun v5 => (Dspec_l3Flip a0.pl).bind fun v6 => (Dspec_l8Path a2 v6).bind fun v7 => (self (v5, a1, v7)).bind fun v8 => chk (apB 24 (v4.length + v8.length)) (some (v4 ++ v8)))
def Dspec_l8Cells (n : Nat) (a0 : Sol) (a1 : Bool) (a2 : (List Pl)) : Option (List (List Pl)) := loopN (Dspec_l8Cells_b n) n (a0, a1, a2)
theorem Tspec_l8Cells_b {Y} (n : Nat) : ∀ (m : Nat) (a : (Sol × Bool × (List Pl))) (r : (List (List Pl))), loopN (Dspec_l8Cells_b n) m a = some r → ∀ (_ : Unit), Big Tryz.prog H Y (.call 94 [.agg [bl a.1.inn, i64 a.1.pl.A, i64 a.1.pl.B, i64 a.1.pl.C, i64 a.1.pl.D, .sl false 6 a.1.kids.length ((eSol false).f a.1.kids)], bl a.2.1, .sl false 4 a.2.2.length ((ePl).f a.2.2)] (lk []) (.sl true 1 r.length ((ePls true).f r)) (lk [])) := by
  refine loopN_ind (fun self hs a r h => ?_)
  have hself : ∀ (a : (Sol × Bool × (List Pl))) (r : (List (List Pl))), self a = some r → Big Tryz.prog H Y (.call 94 [.agg [bl a.1.inn, i64 a.1.pl.A, i64 a.1.pl.B, i64 a.1.pl.C, i64 a.1.pl.D, .sl false 6 a.1.kids.length ((eSol false).f a.1.kids)], bl a.2.1, .sl false 4 a.2.2.length ((ePl).f a.2.2)] (lk []) (.sl true 1 r.length ((ePls true).f r)) (lk [])) := fun a r h => hs a r h ()
  intro _
  obtain ⟨a0, a1, a2⟩ := a
  unfold Dspec_l8Cells_b at h
  refine x_call (fn := Tryz.f94) (c := bodyOf Tryz.f94) (bs0 := []) Tryz.func94 (by kernel_rfl) (by kernel_rfl) ?_
  obtain ⟨v0, hv0, h⟩ := bind_some h
  refine x_frk 11 [(3, .call [] [] (bl v0) [])] (ocons (Tspec_l8Leaf (Y := Y) a0 _ hv0) onil) h (by kernel_rfl) (fun h => ?_) (fun h => ?_)
  · refine x_frk 8 [] onil h (by kernel_rfl) (fun h => ?_) (fun h => ?_)
    · obtain ⟨c1, h⟩ := chk_some h
      replace h := Option.some.inj h; subst h
      exact x_end 8 [(2, .app false (List.length ([] ++ a2)) ((ePl).f ([] ++ a2)))] [] (ocons (len_row' (L := []) ePl) (ocons (app_one (L := []) (M := a2) ePl c1) (ocons (app_new (L := []) (M := a2) ePl) (ocons (app_m (L := []) (M := a2) ePl rfl) (ocons (len_row' (L := a2) ePl) (ocons (len_row (L := ([] ++ a2)) ePl) onil)))))) (ocons (len_row (L := [([] ++ a2)]) (ePls true)) onil) (by kernel_rfl)
    · replace h := Option.some.inj h; subst h
      exact x_end 6 [] [] onil (ocons (len_row (L := []) (ePls true)) onil) (by kernel_rfl)
  · obtain ⟨v2, hv2, h⟩ := bind_some h
    obtain ⟨v3, hv3, h⟩ := bind_some h
    obtain ⟨v4, hv4, h⟩ := bind_some h
    obtain ⟨v5, hv5, h⟩ := bind_some h
    obtain ⟨v6, hv6, h⟩ := bind_some h
    obtain ⟨v7, hv7, h⟩ := bind_some h
    obtain ⟨v8, hv8, h⟩ := bind_some h
    obtain ⟨c9, h⟩ := chk_some h
    replace h := Option.some.inj h; subst h
    exact x_end 32 [(2, .val (.cptr ((eSol false).c v2 ++ (eSol false).f ((a0.kids).drop (Int.toNat 0 + 1))))), (5, .call [] [] (.sl false 4 v3.length ((ePl).f v3)) []), (0, .call [] [] (.sl true 1 v4.length ((ePls true).f v4)) []), (4, .val (.cptr ((eSol false).c v5 ++ (eSol false).f ((a0.kids).drop (Int.toNat 1 + 1))))), (5, .call [] [] (.agg [i64 v6.A, i64 v6.B, i64 v6.C, i64 v6.D]) []), (0, .call [] [] (.sl false 4 v7.length ((ePl).f v7)) []), (0, .call [] [] (.sl true 1 v8.length ((ePls true).f v8)) []), (0, .app true (List.length (v4 ++ v8)) ((ePls true).f (v4 ++ v8)))] [] (ocons (ix (eSol false) hv2) (ocons (shSl (L := v3) ePl ePl sPl (Tspec_l8Path (Y := Y) a2 a0.pl _ hv3)) (ocons (hself (v2, a1, v3) _ hv4) (ocons (ix (eSol false) hv5) (ocons (Tspec_l3Flip (Y := Y) a0.pl _ hv6) (ocons (shSl (L := v7) ePl ePl sPl (Tspec_l8Path (Y := Y) a2 v6 _ hv7)) (ocons (hself (v5, a1, v7) _ hv8) (ocons (len_row' (L := v4) (ePls true)) (ocons (app_one (L := v4) (M := v8) (ePls true) c9) (ocons (app_new (L := v4) (M := v8) (ePls true)) (ocons (app_m (L := v4) (M := v8) (ePls true) rfl) (ocons (len_row' (L := v8) (ePls true)) onil)))))))))))) (ocons (len_row (L := (v4 ++ v8)) (ePls true)) onil) (by kernel_rfl)
theorem Tspec_l8Cells {Y} (n : Nat) (a0 : Sol) (a1 : Bool) (a2 : (List Pl)) (r : (List (List Pl))) (h : Dspec_l8Cells n a0 a1 a2 = some r) : Big Tryz.prog H Y (.call 94 [.agg [bl a0.inn, i64 a0.pl.A, i64 a0.pl.B, i64 a0.pl.C, i64 a0.pl.D, .sl false 6 a0.kids.length ((eSol false).f a0.kids)], bl a1, .sl false 4 a2.length ((ePl).f a2)] (lk []) (.sl true 1 r.length ((ePls true).f r)) (lk [])) := Tspec_l8Cells_b n n (a0, a1, a2) r h ()
/-! spec.Cells -/
def Dspec_Cells (n : Nat) (a0 : Sol) (a1 : Bool) : Option (List (List Pl)) :=
  (Dspec_SolidOk n a0).bind fun v0 => frk (!v0) (some []) ((Dspec_l8Cells n a0 a1 []).bind fun v1 => some v1)
theorem Tspec_Cells {Y} (n : Nat) (a0 : Sol) (a1 : Bool) (r : (List (List Pl))) (h : Dspec_Cells n a0 a1 = some r) : Big Tryz.prog H Y (.call 40 [.agg [bl a0.inn, i64 a0.pl.A, i64 a0.pl.B, i64 a0.pl.C, i64 a0.pl.D, .sl false 6 a0.kids.length ((eSol false).f a0.kids)], bl a1] (lk []) (.sl true 1 r.length ((ePls true).f r)) (lk [])) := by
  unfold Dspec_Cells at h
  refine x_call (fn := Tryz.f40) (c := bodyOf Tryz.f40) (bs0 := []) Tryz.func40 (by kernel_rfl) (by kernel_rfl) ?_
  obtain ⟨v0, hv0, h⟩ := bind_some h
  refine x_frk 12 [(3, .call [] [] (bl v0) [])] (ocons (Tspec_SolidOk (Y := Y) n a0 _ hv0) onil) h (by kernel_rfl) (fun h => ?_) (fun h => ?_)
  · replace h := Option.some.inj h; subst h
    exact x_end 5 [] [] onil (ocons (len_row (L := []) (ePls true)) onil) (by kernel_rfl)
  · obtain ⟨v1, hv1, h⟩ := bind_some h
    replace h := Option.some.inj h; subst h
    exact x_end 9 [(3, .call [] [(ePl).f []] (.sl true 1 v1.length ((ePls true).f v1)) [])] [] (ocons (Tspec_l8Cells (Y := Y) n a0 a1 [] _ hv1) (ocons (len_row (L := []) ePl) (ocons (Enc.share ePl ePl sPl []) (ocons (show hasSh (.sl true 1 v1.length ((ePls true).f v1)) = false by simp [hasSh, hasShL, nSh, nShI, nShB, nShP, nShT, nShN, nShPs]) onil)))) (ocons (len_row (L := v1) (ePls true)) onil) (by kernel_rfl)
/-! spec.l4Rank -/
def Dspec_l4Rank_3 (_n : Nat) (rec1 : (Int × Int) → Option Int) (_rec0 : (Int × Int) → Option Int) (t4 : Int) (t0 : List Pl) (t3 t5 : Int) (rec2 : Int → Option Int) (a : Int) : Option Int :=
  match a with
  | t6 => frk (decide (t6 < (t0.length : Int))) ((lget t0 t4).bind fun v4 => (lget t0 t5).bind fun v5 => (lget t0 t6).bind fun v6 => (Dspec_l4Det3 v4 v5 v6).bind fun v7 => frk (v7 != 0) (some 3) (rec2 (w64 (t6 + 1)))) (rec1 (t3, w64 (t5 + 1)))
theorem Tspec_l4Rank_3 {Y} (n : Nat) (rec1 : (Int × Int) → Option Int) (rec0 : (Int × Int) → Option Int) (t4 : Int) (t0 : List Pl) (hrec1 : ∀ (a : (Int × Int)) (r : Int), rec1 a = some r → Wk Tryz.prog H Y 95 [.code (cp [1, 1, 0, 1, 0, 0, 1, 0, 0, 1, 1, 0] (bodyOf Tryz.f95)), .blk 2, .blk 1, .code (cp [1, 1, 0, 1, 0, 0, 1, 1] (bodyOf Tryz.f95)), .lp (cp [1, 1, 0, 1, 0] (bodyOf Tryz.f95)), .blk 0, .code (cp [1, 1, 1] (bodyOf Tryz.f95))] (FinX Tryz.prog Tryz.f95 [] (i64 r) []) ⟨[(0, .sl false 4 t0.length ((ePl).f t0)), (3, i64 a.1), (4, i64 t4), (5, i64 a.2)], []⟩) (_hrec0 : ∀ (a : (Int × Int)) (r : Int), rec0 a = some r → Wk Tryz.prog H Y 95 [.code (cp [1, 1, 0, 1, 0] (bodyOf Tryz.f95)), .blk 0, .code (cp [1, 1, 1] (bodyOf Tryz.f95))] (FinX Tryz.prog Tryz.f95 [] (i64 r) []) ⟨[(0, .sl false 4 t0.length ((ePl).f t0)), (3, i64 a.1), (4, i64 a.2)], []⟩) (t3 t5 : Int) : ∀ (m : Nat) (a r : Int), loopN (Dspec_l4Rank_3 n rec1 rec0 t4 t0 t3 t5) m a = some r → Wk Tryz.prog H Y 95 [.code (cp [1, 1, 0, 1, 0, 0, 1, 0, 0, 1, 1, 0, 0, 1, 0, 0, 1, 1, 1, 0] (bodyOf Tryz.f95)), .blk 4, .blk 3, .code (cp [1, 1, 0, 1, 0, 0, 1, 0, 0, 1, 1, 0, 0, 1, 1] (bodyOf Tryz.f95)), .lp (cp [1, 1, 0, 1, 0, 0, 1, 0, 0, 1, 1, 0] (bodyOf Tryz.f95)), .blk 2, .blk 1, .code (cp [1, 1, 0, 1, 0, 0, 1, 1] (bodyOf Tryz.f95)), .lp (cp [1, 1, 0, 1, 0] (bodyOf Tryz.f95)), .blk 0, .code (cp [1, 1, 1] (bodyOf Tryz.f95))] (FinX Tryz.prog Tryz.f95 [] (i64 r) []) ⟨[(0, .sl false 4 t0.length ((ePl).f t0)), (3, i64 t3), (4, i64 t4), (5, i64 t5), (6, i64 a)], []⟩ := by
  refine loopN_ind (fun _rec2 hrec2 a r h => ?_)
  obtain ⟨t6, rfl⟩ : ∃ x, x = a := ⟨a, rfl⟩
  unfold Dspec_l4Rank_3 at h
  refine x_frk 9 [] onil h (by kernel_rfl) (fun h => ?_) (fun h => ?_)
  · obtain ⟨v4, hv4, h⟩ := bind_some h
    obtain ⟨v5, hv5, h⟩ := bind_some h
    obtain ⟨v6, hv6, h⟩ := bind_some h
    obtain ⟨v7, hv7, h⟩ := bind_some h
    refine x_frk 20 [(2, .val (.cptr (ePl.c v4 ++ (ePl).f ((t0).drop (Int.toNat t4 + 1))))), (3, .val (.cptr (ePl.c v5 ++ (ePl).f ((t0).drop (Int.toNat t5 + 1))))), (3, .val (.cptr (ePl.c v6 ++ (ePl).f ((t0).drop (Int.toNat t6 + 1))))), (1, .call [] [] (i64 v7) [])] (ocons (ix ePl hv4) (ocons (ix ePl hv5) (ocons (ix ePl hv6) (ocons (Tspec_l4Det3 (Y := Y) v4 v5 v6 _ hv7) onil)))) h (by kernel_rfl) (fun h => ?_) (fun h => ?_)
    · replace h := Option.some.inj h; subst h
      exact x_end 4 [] [] onil onil (by kernel_rfl)
    · exact x_to 8 [] onil (hrec2 (w64 (t6 + 1)) r h) (by kernel_rfl)
  · exact x_to 8 [] onil (hrec1 (t3, w64 (t5 + 1)) r h) (by kernel_rfl)
def Dspec_l4Rank_2 (n : Nat) (rec1 : (Int × Int) → Option Int) (rec0 : (Int × Int) → Option Int) (t4 : Int) (t0 : List Pl) (t3 t5 t6 : Int) : Option Int :=
  loopN (Dspec_l4Rank_3 n rec1 rec0 t4 t0 t3 t5) n t6
theorem Tspec_l4Rank_2 {Y} (n : Nat) (rec1 : (Int × Int) → Option Int) (rec0 : (Int × Int) → Option Int) (t4 : Int) (t0 : List Pl) (hrec1 : ∀ (a : (Int × Int)) (r : Int), rec1 a = some r → Wk Tryz.prog H Y 95 [.code (cp [1, 1, 0, 1, 0, 0, 1, 0, 0, 1, 1, 0] (bodyOf Tryz.f95)), .blk 2, .blk 1, .code (cp [1, 1, 0, 1, 0, 0, 1, 1] (bodyOf Tryz.f95)), .lp (cp [1, 1, 0, 1, 0] (bodyOf Tryz.f95)), .blk 0, .code (cp [1, 1, 1] (bodyOf Tryz.f95))] (FinX Tryz.prog Tryz.f95 [] (i64 r) []) ⟨[(0, .sl false 4 t0.length ((ePl).f t0)), (3, i64 a.1), (4, i64 t4), (5, i64 a.2)], []⟩) (hrec0 : ∀ (a : (Int × Int)) (r : Int), rec0 a = some r → Wk Tryz.prog H Y 95 [.code (cp [1, 1, 0, 1, 0] (bodyOf Tryz.f95)), .blk 0, .code (cp [1, 1, 1] (bodyOf Tryz.f95))] (FinX Tryz.prog Tryz.f95 [] (i64 r) []) ⟨[(0, .sl false 4 t0.length ((ePl).f t0)), (3, i64 a.1), (4, i64 a.2)], []⟩) (t3 t5 t6 r : Int) (h : Dspec_l4Rank_2 n rec1 rec0 t4 t0 t3 t5 t6 = some r) : Wk Tryz.prog H Y 95 [.code (cp [1, 1, 0, 1, 0, 0, 1, 0, 0, 1, 1, 0, 0, 1, 0, 0, 1, 1, 1, 0] (bodyOf Tryz.f95)), .blk 4, .blk 3, .code (cp [1, 1, 0, 1, 0, 0, 1, 0, 0, 1, 1, 0, 0, 1, 1] (bodyOf Tryz.f95)), .lp (cp [1, 1, 0, 1, 0, 0, 1, 0, 0, 1, 1, 0] (bodyOf Tryz.f95)), .blk 2, .blk 1, .code (cp [1, 1, 0, 1, 0, 0, 1, 1] (bodyOf Tryz.f95)), .lp (cp [1, 1, 0, 1, 0] (bodyOf Tryz.f95)), .blk 0, .code (cp [1, 1, 1] (bodyOf Tryz.f95))] (FinX Tryz.prog Tryz.f95 [] (i64 r) []) ⟨[(0, .sl false 4 t0.length ((ePl).f t0)), (3, i64 t3), (4, i64 t4), (5, i64 t5), (6, i64 t6)], []⟩ := by
  unfold Dspec_l4Rank_2 at h
  exact x_to 0 [] onil (Tspec_l4Rank_3 n rec1 rec0 t4 t0 hrec1 hrec0 t3 t5 n t6 r h) (by kernel_rfl)
def Dspec_l4Rank_4 (n : Nat) (rec0 : (Int × Int) → Option Int) (t0 : List Pl) (t4 : Int) (rec1 : (Int × Int) → Option Int) (a : (Int × Int)) : Option Int :=
  match a with
  | (t3, t5) => frk (decide (t5 < (t0.length : Int))) ((lget t0 t4).bind fun v1 => (lget t0 t5).bind fun v2 => (Dspec_l4Cross v1 v2).bind fun v3 => frk (v3.1 == 0 && (v3.2.1 == 0 && (v3.2.2 == 0 && true))) (rec1 (t3, w64 (t5 + 1))) (frk (decide (t3 < 2)) (Dspec_l4Rank_2 n rec1 rec0 t4 t0 2 t5 (w64 (t5 + 1))) (Dspec_l4Rank_2 n rec1 rec0 t4 t0 t3 t5 (w64 (t5 + 1))))) (rec0 (t3, w64 (t4 + 1)))
theorem Tspec_l4Rank_4 {Y} (n : Nat) (rec0 : (Int × Int) → Option Int) (t0 : List Pl) (hrec0 : ∀ (a : (Int × Int)) (r : Int), rec0 a = some r → Wk Tryz.prog H Y 95 [.code (cp [1, 1, 0, 1, 0] (bodyOf Tryz.f95)), .blk 0, .code (cp [1, 1, 1] (bodyOf Tryz.f95))] (FinX Tryz.prog Tryz.f95 [] (i64 r) []) ⟨[(0, .sl false 4 t0.length ((ePl).f t0)), (3, i64 a.1), (4, i64 a.2)], []⟩) (t4 : Int) : ∀ (m : Nat) (a : (Int × Int)) (r : Int), loopN (Dspec_l4Rank_4 n rec0 t0 t4) m a = some r → Wk Tryz.prog H Y 95 [.code (cp [1, 1, 0, 1, 0, 0, 1, 0, 0, 1, 1, 0] (bodyOf Tryz.f95)), .blk 2, .blk 1, .code (cp [1, 1, 0, 1, 0, 0, 1, 1] (bodyOf Tryz.f95)), .lp (cp [1, 1, 0, 1, 0] (bodyOf Tryz.f95)), .blk 0, .code (cp [1, 1, 1] (bodyOf Tryz.f95))] (FinX Tryz.prog Tryz.f95 [] (i64 r) []) ⟨[(0, .sl false 4 t0.length ((ePl).f t0)), (3, i64 a.1), (4, i64 t4), (5, i64 a.2)], []⟩ := by
  refine loopN_ind (fun rec1 hrec1 a r h => ?_)
  obtain ⟨t3, t5⟩ := a
  unfold Dspec_l4Rank_4 at h
  refine x_frk 9 [] onil h (by kernel_rfl) (fun h => ?_) (fun h => ?_)
  · obtain ⟨v1, hv1, h⟩ := bind_some h
    obtain ⟨v2, hv2, h⟩ := bind_some h
    obtain ⟨v3, hv3, h⟩ := bind_some h
    refine x_frk 18 [(2, .val (.cptr (ePl.c v1 ++ (ePl).f ((t0).drop (Int.toNat t4 + 1))))), (3, .val (.cptr (ePl.c v2 ++ (ePl).f ((t0).drop (Int.toNat t5 + 1))))), (1, .call [] [] (.agg [i64 v3.1, i64 v3.2.1, i64 v3.2.2]) [])] (ocons (ix ePl hv1) (ocons (ix ePl hv2) (ocons (Tspec_l4Cross (Y := Y) v1 v2 _ hv3) onil))) h (by kernel_rfl) (fun h => ?_) (fun h => ?_)
    · exact x_to 7 [] onil (hrec1 (t3, w64 (t5 + 1)) r h) (by kernel_rfl)
    · refine x_frk 7 [] onil h (by kernel_rfl) (fun h => ?_) (fun h => ?_)
      · exact x_to 10 [] onil (Tspec_l4Rank_2 n rec1 rec0 t4 t0 hrec1 hrec0 2 t5 (w64 (t5 + 1)) r h) (by kernel_rfl)
      · exact x_to 8 [] onil (Tspec_l4Rank_2 n rec1 rec0 t4 t0 hrec1 hrec0 t3 t5 (w64 (t5 + 1)) r h) (by kernel_rfl)
  · exact x_to 8 [] onil (hrec0 (t3, w64 (t4 + 1)) r h) (by kernel_rfl)
def Dspec_l4Rank_1 (n : Nat) (rec0 : (Int × Int) → Option Int) (t0 : List Pl) (t3 t4 t5 : Int) : Option Int :=
  loopN (Dspec_l4Rank_4 n rec0 t0 t4) n (t3, t5)
theorem Tspec_l4Rank_1 {Y} (n : Nat) (rec0 : (Int × Int) → Option Int) (t0 : List Pl) (hrec0 : ∀ (a : (Int × Int)) (r : Int), rec0 a = some r → Wk Tryz.prog H Y 95 [.code (cp [1, 1, 0, 1, 0] (bodyOf Tryz.f95)), .blk 0, .code (cp [1, 1, 1] (bodyOf Tryz.f95))] (FinX Tryz.prog Tryz.f95 [] (i64 r) []) ⟨[(0, .sl false 4 t0.length ((ePl).f t0)), (3, i64 a.1), (4, i64 a.2)], []⟩) (t3 t4 t5 r : Int) (h : Dspec_l4Rank_1 n rec0 t0 t3 t4 t5 = some r) : Wk Tryz.prog H Y 95 [.code (cp [1, 1, 0, 1, 0, 0, 1, 0, 0, 1, 1, 0] (bodyOf Tryz.f95)), .blk 2, .blk 1, .code (cp [1, 1, 0, 1, 0, 0, 1, 1] (bodyOf Tryz.f95)), .lp (cp [1, 1, 0, 1, 0] (bodyOf Tryz.f95)), .blk 0, .code (cp [1, 1, 1] (bodyOf Tryz.f95))] (FinX Tryz.prog Tryz.f95 [] (i64 r) []) ⟨[(0, .sl false 4 t0.length ((ePl).f t0)), (3, i64 t3), (4, i64 t4), (5, i64 t5)], []⟩ := by
  unfold Dspec_l4Rank_1 at h
  exact x_to 0 [] onil (Tspec_l4Rank_4 n rec0 t0 hrec0 t4 n (t3, t5) r h) (by kernel_rfl)
def Dspec_l4Rank_0 (n : Nat) (rec0 : (Int × Int) → Option Int) (t0 : List Pl) (t3 t4 : Int) (t22 : Bool) : Option Int :=
  frk t22 (Dspec_l4Rank_1 n rec0 t0 1 t4 (w64 (t4 + 1))) (Dspec_l4Rank_1 n rec0 t0 t3 t4 (w64 (t4 + 1)))
theorem Tspec_l4Rank_0 {Y} (n : Nat) (rec0 : (Int × Int) → Option Int) (t0 : List Pl) (hrec0 : ∀ (a : (Int × Int)) (r : Int), rec0 a = some r → Wk Tryz.prog H Y 95 [.code (cp [1, 1, 0, 1, 0] (bodyOf Tryz.f95)), .blk 0, .code (cp [1, 1, 1] (bodyOf Tryz.f95))] (FinX Tryz.prog Tryz.f95 [] (i64 r) []) ⟨[(0, .sl false 4 t0.length ((ePl).f t0)), (3, i64 a.1), (4, i64 a.2)], []⟩) (t3 t4 : Int) (t22 : Bool) (r : Int) (h : Dspec_l4Rank_0 n rec0 t0 t3 t4 t22 = some r) : Wk Tryz.prog H Y 95 [.code (cp [1, 1, 0, 1, 0, 0, 1, 0, 0, 0, 1] (bodyOf Tryz.f95)), .code (cp [1, 1, 0, 1, 0, 0, 1, 0, 0, 1] (bodyOf Tryz.f95)), .blk 1, .code (cp [1, 1, 0, 1, 0, 0, 1, 1] (bodyOf Tryz.f95)), .lp (cp [1, 1, 0, 1, 0] (bodyOf Tryz.f95)), .blk 0, .code (cp [1, 1, 1] (bodyOf Tryz.f95))] (FinX Tryz.prog Tryz.f95 [] (i64 r) []) ⟨[(0, .sl false 4 t0.length ((ePl).f t0)), (3, i64 t3), (4, i64 t4), (22, bl t22)], []⟩ := by
  unfold Dspec_l4Rank_0 at h
  refine x_frk 0 [] onil h (by kernel_rfl) (fun h => ?_) (fun h => ?_)
  · exact x_to 10 [] onil (Tspec_l4Rank_1 n rec0 t0 hrec0 1 t4 (w64 (t4 + 1)) r h) (by kernel_rfl)
  · exact x_to 8 [] onil (Tspec_l4Rank_1 n rec0 t0 hrec0 t3 t4 (w64 (t4 + 1)) r h) (by kernel_rfl)
def Dspec_l4Rank_5 (n : Nat) (t0 : List Pl) (rec0 : (Int × Int) → Option Int) (a : (Int × Int)) : Option Int :=
  match a with
  | (t3, t4) => frk (decide (t4 < (t0.length : Int))) (frk (t3 == 0) ((lget t0 t4).bind fun v0 => Dspec_l4Rank_0 n rec0 t0 t3 t4 (!(v0.A == 0 && (v0.B == 0 && (v0.C == 0 && (v0.D == 0 && true)))))) (Dspec_l4Rank_1 n rec0 t0 t3 t4 (w64 (t4 + 1)))) (some t3)
theorem Tspec_l4Rank_5 {Y} (n : Nat) (t0 : List Pl) : ∀ (m : Nat) (a : (Int × Int)) (r : Int), loopN (Dspec_l4Rank_5 n t0) m a = some r → Wk Tryz.prog H Y 95 [.code (cp [1, 1, 0, 1, 0] (bodyOf Tryz.f95)), .blk 0, .code (cp [1, 1, 1] (bodyOf Tryz.f95))] (FinX Tryz.prog Tryz.f95 [] (i64 r) []) ⟨[(0, .sl false 4 t0.length ((ePl).f t0)), (3, i64 a.1), (4, i64 a.2)], []⟩ := by
  refine loopN_ind (fun rec0 hrec0 a r h => ?_)
  obtain ⟨t3, t4⟩ := a
  unfold Dspec_l4Rank_5 at h
  refine x_frk 9 [] onil h (by kernel_rfl) (fun h => ?_) (fun h => ?_)
  · refine x_frk 9 [] onil h (by kernel_rfl) (fun h => ?_) (fun h => ?_)
    · obtain ⟨v0, hv0, h⟩ := bind_some h
      exact x_to 8 [(2, .val (.cptr (ePl.c v0 ++ (ePl).f ((t0).drop (Int.toNat t4 + 1)))))] (ocons (ix ePl hv0) onil) (Tspec_l4Rank_0 n rec0 t0 hrec0 t3 t4 (!(v0.A == 0 && (v0.B == 0 && (v0.C == 0 && (v0.D == 0 && true))))) r h) (by kernel_rfl)
    · exact x_to 17 [] onil (Tspec_l4Rank_1 n rec0 t0 hrec0 t3 t4 (w64 (t4 + 1)) r h) (by kernel_rfl)
  · replace h := Option.some.inj h; subst h
    exact x_end 6 [] [] onil onil (by kernel_rfl)
def Dspec_l4Rank (n : Nat) (a0 : (List Pl)) : Option Int :=
  loopN (Dspec_l4Rank_5 n a0) n (0, 0)
theorem Tspec_l4Rank {Y} (n : Nat) (a0 : (List Pl)) (r : Int) (h : Dspec_l4Rank n a0 = some r) : Big Tryz.prog H Y (.call 95 [.sl false 4 a0.length ((ePl).f a0)] (lk []) (i64 r) (lk [])) := by
  unfold Dspec_l4Rank at h
  refine x_call (fn := Tryz.f95) (c := bodyOf Tryz.f95) (bs0 := []) Tryz.func95 (by kernel_rfl) (by kernel_rfl) ?_
  exact x_to 14 [] onil (Tspec_l4Rank_5 n a0 n (0, 0) r h) (by kernel_rfl)
/-! spec.l7Way -/
def Dspec_l7Way_0 (_n : Nat) (t0 : List Pl) (t2 b4_0 b4_1 b4_2 : Int) (rec0 : Int → Option Bool) (a : Int) : Option Bool :=
  match a with
  | t7 => frk (decide (t7 < (t0.length : Int))) ((lget t0 t7).bind fun v0 => (lget t0 t7).bind fun v1 => (lget t0 t7).bind fun v2 => frk (decide ((w64 (t2 * (w64 ((w64 ((w64 (v0.A * b4_0)) + (w64 (v1.B * b4_1)))) + (w64 (v2.C * b4_2)))))) < 0)) (some false) (rec0 (w64 (t7 + 1)))) (some true)
theorem Tspec_l7Way_0 {Y} (n : Nat) (t0 : List Pl) (t2 b4_0 b4_1 b4_2 : Int) : ∀ (m : Nat) (a : Int) (r : Bool), loopN (Dspec_l7Way_0 n t0 t2 b4_0 b4_1 b4_2) m a = some r → Wk Tryz.prog H Y 97 [.code (cp [1, 0, 1, 0] (bodyOf Tryz.f97)), .blk 0, .code (cp [1, 1] (bodyOf Tryz.f97))] (FinX Tryz.prog Tryz.f97 [] (bl r) []) ⟨[(0, .sl false 4 t0.length ((ePl).f t0)), (2, i64 t2), (4, .ptr 4 0), (7, i64 a)], [(4, ⟨true, 0, [i64 b4_0, i64 b4_1, i64 b4_2]⟩)]⟩ := by
  refine loopN_ind (fun _rec0 hrec0 a r h => ?_)
  obtain ⟨t7, rfl⟩ : ∃ x, x = a := ⟨a, rfl⟩
  unfold Dspec_l7Way_0 at h
  refine x_frk 9 [] onil h (by kernel_rfl) (fun h => ?_) (fun h => ?_)
  · obtain ⟨v0, hv0, h⟩ := bind_some h
    obtain ⟨v1, hv1, h⟩ := bind_some h
    obtain ⟨v2, hv2, h⟩ := bind_some h
    refine x_frk 35 [(3, .val (.cptr (ePl.c v0 ++ (ePl).f ((t0).drop (Int.toNat t7 + 1))))), (7, .val (.cptr (ePl.c v1 ++ (ePl).f ((t0).drop (Int.toNat t7 + 1))))), (8, .val (.cptr (ePl.c v2 ++ (ePl).f ((t0).drop (Int.toNat t7 + 1)))))] (ocons (ix ePl hv0) (ocons (ix ePl hv1) (ocons (ix ePl hv2) onil))) h (by kernel_rfl) (fun h => ?_) (fun h => ?_)
    · replace h := Option.some.inj h; subst h
      exact x_end 4 [] [] onil onil (by kernel_rfl)
    · exact x_to 8 [] onil (hrec0 (w64 (t7 + 1)) r h) (by kernel_rfl)
  · replace h := Option.some.inj h; subst h
    exact x_end 5 [] [] onil onil (by kernel_rfl)
def Dspec_l7Way (n : Nat) (a0 : (List Pl)) (a1 : (Int × Int × Int)) (a2 : Int) : Option Bool :=
  loopN (Dspec_l7Way_0 n a0 a2 a1.1 a1.2.1 a1.2.2) n 0
theorem Tspec_l7Way {Y} (n : Nat) (a0 : (List Pl)) (a1 : (Int × Int × Int)) (a2 : Int) (r : Bool) (h : Dspec_l7Way n a0 a1 a2 = some r) : Big Tryz.prog H Y (.call 97 [.sl false 4 a0.length ((ePl).f a0), .agg [i64 a1.1, i64 a1.2.1, i64 a1.2.2], i64 a2] (lk []) (bl r) (lk [])) := by
  unfold Dspec_l7Way at h
  refine x_call (fn := Tryz.f97) (c := bodyOf Tryz.f97) (bs0 := []) Tryz.func97 (by kernel_rfl) (by kernel_rfl) ?_
  exact x_to 11 [] onil (Tspec_l7Way_0 n a0 a2 a1.1 a1.2.1 a1.2.2 n 0 r h) (by kernel_rfl)
/-! spec.l7Bounded -/
def Dspec_l7Bounded_0 (_n : Nat) (rec1 : Int → Option Bool) (_rec0 : Int → Option Bool) (_t3 : Int) (_t0 : List Pl) (t4 : Int) (t44 : Bool) : Option Bool :=
  frk t44 (some false) (rec1 (w64 (t4 + 1)))
theorem Tspec_l7Bounded_0 {Y} (n : Nat) (rec1 : Int → Option Bool) (rec0 : Int → Option Bool) (t3 : Int) (t0 : List Pl) (hrec1 : ∀ (a : Int) (r : Bool), rec1 a = some r → Wk Tryz.prog H Y 41 [.code (cp [1, 1, 0, 1, 0, 0, 1, 0, 0, 1, 0] (bodyOf Tryz.f41)), .blk 2, .blk 1, .code (cp [1, 1, 0, 1, 0, 0, 1, 1] (bodyOf Tryz.f41)), .lp (cp [1, 1, 0, 1, 0] (bodyOf Tryz.f41)), .blk 0, .code (cp [1, 1, 1] (bodyOf Tryz.f41))] (FinX Tryz.prog Tryz.f41 [] (bl r) []) ⟨[(0, .sl false 4 t0.length ((ePl).f t0)), (3, i64 t3), (4, i64 a)], []⟩) (_hrec0 : ∀ (a : Int) (r : Bool), rec0 a = some r → Wk Tryz.prog H Y 41 [.code (cp [1, 1, 0, 1, 0] (bodyOf Tryz.f41)), .blk 0, .code (cp [1, 1, 1] (bodyOf Tryz.f41))] (FinX Tryz.prog Tryz.f41 [] (bl r) []) ⟨[(0, .sl false 4 t0.length ((ePl).f t0)), (3, i64 a)], []⟩) (t4 : Int) (t44 r : Bool) (h : Dspec_l7Bounded_0 n rec1 rec0 t3 t0 t4 t44 = some r) : Wk Tryz.prog H Y 41 [.code (cp [1, 1, 0, 1, 0, 0, 1, 0, 0, 1, 0, 0, 1, 0, 0, 1, 1] (bodyOf Tryz.f41)), .blk 3, .code (cp [1, 1, 0, 1, 0, 0, 1, 0, 0, 1, 0, 0, 1, 1] (bodyOf Tryz.f41)), .lp (cp [1, 1, 0, 1, 0, 0, 1, 0, 0, 1, 0] (bodyOf Tryz.f41)), .blk 2, .blk 1, .code (cp [1, 1, 0, 1, 0, 0, 1, 1] (bodyOf Tryz.f41)), .lp (cp [1, 1, 0, 1, 0] (bodyOf Tryz.f41)), .blk 0, .code (cp [1, 1, 1] (bodyOf Tryz.f41))] (FinX Tryz.prog Tryz.f41 [] (bl r) []) ⟨[(0, .sl false 4 t0.length ((ePl).f t0)), (3, i64 t3), (4, i64 t4), (44, bl t44)], []⟩ := by
  unfold Dspec_l7Bounded_0 at h
  refine x_frk 0 [] onil h (by kernel_rfl) (fun h => ?_) (fun h => ?_)
  · replace h := Option.some.inj h; subst h
    exact x_end 4 [] [] onil onil (by kernel_rfl)
  · exact x_to 8 [] onil (hrec1 (w64 (t4 + 1)) r h) (by kernel_rfl)
def Dspec_l7Bounded_1 (n : Nat) (rec0 : Int → Option Bool) (t0 : List Pl) (t3 : Int) (rec1 : Int → Option Bool) (a : Int) : Option Bool :=
  match a with
  | t4 => frk (decide (t4 < (t0.length : Int))) ((lget t0 t3).bind fun v1 => (lget t0 t4).bind fun v2 => (Dspec_l4Cross v1 v2).bind fun v3 => frk (!(v3.1 == 0 && (v3.2.1 == 0 && (v3.2.2 == 0 && true)))) ((Dspec_l7Way n t0 v3 1).bind fun v4 => frk v4 (some false) ((Dspec_l7Way n t0 v3 (-1)).bind fun v5 => Dspec_l7Bounded_0 n rec1 rec0 t3 t0 t4 v5)) (rec1 (w64 (t4 + 1)))) (rec0 (w64 (t3 + 1)))
theorem Tspec_l7Bounded_1 {Y} (n : Nat) (rec0 : Int → Option Bool) (t0 : List Pl) (hrec0 : ∀ (a : Int) (r : Bool), rec0 a = some r → Wk Tryz.prog H Y 41 [.code (cp [1, 1, 0, 1, 0] (bodyOf Tryz.f41)), .blk 0, .code (cp [1, 1, 1] (bodyOf Tryz.f41))] (FinX Tryz.prog Tryz.f41 [] (bl r) []) ⟨[(0, .sl false 4 t0.length ((ePl).f t0)), (3, i64 a)], []⟩) (t3 : Int) : ∀ (m : Nat) (a : Int) (r : Bool), loopN (Dspec_l7Bounded_1 n rec0 t0 t3) m a = some r → Wk Tryz.prog H Y 41 [.code (cp [1, 1, 0, 1, 0, 0, 1, 0, 0, 1, 0] (bodyOf Tryz.f41)), .blk 2, .blk 1, .code (cp [1, 1, 0, 1, 0, 0, 1, 1] (bodyOf Tryz.f41)), .lp (cp [1, 1, 0, 1, 0] (bodyOf Tryz.f41)), .blk 0, .code (cp [1, 1, 1] (bodyOf Tryz.f41))] (FinX Tryz.prog Tryz.f41 [] (bl r) []) ⟨[(0, .sl false 4 t0.length ((ePl).f t0)), (3, i64 t3), (4, i64 a)], []⟩ := by
  refine loopN_ind (fun rec1 hrec1 a r h => ?_)
  obtain ⟨t4, rfl⟩ : ∃ x, x = a := ⟨a, rfl⟩
  unfold Dspec_l7Bounded_1 at h
  refine x_frk 9 [] onil h (by kernel_rfl) (fun h => ?_) (fun h => ?_)
  · obtain ⟨v1, hv1, h⟩ := bind_some h
    obtain ⟨v2, hv2, h⟩ := bind_some h
    obtain ⟨v3, hv3, h⟩ := bind_some h
    refine x_frk 23 [(2, .val (.cptr (ePl.c v1 ++ (ePl).f ((t0).drop (Int.toNat t3 + 1))))), (3, .val (.cptr (ePl.c v2 ++ (ePl).f ((t0).drop (Int.toNat t4 + 1))))), (1, .call [] [] (.agg [i64 v3.1, i64 v3.2.1, i64 v3.2.2]) [])] (ocons (ix ePl hv1) (ocons (ix ePl hv2) (ocons (Tspec_l4Cross (Y := Y) v1 v2 _ hv3) onil))) h (by kernel_rfl) (fun h => ?_) (fun h => ?_)
    · obtain ⟨v4, hv4, h⟩ := bind_some h
      refine x_frk 4 [(2, .call [] [] (bl v4) [])] (ocons (Tspec_l7Way (Y := Y) n t0 v3 1 _ hv4) onil) h (by kernel_rfl) (fun h => ?_) (fun h => ?_)
      · replace h := Option.some.inj h; subst h
        exact x_end 11 [] [] onil onil (by kernel_rfl)
      · obtain ⟨v5, hv5, h⟩ := bind_some h
        exact x_to 6 [(2, .call [] [] (bl v5) [])] (ocons (Tspec_l7Way (Y := Y) n t0 v3 (-1) _ hv5) onil) (Tspec_l7Bounded_0 n rec1 rec0 t3 t0 hrec1 hrec0 t4 v5 r h) (by kernel_rfl)
    · exact x_to 19 [] onil (hrec1 (w64 (t4 + 1)) r h) (by kernel_rfl)
  · exact x_to 8 [] onil (hrec0 (w64 (t3 + 1)) r h) (by kernel_rfl)
def Dspec_l7Bounded_2 (n : Nat) (t0 : List Pl) (rec0 : Int → Option Bool) (a : Int) : Option Bool :=
  match a with
  | t3 => frk (decide (t3 < (t0.length : Int))) (loopN (Dspec_l7Bounded_1 n rec0 t0 t3) n (w64 (t3 + 1))) (some true)
theorem Tspec_l7Bounded_2 {Y} (n : Nat) (t0 : List Pl) : ∀ (m : Nat) (a : Int) (r : Bool), loopN (Dspec_l7Bounded_2 n t0) m a = some r → Wk Tryz.prog H Y 41 [.code (cp [1, 1, 0, 1, 0] (bodyOf Tryz.f41)), .blk 0, .code (cp [1, 1, 1] (bodyOf Tryz.f41))] (FinX Tryz.prog Tryz.f41 [] (bl r) []) ⟨[(0, .sl false 4 t0.length ((ePl).f t0)), (3, i64 a)], []⟩ := by
  refine loopN_ind (fun rec0 hrec0 a r h => ?_)
  obtain ⟨t3, rfl⟩ : ∃ x, x = a := ⟨a, rfl⟩
  unfold Dspec_l7Bounded_2 at h
  refine x_frk 9 [] onil h (by kernel_rfl) (fun h => ?_) (fun h => ?_)
  · exact x_to 10 [] onil (Tspec_l7Bounded_1 n rec0 t0 hrec0 t3 n (w64 (t3 + 1)) r h) (by kernel_rfl)
  · replace h := Option.some.inj h; subst h
    exact x_end 5 [] [] onil onil (by kernel_rfl)
def Dspec_l7Bounded (n : Nat) (a0 : (List Pl)) : Option Bool :=
  (Dspec_l4Rank n a0).bind fun v0 => frk (decide (v0 < 3)) (some false) (loopN (Dspec_l7Bounded_2 n a0) n 0)
theorem Tspec_l7Bounded {Y} (n : Nat) (a0 : (List Pl)) (r : Bool) (h : Dspec_l7Bounded n a0 = some r) : Big Tryz.prog H Y (.call 41 [.sl false 4 a0.length ((ePl).f a0)] (lk []) (bl r) (lk [])) := by
  unfold Dspec_l7Bounded at h
  refine x_call (fn := Tryz.f41) (c := bodyOf Tryz.f41) (bs0 := []) Tryz.func41 (by kernel_rfl) (by kernel_rfl) ?_
  obtain ⟨v0, hv0, h⟩ := bind_some h
  refine x_frk 11 [(2, .call [] [] (i64 v0) [])] (ocons (Tspec_l4Rank (Y := Y) n a0 _ hv0) onil) h (by kernel_rfl) (fun h => ?_) (fun h => ?_)
  · replace h := Option.some.inj h; subst h
    exact x_end 4 [] [] onil onil (by kernel_rfl)
  · exact x_to 7 [] onil (Tspec_l7Bounded_2 n a0 n 0 r h) (by kernel_rfl)
/-! spec.l5Spot -/
def Dspec_l5Spot_0 (_n : Nat) (t0 t1 t2 t3 t9 _b8_0 _b8_1 _b8_2 _b8_3 : Int) : Option Spot :=
  (qt .i64 t0 t9).bind fun v3 => (qt .i64 t1 t9).bind fun v4 => (qt .i64 t2 t9).bind fun v5 => (qt .i64 t3 t9).bind fun v6 => some (Spot.mk v3 v4 v5 v6)
theorem Tspec_l5Spot_0 {Y} (n : Nat) (t0 t1 t2 t3 t9 b8_0 b8_1 b8_2 b8_3 : Int) (r : Spot) (h : Dspec_l5Spot_0 n t0 t1 t2 t3 t9 b8_0 b8_1 b8_2 b8_3 = some r) : Wk Tryz.prog H Y 122 [.code (cp [1, 1, 1, 0] (bodyOf Tryz.f122)), .code (cp [1, 1, 1, 1] (bodyOf Tryz.f122))] (FinX Tryz.prog Tryz.f122 [] (.agg [i64 r.X, i64 r.Y, i64 r.Z, i64 r.W]) []) ⟨[(0, i64 t0), (1, i64 t1), (2, i64 t2), (3, i64 t3), (8, .ptr 8 0), (9, i64 t9)], [(8, ⟨true, 0, [i64 b8_0, i64 b8_1, i64 b8_2, i64 b8_3]⟩)]⟩ := by
  unfold Dspec_l5Spot_0 at h
  obtain ⟨v3, hv3, h⟩ := bind_some h
  obtain ⟨v4, hv4, h⟩ := bind_some h
  obtain ⟨v5, hv5, h⟩ := bind_some h
  obtain ⟨v6, hv6, h⟩ := bind_some h
  replace h := Option.some.inj h; subst h
  exact x_end 16 [(2, .val (i64 v3)), (2, .val (i64 v4)), (2, .val (i64 v5)), (2, .val (i64 v6))] [] (ocons (qtOk hv3) (ocons (qtOk hv4) (ocons (qtOk hv5) (ocons (qtOk hv6) onil)))) onil (by kernel_rfl)
def Dspec_l5Spot (n : Nat) (a0 a1 a2 a3 : Int) : Option Spot :=
  (Dspec_l3Gcd n a0 a1).bind fun v0 => (Dspec_l3Gcd n a2 a3).bind fun v1 => (Dspec_l3Gcd n v0 v1).bind fun v2 => frk (decide (a3 < 0)) (Dspec_l5Spot_0 n a0 a1 a2 a3 (w64 (0 - v2)) 0 0 0 0) (Dspec_l5Spot_0 n a0 a1 a2 a3 v2 0 0 0 0)
theorem Tspec_l5Spot {Y} (n : Nat) (a0 a1 a2 a3 : Int) (r : Spot) (h : Dspec_l5Spot n a0 a1 a2 a3 = some r) : Big Tryz.prog H Y (.call 122 [i64 a0, i64 a1, i64 a2, i64 a3] (lk []) (.agg [i64 r.X, i64 r.Y, i64 r.Z, i64 r.W]) (lk [])) := by
  unfold Dspec_l5Spot at h
  refine x_call (fn := Tryz.f122) (c := bodyOf Tryz.f122) (bs0 := []) Tryz.func122 (by kernel_rfl) (by kernel_rfl) ?_
  obtain ⟨v0, hv0, h⟩ := bind_some h
  obtain ⟨v1, hv1, h⟩ := bind_some h
  obtain ⟨v2, hv2, h⟩ := bind_some h
  refine x_frk 21 [(3, .call [] [] (i64 v0) []), (2, .call [] [] (i64 v1) []), (0, .call [] [] (i64 v2) [])] (ocons (Tspec_l3Gcd (Y := Y) n a0 a1 _ hv0) (ocons (Tspec_l3Gcd (Y := Y) n a2 a3 _ hv1) (ocons (Tspec_l3Gcd (Y := Y) n v0 v1 _ hv2) onil))) h (by kernel_rfl) (fun h => ?_) (fun h => ?_)
  · exact x_to 6 [] onil (Tspec_l5Spot_0 n a0 a1 a2 a3 (w64 (0 - v2)) 0 0 0 0 r h) (by kernel_rfl)
  · exact x_to 2 [] onil (Tspec_l5Spot_0 n a0 a1 a2 a3 v2 0 0 0 0 r h) (by kernel_rfl)
/-! spec.l5Meet -/
def Dspec_l5Meet (n : Nat) (a0 : Pl) (a1 : Pl) (a2 : Pl) : Option (Spot × Bool) :=
  (Dspec_l4Det3 a0 a1 a2).bind fun v0 => frk (v0 == 0) (some ((Spot.mk 0 0 0 0), false)) ((Dspec_l4Det3 (Pl.mk (w64 (0 - a0.D)) a0.B a0.C 0) (Pl.mk (w64 (0 - a1.D)) a1.B a1.C 0) (Pl.mk (w64 (0 - a2.D)) a2.B a2.C 0)).bind fun v1 => (Dspec_l4Det3 (Pl.mk a0.A (w64 (0 - a0.D)) a0.C 0) (Pl.mk a1.A (w64 (0 - a1.D)) a1.C 0) (Pl.mk a2.A (w64 (0 - a2.D)) a2.C 0)).bind fun v2 => (Dspec_l4Det3 (Pl.mk a0.A a0.B (w64 (0 - a0.D)) 0) (Pl.mk a1.A a1.B (w64 (0 - a1.D)) 0) (Pl.mk a2.A a2.B (w64 (0 - a2.D)) 0)).bind fun v3 => (Dspec_l5Spot n v1 v2 v3 v0).bind fun v4 => some (v4, true))
theorem Tspec_l5Meet {Y} (n : Nat) (a0 : Pl) (a1 : Pl) (a2 : Pl) (r : (Spot × Bool)) (h : Dspec_l5Meet n a0 a1 a2 = some r) : Big Tryz.prog H Y (.call 98 [.agg [i64 a0.A, i64 a0.B, i64 a0.C, i64 a0.D], .agg [i64 a1.A, i64 a1.B, i64 a1.C, i64 a1.D], .agg [i64 a2.A, i64 a2.B, i64 a2.C, i64 a2.D]] (lk []) (.tup [.agg [i64 r.1.X, i64 r.1.Y, i64 r.1.Z, i64 r.1.W], bl r.2]) (lk [])) := by
  unfold Dspec_l5Meet at h
  refine x_call (fn := Tryz.f98) (c := bodyOf Tryz.f98) (bs0 := []) Tryz.func98 (by kernel_rfl) (by kernel_rfl) ?_
  obtain ⟨v0, hv0, h⟩ := bind_some h
  refine x_frk 22 [(8, .call [] [] (i64 v0) [])] (ocons (Tspec_l4Det3 (Y := Y) a0 a1 a2 _ hv0) onil) h (by kernel_rfl) (fun h => ?_) (fun h => ?_)
  · replace h := Option.some.inj h; subst h
    exact x_end 6 [] [] onil onil (by kernel_rfl)
  · obtain ⟨v1, hv1, h⟩ := bind_some h
    obtain ⟨v2, hv2, h⟩ := bind_some h
    obtain ⟨v3, hv3, h⟩ := bind_some h
    obtain ⟨v4, hv4, h⟩ := bind_some h
    replace h := Option.some.inj h; subst h
    exact x_end 141 [(33, .call [] [] (i64 v1) []), (31, .call [] [] (i64 v2) []), (33, .call [] [] (i64 v3) []), (1, .call [] [] (.agg [i64 v4.X, i64 v4.Y, i64 v4.Z, i64 v4.W]) [])] [] (ocons (Tspec_l4Det3 (Y := Y) (Pl.mk (w64 (0 - a0.D)) a0.B a0.C 0) (Pl.mk (w64 (0 - a1.D)) a1.B a1.C 0) (Pl.mk (w64 (0 - a2.D)) a2.B a2.C 0) _ hv1) (ocons (Tspec_l4Det3 (Y := Y) (Pl.mk a0.A (w64 (0 - a0.D)) a0.C 0) (Pl.mk a1.A (w64 (0 - a1.D)) a1.C 0) (Pl.mk a2.A (w64 (0 - a2.D)) a2.C 0) _ hv2) (ocons (Tspec_l4Det3 (Y := Y) (Pl.mk a0.A a0.B (w64 (0 - a0.D)) 0) (Pl.mk a1.A a1.B (w64 (0 - a1.D)) 0) (Pl.mk a2.A a2.B (w64 (0 - a2.D)) 0) _ hv3) (ocons (Tspec_l5Spot (Y := Y) n v1 v2 v3 v0 _ hv4) onil)))) onil (by kernel_rfl)
/-! spec.l5Side -/
def Dspec_l5Side (a0 : Pl) (a1 : Spot) : Option Int :=
  (Dspec_l3Sign (w64 ((w64 ((w64 ((w64 (a0.A * a1.X)) + (w64 (a0.B * a1.Y)))) + (w64 (a0.C * a1.Z)))) + (w64 (a0.D * a1.W))))).bind fun v0 => some v0
theorem Tspec_l5Side {Y} (a0 : Pl) (a1 : Spot) (r : Int) (h : Dspec_l5Side a0 a1 = some r) : Big Tryz.prog H Y (.call 160 [.agg [i64 a0.A, i64 a0.B, i64 a0.C, i64 a0.D], .agg [i64 a1.X, i64 a1.Y, i64 a1.Z, i64 a1.W]] (lk []) (i64 r) (lk [])) := by
  unfold Dspec_l5Side at h
  refine x_call (fn := Tryz.f160) (c := bodyOf Tryz.f160) (bs0 := []) Tryz.func160 (by kernel_rfl) (by kernel_rfl) ?_
  obtain ⟨v0, hv0, h⟩ := bind_some h
  replace h := Option.some.inj h; subst h
  exact x_end 34 [(26, .call [] [] (i64 v0) [])] [] (ocons (Tspec_l3Sign (Y := Y) (w64 ((w64 ((w64 ((w64 (a0.A * a1.X)) + (w64 (a0.B * a1.Y)))) + (w64 (a0.C * a1.Z)))) + (w64 (a0.D * a1.W)))) _ hv0) onil) onil (by kernel_rfl)
/-! spec.l7In -/
def Dspec_l7In_0 (_n : Nat) (t0 : List Pl) (b3_0 b3_1 b3_2 b3_3 : Int) (rec0 : (Int × Int) → Option Int) (a : (Int × Int)) : Option Int :=
  match a with
  | (t5, t6) => frk (decide (t6 < (t0.length : Int))) ((lget t0 t6).bind fun v0 => (Dspec_l5Side v0 (Spot.mk b3_0 b3_1 b3_2 b3_3)).bind fun v1 => frk (decide (v1 < t5)) (rec0 (v1, w64 (t6 + 1))) (rec0 (t5, w64 (t6 + 1)))) (some t5)
theorem Tspec_l7In_0 {Y} (n : Nat) (t0 : List Pl) (b3_0 b3_1 b3_2 b3_3 : Int) : ∀ (m : Nat) (a : (Int × Int)) (r : Int), loopN (Dspec_l7In_0 n t0 b3_0 b3_1 b3_2 b3_3) m a = some r → Wk Tryz.prog H Y 99 [.code (cp [1, 1, 0, 1, 0] (bodyOf Tryz.f99)), .blk 0, .code (cp [1, 1, 1] (bodyOf Tryz.f99))] (FinX Tryz.prog Tryz.f99 [] (i64 r) []) ⟨[(0, .sl false 4 t0.length ((ePl).f t0)), (3, .ptr 3 0), (5, i64 a.1), (6, i64 a.2)], [(3, ⟨true, 0, [i64 b3_0, i64 b3_1, i64 b3_2, i64 b3_3]⟩)]⟩ := by
  refine loopN_ind (fun _rec0 hrec0 a r h => ?_)
  obtain ⟨t5, t6⟩ := a
  unfold Dspec_l7In_0 at h
  refine x_frk 9 [] onil h (by kernel_rfl) (fun h => ?_) (fun h => ?_)
  · obtain ⟨v0, hv0, h⟩ := bind_some h
    obtain ⟨v1, hv1, h⟩ := bind_some h
    refine x_frk 19 [(2, .val (.cptr (ePl.c v0 ++ (ePl).f ((t0).drop (Int.toNat t6 + 1))))), (2, .call [] [] (i64 v1) [])] (ocons (ix ePl hv0) (ocons (Tspec_l5Side (Y := Y) v0 (Spot.mk b3_0 b3_1 b3_2 b3_3) _ hv1) onil)) h (by kernel_rfl) (fun h => ?_) (fun h => ?_)
    · exact x_to 11 [] onil (hrec0 (v1, w64 (t6 + 1)) r h) (by kernel_rfl)
    · exact x_to 8 [] onil (hrec0 (t5, w64 (t6 + 1)) r h) (by kernel_rfl)
  · replace h := Option.some.inj h; subst h
    exact x_end 6 [] [] onil onil (by kernel_rfl)
def Dspec_l7In (n : Nat) (a0 : (List Pl)) (a1 : Spot) : Option Int :=
  loopN (Dspec_l7In_0 n a0 a1.X a1.Y a1.Z a1.W) n (1, 0)
theorem Tspec_l7In {Y} (n : Nat) (a0 : (List Pl)) (a1 : Spot) (r : Int) (h : Dspec_l7In n a0 a1 = some r) : Big Tryz.prog H Y (.call 99 [.sl false 4 a0.length ((ePl).f a0), .agg [i64 a1.X, i64 a1.Y, i64 a1.Z, i64 a1.W]] (lk []) (i64 r) (lk [])) := by
  unfold Dspec_l7In at h
  refine x_call (fn := Tryz.f99) (c := bodyOf Tryz.f99) (bs0 := []) Tryz.func99 (by kernel_rfl) (by kernel_rfl) ?_
  exact x_to 15 [] onil (Tspec_l7In_0 n a0 a1.X a1.Y a1.Z a1.W n (1, 0) r h) (by kernel_rfl)
/-! spec.SpotOk -/
def Dspec_SpotOk (n : Nat) (a0 : Spot) : Option Bool :=
  (Dspec_l1In a0.W 1 1000000000).bind fun v0 => frk v0 ((Dspec_l1In a0.X (-1000000000) 1000000000).bind fun v1 => frk v1 ((Dspec_l1In a0.Y (-1000000000) 1000000000).bind fun v2 => frk v2 ((Dspec_l1In a0.Z (-1000000000) 1000000000).bind fun v3 => frk v3 ((Dspec_l3Gcd n a0.X a0.Y).bind fun v4 => (Dspec_l3Gcd n a0.Z a0.W).bind fun v5 => (Dspec_l3Gcd n v4 v5).bind fun v6 => some (v6 == 1)) (some false)) (some false)) (some false)) (some false)
theorem Tspec_SpotOk {Y} (n : Nat) (a0 : Spot) (r : Bool) (h : Dspec_SpotOk n a0 = some r) : Big Tryz.prog H Y (.call 229 [.agg [i64 a0.X, i64 a0.Y, i64 a0.Z, i64 a0.W]] (lk []) (bl r) (lk [])) := by
  unfold Dspec_SpotOk at h
  refine x_call (fn := Tryz.f229) (c := bodyOf Tryz.f229) (bs0 := []) Tryz.func229 (by kernel_rfl) (by kernel_rfl) ?_
  obtain ⟨v0, hv0, h⟩ := bind_some h
  refine x_frk 11 [(4, .call [] [] (bl v0) [])] (ocons (Tspec_l1In (Y := Y) a0.W 1 1000000000 _ hv0) onil) h (by kernel_rfl) (fun h => ?_) (fun h => ?_)
  · obtain ⟨v1, hv1, h⟩ := bind_some h
    refine x_frk 5 [(2, .call [] [] (bl v1) [])] (ocons (Tspec_l1In (Y := Y) a0.X (-1000000000) 1000000000 _ hv1) onil) h (by kernel_rfl) (fun h => ?_) (fun h => ?_)
    · obtain ⟨v2, hv2, h⟩ := bind_some h
      refine x_frk 5 [(2, .call [] [] (bl v2) [])] (ocons (Tspec_l1In (Y := Y) a0.Y (-1000000000) 1000000000 _ hv2) onil) h (by kernel_rfl) (fun h => ?_) (fun h => ?_)
      · obtain ⟨v3, hv3, h⟩ := bind_some h
        refine x_frk 5 [(2, .call [] [] (bl v3) [])] (ocons (Tspec_l1In (Y := Y) a0.Z (-1000000000) 1000000000 _ hv3) onil) h (by kernel_rfl) (fun h => ?_) (fun h => ?_)
        · obtain ⟨v4, hv4, h⟩ := bind_some h
          obtain ⟨v5, hv5, h⟩ := bind_some h
          obtain ⟨v6, hv6, h⟩ := bind_some h
          replace h := Option.some.inj h; subst h
          exact x_end 15 [(4, .call [] [] (i64 v4) []), (4, .call [] [] (i64 v5) []), (0, .call [] [] (i64 v6) [])] [] (ocons (Tspec_l3Gcd (Y := Y) n a0.X a0.Y _ hv4) (ocons (Tspec_l3Gcd (Y := Y) n a0.Z a0.W _ hv5) (ocons (Tspec_l3Gcd (Y := Y) n v4 v5 _ hv6) onil))) onil (by kernel_rfl)
        · replace h := Option.some.inj h; subst h
          exact x_end 15 [] [] onil onil (by kernel_rfl)
      · replace h := Option.some.inj h; subst h
        exact x_end 20 [] [] onil onil (by kernel_rfl)
    · replace h := Option.some.inj h; subst h
      exact x_end 25 [] [] onil onil (by kernel_rfl)
  · replace h := Option.some.inj h; subst h
    exact x_end 30 [] [] onil onil (by kernel_rfl)
/-! spec.l5Right -/
def Dspec_l5Right (n : Nat) (a0 : Spot) : Option Spot :=
  (Dspec_SpotOk n a0).bind fun v0 => frk (!v0) (some (Spot.mk 0 0 0 1)) (some a0)
theorem Tspec_l5Right {Y} (n : Nat) (a0 : Spot) (r : Spot) (h : Dspec_l5Right n a0 = some r) : Big Tryz.prog H Y (.call 192 [.agg [i64 a0.X, i64 a0.Y, i64 a0.Z, i64 a0.W]] (lk []) (.agg [i64 r.X, i64 r.Y, i64 r.Z, i64 r.W]) (lk [])) := by
  unfold Dspec_l5Right at h
  refine x_call (fn := Tryz.f192) (c := bodyOf Tryz.f192) (bs0 := []) Tryz.func192 (by kernel_rfl) (by kernel_rfl) ?_
  obtain ⟨v0, hv0, h⟩ := bind_some h
  refine x_frk 12 [(3, .call [] [] (bl v0) [])] (ocons (Tspec_SpotOk (Y := Y) n a0 _ hv0) onil) h (by kernel_rfl) (fun h => ?_) (fun h => ?_)
  · replace h := Option.some.inj h; subst h
    exact x_end 5 [] [] onil onil (by kernel_rfl)
  · replace h := Option.some.inj h; subst h
    exact x_end 6 [] [] onil onil (by kernel_rfl)
/-! spec.l3CmpInt -/
def Dspec_l3CmpInt (a0 a1 : Int) : Option Int :=
  frk (decide (a0 < a1)) (some (-1)) (frk (decide (a0 > a1)) (some 1) (some 0))
theorem Tspec_l3CmpInt {Y} (a0 a1 r : Int) (h : Dspec_l3CmpInt a0 a1 = some r) : Big Tryz.prog H Y (.call 193 [i64 a0, i64 a1] (lk []) (i64 r) (lk [])) := by
  unfold Dspec_l3CmpInt at h
  refine x_call (fn := Tryz.f193) (c := bodyOf Tryz.f193) (bs0 := []) Tryz.func193 (by kernel_rfl) (by kernel_rfl) ?_
  refine x_frk 13 [] onil h (by kernel_rfl) (fun h => ?_) (fun h => ?_)
  · replace h := Option.some.inj h; subst h
    exact x_end 4 [] [] onil onil (by kernel_rfl)
  · refine x_frk 7 [] onil h (by kernel_rfl) (fun h => ?_) (fun h => ?_)
    · replace h := Option.some.inj h; subst h
      exact x_end 4 [] [] onil onil (by kernel_rfl)
    · replace h := Option.some.inj h; subst h
      exact x_end 6 [] [] onil onil (by kernel_rfl)
/-! spec.CmpSpot -/
def Dspec_CmpSpot (n : Nat) (a0 : Spot) (a1 : Spot) : Option Int :=
  (Dspec_l5Right n a0).bind fun v0 => (Dspec_l5Right n a1).bind fun v1 => frk ((w64 (v0.X * v1.W)) != (w64 (v1.X * v0.W))) ((Dspec_l3CmpInt (w64 (v0.X * v1.W)) (w64 (v1.X * v0.W))).bind fun v2 => some v2) (frk ((w64 (v0.Y * v1.W)) != (w64 (v1.Y * v0.W))) ((Dspec_l3CmpInt (w64 (v0.Y * v1.W)) (w64 (v1.Y * v0.W))).bind fun v3 => some v3) (frk ((w64 (v0.Z * v1.W)) != (w64 (v1.Z * v0.W))) ((Dspec_l3CmpInt (w64 (v0.Z * v1.W)) (w64 (v1.Z * v0.W))).bind fun v4 => some v4) (some 0)))
theorem Tspec_CmpSpot {Y} (n : Nat) (a0 : Spot) (a1 : Spot) (r : Int) (h : Dspec_CmpSpot n a0 a1 = some r) : Big Tryz.prog H Y (.call 161 [.agg [i64 a0.X, i64 a0.Y, i64 a0.Z, i64 a0.W], .agg [i64 a1.X, i64 a1.Y, i64 a1.Z, i64 a1.W]] (lk []) (i64 r) (lk [])) := by
  unfold Dspec_CmpSpot at h
  refine x_call (fn := Tryz.f161) (c := bodyOf Tryz.f161) (bs0 := []) Tryz.func161 (by kernel_rfl) (by kernel_rfl) ?_
  obtain ⟨v0, hv0, h⟩ := bind_some h
  obtain ⟨v1, hv1, h⟩ := bind_some h
  refine x_frk 87 [(4, .call [] [] (.agg [i64 v0.X, i64 v0.Y, i64 v0.Z, i64 v0.W]) []), (2, .call [] [] (.agg [i64 v1.X, i64 v1.Y, i64 v1.Z, i64 v1.W]) [])] (ocons (Tspec_l5Right (Y := Y) n a0 _ hv0) (ocons (Tspec_l5Right (Y := Y) n a1 _ hv1) onil)) h (by kernel_rfl) (fun h => ?_) (fun h => ?_)
  · obtain ⟨v2, hv2, h⟩ := bind_some h
    replace h := Option.some.inj h; subst h
    exact x_end 13 [(8, .call [] [] (i64 v2) [])] [] (ocons (Tspec_l3CmpInt (Y := Y) (w64 (v0.X * v1.W)) (w64 (v1.X * v0.W)) _ hv2) onil) onil (by kernel_rfl)
  · refine x_frk 31 [] onil h (by kernel_rfl) (fun h => ?_) (fun h => ?_)
    · obtain ⟨v3, hv3, h⟩ := bind_some h
      replace h := Option.some.inj h; subst h
      exact x_end 13 [(8, .call [] [] (i64 v3) [])] [] (ocons (Tspec_l3CmpInt (Y := Y) (w64 (v0.Y * v1.W)) (w64 (v1.Y * v0.W)) _ hv3) onil) onil (by kernel_rfl)
    · refine x_frk 31 [] onil h (by kernel_rfl) (fun h => ?_) (fun h => ?_)
      · obtain ⟨v4, hv4, h⟩ := bind_some h
        replace h := Option.some.inj h; subst h
        exact x_end 13 [(8, .call [] [] (i64 v4) [])] [] (ocons (Tspec_l3CmpInt (Y := Y) (w64 (v0.Z * v1.W)) (w64 (v1.Z * v0.W)) _ hv4) onil) onil (by kernel_rfl)
      · replace h := Option.some.inj h; subst h
        exact x_end 21 [] [] onil onil (by kernel_rfl)
/-! spec.l7Put -/
def Dspec_l7Puto0_1 (_n : Nat) (t5 b3_0 b3_1 b3_2 b3_3 : Int) (l700 : List Spot) : Option (List Spot) :=
  (lsl l700 0 t5).bind fun v3 => chk (apB 32 (0 + v3.length)) (chk (apB 32 (([] ++ v3).length + 1)) ((lsl l700 t5 (l700.length : Int)).bind fun v6 => chk (apB 32 ((([] ++ v3) ++ [(Spot.mk b3_0 b3_1 b3_2 b3_3)]).length + v6.length)) (some ((([] ++ v3) ++ [(Spot.mk b3_0 b3_1 b3_2 b3_3)]) ++ v6))))
theorem Tspec_l7Puto0_1 {Y} (n : Nat) (t5 b3_0 b3_1 b3_2 b3_3 : Int) (l700 : List Spot) (r : (List Spot)) (h : Dspec_l7Puto0_1 n t5 b3_0 b3_1 b3_2 b3_3 l700 = some r) : Wk Tryz.prog H Y 100 [.code (cp [1, 1, 1, 0] (bodyOf Tryz.f100)), .code (cp [1, 1, 1, 1] (bodyOf Tryz.f100))] (FinX Tryz.prog Tryz.f100 [] (.sl true 4 r.length ((eSpot).f r)) []) ⟨[(0, .msl 700 l700.length), (3, .ptr 3 0), (5, i64 t5)], [(3, ⟨true, 0, [i64 b3_0, i64 b3_1, i64 b3_2, i64 b3_3]⟩), (700, ⟨false, 4, (eSpot).f l700⟩)]⟩ := by
  unfold Dspec_l7Puto0_1 at h
  obtain ⟨v3, hv3, h⟩ := bind_some h
  obtain ⟨c4, h⟩ := chk_some h
  obtain ⟨c5, h⟩ := chk_some h
  obtain ⟨v6, hv6, h⟩ := bind_some h
  obtain ⟨c7, h⟩ := chk_some h
  replace h := Option.some.inj h; subst h
  exact x_end 20 [(3, .val (.sl false 4 v3.length ((eSpot).f v3))), (0, .app false (List.length ([] ++ v3)) ((eSpot).f ([] ++ v3))), (2, .app false (List.length (([] ++ v3) ++ [(Spot.mk b3_0 b3_1 b3_2 b3_3)])) ((eSpot).f (([] ++ v3) ++ [(Spot.mk b3_0 b3_1 b3_2 b3_3)]))), (4, .val (.sl false 4 v6.length ((eSpot).f v6))), (0, .app false (List.length ((([] ++ v3) ++ [(Spot.mk b3_0 b3_1 b3_2 b3_3)]) ++ v6)) ((eSpot).f ((([] ++ v3) ++ [(Spot.mk b3_0 b3_1 b3_2 b3_3)]) ++ v6)))] [] (ocons (slM eSpot eSpot sSpot hv3) (ocons (len_row' (L := []) eSpot) (ocons (app_one (L := []) (M := v3) eSpot c4) (ocons (app_new (L := []) (M := v3) eSpot) (ocons (app_m (L := []) (M := v3) eSpot rfl) (ocons (len_row' (L := v3) eSpot) (ocons (len_row' (L := ([] ++ v3)) eSpot) (ocons (app_one (L := ([] ++ v3)) (M := [(Spot.mk b3_0 b3_1 b3_2 b3_3)]) eSpot c5) (ocons (app_new (L := ([] ++ v3)) (M := [(Spot.mk b3_0 b3_1 b3_2 b3_3)]) eSpot) (ocons (app_m (L := ([] ++ v3)) (M := [(Spot.mk b3_0 b3_1 b3_2 b3_3)]) eSpot rfl) (ocons (len_row' (L := [(Spot.mk b3_0 b3_1 b3_2 b3_3)]) eSpot) (ocons (Enc.noOwn eSpot (fun _ => rfl) [(Spot.mk b3_0 b3_1 b3_2 b3_3)]) (ocons (slM eSpot eSpot sSpot hv6) (ocons (len_row' (L := (([] ++ v3) ++ [(Spot.mk b3_0 b3_1 b3_2 b3_3)])) eSpot) (ocons (app_one (L := (([] ++ v3) ++ [(Spot.mk b3_0 b3_1 b3_2 b3_3)])) (M := v6) eSpot c7) (ocons (app_new (L := (([] ++ v3) ++ [(Spot.mk b3_0 b3_1 b3_2 b3_3)])) (M := v6) eSpot) (ocons (app_m (L := (([] ++ v3) ++ [(Spot.mk b3_0 b3_1 b3_2 b3_3)])) (M := v6) eSpot rfl) (ocons (len_row' (L := v6) eSpot) onil)))))))))))))))))) (ocons (len_row (L := ((([] ++ v3) ++ [(Spot.mk b3_0 b3_1 b3_2 b3_3)]) ++ v6)) eSpot) onil) (by kernel_rfl)
def Dspec_l7Puto0_0 (n : Nat) (rec0 : (Int × List Spot) → Option (List Spot)) (b3_0 b3_1 b3_2 b3_3 t5 : Int) (t20 : Bool) (l700 : List Spot) : Option (List Spot) :=
  frk t20 ((lget l700 (w64 (t5 - 1))).bind fun v2 => frk (v2.X == b3_0 && (v2.Y == b3_1 && (v2.Z == b3_2 && (v2.W == b3_3 && true)))) (some l700) (rec0 (w64 (t5 - 1), l700))) (Dspec_l7Puto0_1 n t5 b3_0 b3_1 b3_2 b3_3 l700)
theorem Tspec_l7Puto0_0 {Y} (n : Nat) (rec0 : (Int × List Spot) → Option (List Spot)) (b3_0 b3_1 b3_2 b3_3 : Int) (hrec0 : ∀ (a : (Int × List Spot)) (r : (List Spot)), rec0 a = some r → Wk Tryz.prog H Y 100 [.code (cp [1, 1, 0, 0] (bodyOf Tryz.f100)), .blk 0, .code (cp [1, 1, 1] (bodyOf Tryz.f100))] (FinX Tryz.prog Tryz.f100 [] (.sl true 4 r.length ((eSpot).f r)) []) ⟨[(0, .msl 700 a.2.length), (3, .ptr 3 0), (5, i64 a.1)], [(3, ⟨true, 0, [i64 b3_0, i64 b3_1, i64 b3_2, i64 b3_3]⟩), (700, ⟨false, 4, (eSpot).f a.2⟩)]⟩) (t5 : Int) (t20 : Bool) (l700 : List Spot) (r : (List Spot)) (h : Dspec_l7Puto0_0 n rec0 b3_0 b3_1 b3_2 b3_3 t5 t20 l700 = some r) : Wk Tryz.prog H Y 100 [.code (cp [1, 1, 0, 0, 0, 0, 1] (bodyOf Tryz.f100)), .code (cp [1, 1, 0, 0, 0, 1] (bodyOf Tryz.f100)), .lp (cp [1, 1, 0, 0] (bodyOf Tryz.f100)), .blk 0, .code (cp [1, 1, 1] (bodyOf Tryz.f100))] (FinX Tryz.prog Tryz.f100 [] (.sl true 4 r.length ((eSpot).f r)) []) ⟨[(0, .msl 700 l700.length), (3, .ptr 3 0), (5, i64 t5), (20, bl t20)], [(3, ⟨true, 0, [i64 b3_0, i64 b3_1, i64 b3_2, i64 b3_3]⟩), (700, ⟨false, 4, (eSpot).f l700⟩)]⟩ := by
  unfold Dspec_l7Puto0_0 at h
  refine x_frk 0 [] onil h (by kernel_rfl) (fun h => ?_) (fun h => ?_)
  · obtain ⟨v2, hv2, h⟩ := bind_some h
    refine x_frk 13 [(3, .unit), (0, .cells [i64 v2.X, i64 v2.Y, i64 v2.Z, i64 v2.W])] (ocons (inr hv2) (ocons (ldA eSpot hv2 0 4 rfl rfl) onil)) h (by kernel_rfl) (fun h => ?_) (fun h => ?_)
    · replace h := Option.some.inj h; subst h
      exact x_end 5 [] [] onil (ocons (len_row (L := l700) eSpot) onil) (by kernel_rfl)
    · exact x_to 8 [] onil (hrec0 (w64 (t5 - 1), l700) r h) (by kernel_rfl)
  · exact x_to 2 [] onil (Tspec_l7Puto0_1 n t5 b3_0 b3_1 b3_2 b3_3 l700 r h) (by kernel_rfl)
def Dspec_l7Puto0_2 (n : Nat) (b3_0 b3_1 b3_2 b3_3 : Int) (rec0 : (Int × List Spot) → Option (List Spot)) (a : (Int × List Spot)) : Option (List Spot) :=
  match a with
  | (t5, l700) => frk (decide (t5 > 0)) ((lget l700 (w64 (t5 - 1))).bind fun v0 => (Dspec_CmpSpot n v0 (Spot.mk b3_0 b3_1 b3_2 b3_3)).bind fun v1 => Dspec_l7Puto0_0 n rec0 b3_0 b3_1 b3_2 b3_3 t5 (decide (v1 ≥ 0)) l700) (Dspec_l7Puto0_1 n t5 b3_0 b3_1 b3_2 b3_3 l700)
theorem Tspec_l7Puto0_2 {Y} (n : Nat) (b3_0 b3_1 b3_2 b3_3 : Int) : ∀ (m : Nat) (a : (Int × List Spot)) (r : (List Spot)), loopN (Dspec_l7Puto0_2 n b3_0 b3_1 b3_2 b3_3) m a = some r → Wk Tryz.prog H Y 100 [.code (cp [1, 1, 0, 0] (bodyOf Tryz.f100)), .blk 0, .code (cp [1, 1, 1] (bodyOf Tryz.f100))] (FinX Tryz.prog Tryz.f100 [] (.sl true 4 r.length ((eSpot).f r)) []) ⟨[(0, .msl 700 a.2.length), (3, .ptr 3 0), (5, i64 a.1)], [(3, ⟨true, 0, [i64 b3_0, i64 b3_1, i64 b3_2, i64 b3_3]⟩), (700, ⟨false, 4, (eSpot).f a.2⟩)]⟩ := by
  refine loopN_ind (fun rec0 hrec0 a r h => ?_)
  obtain ⟨t5, l700⟩ := a
  unfold Dspec_l7Puto0_2 at h
  refine x_frk 7 [] onil h (by kernel_rfl) (fun h => ?_) (fun h => ?_)
  · obtain ⟨v0, hv0, h⟩ := bind_some h
    obtain ⟨v1, hv1, h⟩ := bind_some h
    exact x_to 10 [(3, .unit), (0, .cells [i64 v0.X, i64 v0.Y, i64 v0.Z, i64 v0.W]), (1, .call [] [] (i64 v1) [])] (ocons (inr hv0) (ocons (ldA eSpot hv0 0 4 rfl rfl) (ocons (Tspec_CmpSpot (Y := Y) n v0 (Spot.mk b3_0 b3_1 b3_2 b3_3) _ hv1) onil))) (Tspec_l7Puto0_0 n rec0 b3_0 b3_1 b3_2 b3_3 hrec0 t5 (decide (v1 ≥ 0)) l700 r h) (by kernel_rfl)
  · exact x_to 13 [] onil (Tspec_l7Puto0_1 n t5 b3_0 b3_1 b3_2 b3_3 l700 r h) (by kernel_rfl)
def Dspec_l7Puto0 (n : Nat) (a0 : (List Spot)) (a1 : Spot) : Option (List Spot) :=
  loopN (Dspec_l7Puto0_2 n a1.X a1.Y a1.Z a1.W) n ((a0.length : Int), a0)
theorem Tspec_l7Puto0 {Y} (n : Nat) (a0 : (List Spot)) (a1 : Spot) (r : (List Spot)) (h : Dspec_l7Puto0 n a0 a1 = some r) : Big Tryz.prog H Y (.call 100 [.sl true 4 a0.length ((eSpot).f a0), .agg [i64 a1.X, i64 a1.Y, i64 a1.Z, i64 a1.W]] (lk []) (.sl true 4 r.length ((eSpot).f r)) (lk [])) := by
  unfold Dspec_l7Puto0 at h
  refine x_call (fn := Tryz.f100) (c := bodyOf Tryz.f100) (bs0 := []) Tryz.func100 (by kernel_rfl) (by kernel_rfl) ?_
  exact x_to 14 [(0, .adopt 0 700 a0.length 4 ((eSpot).f a0))] (ocons (rflV (.sl true 4 a0.length ((eSpot).f a0))) (ocons (show 700 < 1000 ∧ 4 ≠ 0 by decide) onil)) (Tspec_l7Puto0_2 n a1.X a1.Y a1.Z a1.W n ((a0.length : Int), a0) r h) (by kernel_rfl)
/-! spec.l7Corners -/
def Dspec_l7Corners_0 (n : Nat) (rec2 : (Int × List Spot) → Option (List Spot)) (_rec1 : (Int × List Spot) → Option (List Spot)) (_rec0 : (Int × List Spot) → Option (List Spot)) (_t6 _t5 : Int) (_t0 : List Pl) (_t4 t7 : Int) (t54 : Bool) (b8_0 b8_1 b8_2 b8_3 : Int) (l10 : List Spot) : Option (List Spot) :=
  frk t54 ((Dspec_l7Puto0 n l10 (Spot.mk b8_0 b8_1 b8_2 b8_3)).bind fun v5 => rec2 (w64 (t7 + 1), v5)) (rec2 (w64 (t7 + 1), l10))
theorem Tspec_l7Corners_0 {Y} (n : Nat) (rec2 : (Int × List Spot) → Option (List Spot)) (rec1 : (Int × List Spot) → Option (List Spot)) (rec0 : (Int × List Spot) → Option (List Spot)) (t6 t5 : Int) (t0 : List Pl) (t4 : Int) (hrec2 : ∀ (a : (Int × List Spot)) (r : (List Spot)), rec2 a = some r → Wk Tryz.prog H Y 42 [.code (cp [1, 1, 1, 0, 1, 0, 0, 1, 0, 0, 1, 0, 0, 1, 0, 0, 1, 0] (bodyOf Tryz.f42)), .blk 4, .blk 3, .code (cp [1, 1, 1, 0, 1, 0, 0, 1, 0, 0, 1, 0, 0, 1, 1] (bodyOf Tryz.f42)), .lp (cp [1, 1, 1, 0, 1, 0, 0, 1, 0, 0, 1, 0] (bodyOf Tryz.f42)), .blk 2, .blk 1, .code (cp [1, 1, 1, 0, 1, 0, 0, 1, 1] (bodyOf Tryz.f42)), .lp (cp [1, 1, 1, 0, 1, 0] (bodyOf Tryz.f42)), .blk 0, .code (cp [1, 1, 1, 1] (bodyOf Tryz.f42))] (FinX Tryz.prog Tryz.f42 [] (.sl true 4 r.length ((eSpot).f r)) []) ⟨[(0, .sl false 4 t0.length ((ePl).f t0)), (3, .msl 10 a.2.length), (4, i64 t4), (5, i64 t5), (6, i64 t6), (7, i64 a.1)], [(10, ⟨false, 4, (eSpot).f a.2⟩)]⟩) (_hrec1 : ∀ (a : (Int × List Spot)) (r : (List Spot)), rec1 a = some r → Wk Tryz.prog H Y 42 [.code (cp [1, 1, 1, 0, 1, 0, 0, 1, 0, 0, 1, 0] (bodyOf Tryz.f42)), .blk 2, .blk 1, .code (cp [1, 1, 1, 0, 1, 0, 0, 1, 1] (bodyOf Tryz.f42)), .lp (cp [1, 1, 1, 0, 1, 0] (bodyOf Tryz.f42)), .blk 0, .code (cp [1, 1, 1, 1] (bodyOf Tryz.f42))] (FinX Tryz.prog Tryz.f42 [] (.sl true 4 r.length ((eSpot).f r)) []) ⟨[(0, .sl false 4 t0.length ((ePl).f t0)), (3, .msl 10 a.2.length), (4, i64 t4), (5, i64 t5), (6, i64 a.1)], [(10, ⟨false, 4, (eSpot).f a.2⟩)]⟩) (_hrec0 : ∀ (a : (Int × List Spot)) (r : (List Spot)), rec0 a = some r → Wk Tryz.prog H Y 42 [.code (cp [1, 1, 1, 0, 1, 0] (bodyOf Tryz.f42)), .blk 0, .code (cp [1, 1, 1, 1] (bodyOf Tryz.f42))] (FinX Tryz.prog Tryz.f42 [] (.sl true 4 r.length ((eSpot).f r)) []) ⟨[(0, .sl false 4 t0.length ((ePl).f t0)), (3, .msl 10 a.2.length), (4, i64 t4), (5, i64 a.1)], [(10, ⟨false, 4, (eSpot).f a.2⟩)]⟩) (t7 : Int) (t54 : Bool) (b8_0 b8_1 b8_2 b8_3 : Int) (l10 : List Spot) (r : (List Spot)) (h : Dspec_l7Corners_0 n rec2 rec1 rec0 t6 t5 t0 t4 t7 t54 b8_0 b8_1 b8_2 b8_3 l10 = some r) : Wk Tryz.prog H Y 42 [.code (cp [1, 1, 1, 0, 1, 0, 0, 1, 0, 0, 1, 0, 0, 1, 0, 0, 1, 0, 0, 1, 0, 0, 1, 1] (bodyOf Tryz.f42)), .blk 5, .code (cp [1, 1, 1, 0, 1, 0, 0, 1, 0, 0, 1, 0, 0, 1, 0, 0, 1, 0, 0, 1, 1] (bodyOf Tryz.f42)), .lp (cp [1, 1, 1, 0, 1, 0, 0, 1, 0, 0, 1, 0, 0, 1, 0, 0, 1, 0] (bodyOf Tryz.f42)), .blk 4, .blk 3, .code (cp [1, 1, 1, 0, 1, 0, 0, 1, 0, 0, 1, 0, 0, 1, 1] (bodyOf Tryz.f42)), .lp (cp [1, 1, 1, 0, 1, 0, 0, 1, 0, 0, 1, 0] (bodyOf Tryz.f42)), .blk 2, .blk 1, .code (cp [1, 1, 1, 0, 1, 0, 0, 1, 1] (bodyOf Tryz.f42)), .lp (cp [1, 1, 1, 0, 1, 0] (bodyOf Tryz.f42)), .blk 0, .code (cp [1, 1, 1, 1] (bodyOf Tryz.f42))] (FinX Tryz.prog Tryz.f42 [] (.sl true 4 r.length ((eSpot).f r)) []) ⟨[(0, .sl false 4 t0.length ((ePl).f t0)), (3, .msl 10 l10.length), (4, i64 t4), (5, i64 t5), (6, i64 t6), (7, i64 t7), (8, .ptr 8 0), (54, bl t54)], [(8, ⟨true, 0, [i64 b8_0, i64 b8_1, i64 b8_2, i64 b8_3]⟩), (10, ⟨false, 4, (eSpot).f l10⟩)]⟩ := by
  unfold Dspec_l7Corners_0 at h
  refine x_frk 0 [] onil h (by kernel_rfl) (fun h => ?_) (fun h => ?_)
  · obtain ⟨v5, hv5, h⟩ := bind_some h
    exact x_to 14 [(2, .call [] [] (.sl true 4 v5.length ((eSpot).f v5)) []), (4, .ren 57 10)] (ocons (Tspec_l7Puto0 (Y := Y) n l10 (Spot.mk b8_0 b8_1 b8_2 b8_3) _ hv5) (ocons (len_row (L := l10) eSpot) (ocons (show 57 < 1000 ∧ 10 < 1000 by decide) onil))) (hrec2 (w64 (t7 + 1), v5) r h) (by kernel_rfl)
  · exact x_to 8 [] onil (hrec2 (w64 (t7 + 1), l10) r h) (by kernel_rfl)
def Dspec_l7Corners_1 (n : Nat) (rec1 : (Int × List Spot) → Option (List Spot)) (rec0 : (Int × List Spot) → Option (List Spot)) (t5 : Int) (t0 : List Pl) (t4 t6 : Int) (rec2 : (Int × List Spot) → Option (List Spot)) (a : (Int × List Spot)) : Option (List Spot) :=
  match a with
  | (t7, l10) => frk (decide (t7 < t4)) ((lget t0 t5).bind fun v0 => (lget t0 t6).bind fun v1 => (lget t0 t7).bind fun v2 => (Dspec_l5Meet n v0 v1 v2).bind fun v3 => frk v3.2 ((Dspec_l7In n t0 v3.1).bind fun v4 => Dspec_l7Corners_0 n rec2 rec1 rec0 t6 t5 t0 t4 t7 (decide (v4 ≥ 0)) v3.1.X v3.1.Y v3.1.Z v3.1.W l10) (rec2 (w64 (t7 + 1), l10))) (rec1 (w64 (t6 + 1), l10))
theorem Tspec_l7Corners_1 {Y} (n : Nat) (rec1 : (Int × List Spot) → Option (List Spot)) (rec0 : (Int × List Spot) → Option (List Spot)) (t5 : Int) (t0 : List Pl) (t4 : Int) (hrec1 : ∀ (a : (Int × List Spot)) (r : (List Spot)), rec1 a = some r → Wk Tryz.prog H Y 42 [.code (cp [1, 1, 1, 0, 1, 0, 0, 1, 0, 0, 1, 0] (bodyOf Tryz.f42)), .blk 2, .blk 1, .code (cp [1, 1, 1, 0, 1, 0, 0, 1, 1] (bodyOf Tryz.f42)), .lp (cp [1, 1, 1, 0, 1, 0] (bodyOf Tryz.f42)), .blk 0, .code (cp [1, 1, 1, 1] (bodyOf Tryz.f42))] (FinX Tryz.prog Tryz.f42 [] (.sl true 4 r.length ((eSpot).f r)) []) ⟨[(0, .sl false 4 t0.length ((ePl).f t0)), (3, .msl 10 a.2.length), (4, i64 t4), (5, i64 t5), (6, i64 a.1)], [(10, ⟨false, 4, (eSpot).f a.2⟩)]⟩) (hrec0 : ∀ (a : (Int × List Spot)) (r : (List Spot)), rec0 a = some r → Wk Tryz.prog H Y 42 [.code (cp [1, 1, 1, 0, 1, 0] (bodyOf Tryz.f42)), .blk 0, .code (cp [1, 1, 1, 1] (bodyOf Tryz.f42))] (FinX Tryz.prog Tryz.f42 [] (.sl true 4 r.length ((eSpot).f r)) []) ⟨[(0, .sl false 4 t0.length ((ePl).f t0)), (3, .msl 10 a.2.length), (4, i64 t4), (5, i64 a.1)], [(10, ⟨false, 4, (eSpot).f a.2⟩)]⟩) (t6 : Int) : ∀ (m : Nat) (a : (Int × List Spot)) (r : (List Spot)), loopN (Dspec_l7Corners_1 n rec1 rec0 t5 t0 t4 t6) m a = some r → Wk Tryz.prog H Y 42 [.code (cp [1, 1, 1, 0, 1, 0, 0, 1, 0, 0, 1, 0, 0, 1, 0, 0, 1, 0] (bodyOf Tryz.f42)), .blk 4, .blk 3, .code (cp [1, 1, 1, 0, 1, 0, 0, 1, 0, 0, 1, 0, 0, 1, 1] (bodyOf Tryz.f42)), .lp (cp [1, 1, 1, 0, 1, 0, 0, 1, 0, 0, 1, 0] (bodyOf Tryz.f42)), .blk 2, .blk 1, .code (cp [1, 1, 1, 0, 1, 0, 0, 1, 1] (bodyOf Tryz.f42)), .lp (cp [1, 1, 1, 0, 1, 0] (bodyOf Tryz.f42)), .blk 0, .code (cp [1, 1, 1, 1] (bodyOf Tryz.f42))] (FinX Tryz.prog Tryz.f42 [] (.sl true 4 r.length ((eSpot).f r)) []) ⟨[(0, .sl false 4 t0.length ((ePl).f t0)), (3, .msl 10 a.2.length), (4, i64 t4), (5, i64 t5), (6, i64 t6), (7, i64 a.1)], [(10, ⟨false, 4, (eSpot).f a.2⟩)]⟩ := by
  refine loopN_ind (fun rec2 hrec2 a r h => ?_)
  obtain ⟨t7, l10⟩ := a
  unfold Dspec_l7Corners_1 at h
  refine x_frk 8 [] onil h (by kernel_rfl) (fun h => ?_) (fun h => ?_)
  · obtain ⟨v0, hv0, h⟩ := bind_some h
    obtain ⟨v1, hv1, h⟩ := bind_some h
    obtain ⟨v2, hv2, h⟩ := bind_some h
    obtain ⟨v3, hv3, h⟩ := bind_some h
    refine x_frk 29 [(2, .val (.cptr (ePl.c v0 ++ (ePl).f ((t0).drop (Int.toNat t5 + 1))))), (3, .val (.cptr (ePl.c v1 ++ (ePl).f ((t0).drop (Int.toNat t6 + 1))))), (3, .val (.cptr (ePl.c v2 ++ (ePl).f ((t0).drop (Int.toNat t7 + 1))))), (1, .call [] [] (.tup [.agg [i64 v3.1.X, i64 v3.1.Y, i64 v3.1.Z, i64 v3.1.W], bl v3.2]) [])] (ocons (ix ePl hv0) (ocons (ix ePl hv1) (ocons (ix ePl hv2) (ocons (Tspec_l5Meet (Y := Y) n v0 v1 v2 _ hv3) onil)))) h (by kernel_rfl) (fun h => ?_) (fun h => ?_)
    · obtain ⟨v4, hv4, h⟩ := bind_some h
      exact x_to 6 [(2, .call [] [] (i64 v4) [])] (ocons (Tspec_l7In (Y := Y) n t0 v3.1 _ hv4) onil) (Tspec_l7Corners_0 n rec2 rec1 rec0 t6 t5 t0 t4 hrec2 hrec1 hrec0 t7 (decide (v4 ≥ 0)) v3.1.X v3.1.Y v3.1.Z v3.1.W l10 r h) (by kernel_rfl)
    · exact x_to 15 [] onil (hrec2 (w64 (t7 + 1), l10) r h) (by kernel_rfl)
  · exact x_to 8 [] onil (hrec1 (w64 (t6 + 1), l10) r h) (by kernel_rfl)
def Dspec_l7Corners_2 (n : Nat) (rec0 : (Int × List Spot) → Option (List Spot)) (t0 : List Pl) (t4 t5 : Int) (rec1 : (Int × List Spot) → Option (List Spot)) (a : (Int × List Spot)) : Option (List Spot) :=
  match a with
  | (t6, l10) => frk (decide (t6 < t4)) (loopN (Dspec_l7Corners_1 n rec1 rec0 t5 t0 t4 t6) n (w64 (t6 + 1), l10)) (rec0 (w64 (t5 + 1), l10))
theorem Tspec_l7Corners_2 {Y} (n : Nat) (rec0 : (Int × List Spot) → Option (List Spot)) (t0 : List Pl) (t4 : Int) (hrec0 : ∀ (a : (Int × List Spot)) (r : (List Spot)), rec0 a = some r → Wk Tryz.prog H Y 42 [.code (cp [1, 1, 1, 0, 1, 0] (bodyOf Tryz.f42)), .blk 0, .code (cp [1, 1, 1, 1] (bodyOf Tryz.f42))] (FinX Tryz.prog Tryz.f42 [] (.sl true 4 r.length ((eSpot).f r)) []) ⟨[(0, .sl false 4 t0.length ((ePl).f t0)), (3, .msl 10 a.2.length), (4, i64 t4), (5, i64 a.1)], [(10, ⟨false, 4, (eSpot).f a.2⟩)]⟩) (t5 : Int) : ∀ (m : Nat) (a : (Int × List Spot)) (r : (List Spot)), loopN (Dspec_l7Corners_2 n rec0 t0 t4 t5) m a = some r → Wk Tryz.prog H Y 42 [.code (cp [1, 1, 1, 0, 1, 0, 0, 1, 0, 0, 1, 0] (bodyOf Tryz.f42)), .blk 2, .blk 1, .code (cp [1, 1, 1, 0, 1, 0, 0, 1, 1] (bodyOf Tryz.f42)), .lp (cp [1, 1, 1, 0, 1, 0] (bodyOf Tryz.f42)), .blk 0, .code (cp [1, 1, 1, 1] (bodyOf Tryz.f42))] (FinX Tryz.prog Tryz.f42 [] (.sl true 4 r.length ((eSpot).f r)) []) ⟨[(0, .sl false 4 t0.length ((ePl).f t0)), (3, .msl 10 a.2.length), (4, i64 t4), (5, i64 t5), (6, i64 a.1)], [(10, ⟨false, 4, (eSpot).f a.2⟩)]⟩ := by
  refine loopN_ind (fun rec1 hrec1 a r h => ?_)
  obtain ⟨t6, l10⟩ := a
  unfold Dspec_l7Corners_2 at h
  refine x_frk 8 [] onil h (by kernel_rfl) (fun h => ?_) (fun h => ?_)
  · exact x_to 10 [] onil (Tspec_l7Corners_1 n rec1 rec0 t5 t0 t4 hrec1 hrec0 t6 n (w64 (t6 + 1), l10) r h) (by kernel_rfl)
  · exact x_to 8 [] onil (hrec0 (w64 (t5 + 1), l10) r h) (by kernel_rfl)
def Dspec_l7Corners_3 (n : Nat) (t0 : List Pl) (t4 : Int) (rec0 : (Int × List Spot) → Option (List Spot)) (a : (Int × List Spot)) : Option (List Spot) :=
  match a with
  | (t5, l10) => frk (decide (t5 < t4)) (loopN (Dspec_l7Corners_2 n rec0 t0 t4 t5) n (w64 (t5 + 1), l10)) (some l10)
theorem Tspec_l7Corners_3 {Y} (n : Nat) (t0 : List Pl) (t4 : Int) : ∀ (m : Nat) (a : (Int × List Spot)) (r : (List Spot)), loopN (Dspec_l7Corners_3 n t0 t4) m a = some r → Wk Tryz.prog H Y 42 [.code (cp [1, 1, 1, 0, 1, 0] (bodyOf Tryz.f42)), .blk 0, .code (cp [1, 1, 1, 1] (bodyOf Tryz.f42))] (FinX Tryz.prog Tryz.f42 [] (.sl true 4 r.length ((eSpot).f r)) []) ⟨[(0, .sl false 4 t0.length ((ePl).f t0)), (3, .msl 10 a.2.length), (4, i64 t4), (5, i64 a.1)], [(10, ⟨false, 4, (eSpot).f a.2⟩)]⟩ := by
  refine loopN_ind (fun rec0 hrec0 a r h => ?_)
  obtain ⟨t5, l10⟩ := a
  unfold Dspec_l7Corners_3 at h
  refine x_frk 8 [] onil h (by kernel_rfl) (fun h => ?_) (fun h => ?_)
  · exact x_to 10 [] onil (Tspec_l7Corners_2 n rec0 t0 t4 hrec0 t5 n (w64 (t5 + 1), l10) r h) (by kernel_rfl)
  · replace h := Option.some.inj h; subst h
    exact x_end 6 [] [] onil (ocons (len_row (L := l10) eSpot) onil) (by kernel_rfl)
def Dspec_l7Corners (n : Nat) (a0 : (List Pl)) : Option (List Spot) :=
  loopN (Dspec_l7Corners_3 n a0 (a0.length : Int)) n (0, [])
theorem Tspec_l7Corners {Y} (n : Nat) (a0 : (List Pl)) (r : (List Spot)) (h : Dspec_l7Corners n a0 = some r) : Big Tryz.prog H Y (.call 42 [.sl false 4 a0.length ((ePl).f a0)] (lk []) (.sl true 4 r.length ((eSpot).f r)) (lk [])) := by
  unfold Dspec_l7Corners at h
  refine x_call (fn := Tryz.f42) (c := bodyOf Tryz.f42) (bs0 := []) Tryz.func42 (by kernel_rfl) (by kernel_rfl) ?_
  exact x_to 22 [(7, .shutb 10 ⟨true, 4, (eSpot).f []⟩)] (ocons (rflB ⟨true, 4, (eSpot).f []⟩) (ocons (show 4 ≠ 0 by decide) onil)) (Tspec_l7Corners_3 n a0 (a0.length : Int) n (0, []) r h) (by kernel_rfl)
/-! spec.l17Floor -/
def Dspec_l17Floor (a0 a1 : Int) : Option Int :=
  (qt .i64 a0 a1).bind fun v0 => frk (decide ((w64 (v0 * a1)) > a0)) (some (w64 (v0 - 1))) (some v0)
theorem Tspec_l17Floor {Y} (a0 a1 r : Int) (h : Dspec_l17Floor a0 a1 = some r) : Big Tryz.prog H Y (.call 43 [i64 a0, i64 a1] (lk []) (i64 r) (lk [])) := by
  unfold Dspec_l17Floor at h
  refine x_call (fn := Tryz.f43) (c := bodyOf Tryz.f43) (bs0 := []) Tryz.func43 (by kernel_rfl) (by kernel_rfl) ?_
  obtain ⟨v0, hv0, h⟩ := bind_some h
  refine x_frk 20 [(3, .val (i64 v0))] (ocons (qtOk hv0) onil) h (by kernel_rfl) (fun h => ?_) (fun h => ?_)
  · replace h := Option.some.inj h; subst h
    exact x_end 10 [] [] onil onil (by kernel_rfl)
  · replace h := Option.some.inj h; subst h
    exact x_end 6 [] [] onil onil (by kernel_rfl)
/-! spec.l17Ceil -/
def Dspec_l17Ceil (a0 a1 : Int) : Option Int :=
  (Dspec_l17Floor (w64 (0 - a0)) a1).bind fun v0 => some (w64 (0 - v0))
theorem Tspec_l17Ceil {Y} (a0 a1 r : Int) (h : Dspec_l17Ceil a0 a1 = some r) : Big Tryz.prog H Y (.call 44 [i64 a0, i64 a1] (lk []) (i64 r) (lk [])) := by
  unfold Dspec_l17Ceil at h
  refine x_call (fn := Tryz.f44) (c := bodyOf Tryz.f44) (bs0 := []) Tryz.func44 (by kernel_rfl) (by kernel_rfl) ?_
  obtain ⟨v0, hv0, h⟩ := bind_some h
  replace h := Option.some.inj h; subst h
  exact x_end 13 [(4, .call [] [] (i64 v0) [])] [] (ocons (Tspec_l17Floor (Y := Y) (w64 (0 - a0)) a1 _ hv0) onil) onil (by kernel_rfl)
/-! spec.l17Least -/
def Dspec_l17Least (a0 a1 : Int) : Option Int :=
  frk (decide (a0 < a1)) (some a0) (some a1)
theorem Tspec_l17Least {Y} (a0 a1 r : Int) (h : Dspec_l17Least a0 a1 = some r) : Big Tryz.prog H Y (.call 45 [i64 a0, i64 a1] (lk []) (i64 r) (lk [])) := by
  unfold Dspec_l17Least at h
  refine x_call (fn := Tryz.f45) (c := bodyOf Tryz.f45) (bs0 := []) Tryz.func45 (by kernel_rfl) (by kernel_rfl) ?_
  refine x_frk 11 [] onil h (by kernel_rfl) (fun h => ?_) (fun h => ?_)
  · replace h := Option.some.inj h; subst h
    exact x_end 5 [] [] onil onil (by kernel_rfl)
  · replace h := Option.some.inj h; subst h
    exact x_end 6 [] [] onil onil (by kernel_rfl)
/-! spec.PtOk -/
def Dspec_PtOk (a0 : Pt) : Option Bool :=
  (Dspec_l1In a0.X (-1000000) 1000000).bind fun v0 => frk v0 ((Dspec_l1In a0.Y (-1000000) 1000000).bind fun v1 => frk v1 ((Dspec_l1In a0.Z (-1000000) 1000000).bind fun v2 => some v2) (some false)) (some false)
theorem Tspec_PtOk {Y} (a0 : Pt) (r : Bool) (h : Dspec_PtOk a0 = some r) : Big Tryz.prog H Y (.call 46 [.agg [i64 a0.X, i64 a0.Y, i64 a0.Z]] (lk []) (bl r) (lk [])) := by
  unfold Dspec_PtOk at h
  refine x_call (fn := Tryz.f46) (c := bodyOf Tryz.f46) (bs0 := []) Tryz.func46 (by kernel_rfl) (by kernel_rfl) ?_
  obtain ⟨v0, hv0, h⟩ := bind_some h
  refine x_frk 11 [(4, .call [] [] (bl v0) [])] (ocons (Tspec_l1In (Y := Y) a0.X (-1000000) 1000000 _ hv0) onil) h (by kernel_rfl) (fun h => ?_) (fun h => ?_)
  · obtain ⟨v1, hv1, h⟩ := bind_some h
    refine x_frk 5 [(2, .call [] [] (bl v1) [])] (ocons (Tspec_l1In (Y := Y) a0.Y (-1000000) 1000000 _ hv1) onil) h (by kernel_rfl) (fun h => ?_) (fun h => ?_)
    · obtain ⟨v2, hv2, h⟩ := bind_some h
      replace h := Option.some.inj h; subst h
      exact x_end 6 [(2, .call [] [] (bl v2) [])] [] (ocons (Tspec_l1In (Y := Y) a0.Z (-1000000) 1000000 _ hv2) onil) onil (by kernel_rfl)
    · replace h := Option.some.inj h; subst h
      exact x_end 6 [] [] onil onil (by kernel_rfl)
  · replace h := Option.some.inj h; subst h
    exact x_end 11 [] [] onil onil (by kernel_rfl)
/-! spec.Box -/
def Dspec_Box_0 (_n : Nat) (rec1 : (Bool × Int × Int × Int × Int × Int × Int × Int) → Option (Pt × Pt × Bool)) (_rec0 : (Bool × Int × Int × Int × Int × Int × Int × Int) → Option (Pt × Pt × Bool)) (_t9 : Int) (_t10 : List Spot) (_t5 : List (List Pl)) (_b2_0 _b2_1 _b2_2 _b3_0 _b3_1 _b3_2 : Int) (t6 : Bool) (t11 b7_0 b7_1 b7_2 b8_0 b8_1 b8_2 b13_0 b13_1 b13_2 b14_0 b14_1 b14_2 : Int) : Option (Pt × Pt × Bool) :=
  (Dspec_l17Least b7_0 b13_0).bind fun v12 => (Dspec_l17Least b7_1 b13_1).bind fun v13 => (Dspec_l17Least b7_2 b13_2).bind fun v14 => (Dspec_l17Least (w64 (0 - b8_0)) (w64 (0 - b14_0))).bind fun v15 => (Dspec_l17Least (w64 (0 - b8_1)) (w64 (0 - b14_1))).bind fun v16 => (Dspec_l17Least (w64 (0 - b8_2)) (w64 (0 - b14_2))).bind fun v17 => rec1 (t6, w64 (t11 + 1), v12, v13, v14, w64 (0 - v15), w64 (0 - v16), w64 (0 - v17))
theorem Tspec_Box_0 {Y} (n : Nat) (rec1 : (Bool × Int × Int × Int × Int × Int × Int × Int) → Option (Pt × Pt × Bool)) (rec0 : (Bool × Int × Int × Int × Int × Int × Int × Int) → Option (Pt × Pt × Bool)) (t9 : Int) (t10 : List Spot) (t5 : List (List Pl)) (b2_0 b2_1 b2_2 b3_0 b3_1 b3_2 : Int) (hrec1 : ∀ (a : (Bool × Int × Int × Int × Int × Int × Int × Int)) (r : (Pt × Pt × Bool)), rec1 a = some r → Wk Tryz.prog H Y 8 [.code (cp [1, 1, 1, 1, 1, 0, 1, 0, 0, 1, 0, 0, 1, 1, 1, 0] (bodyOf Tryz.f8)), .blk 2, .blk 1, .code (cp [1, 1, 1, 1, 1, 0, 1, 0, 0, 1, 1] (bodyOf Tryz.f8)), .lp (cp [1, 1, 1, 1, 1, 0, 1, 0] (bodyOf Tryz.f8)), .blk 0, .code (cp [1, 1, 1, 1, 1, 1] (bodyOf Tryz.f8))] (FinX Tryz.prog Tryz.f8 [] (.tup [.agg [i64 r.1.X, i64 r.1.Y, i64 r.1.Z], .agg [i64 r.2.1.X, i64 r.2.1.Y, i64 r.2.1.Z], bl r.2.2]) []) ⟨[(2, .ptr 2 0), (3, .ptr 3 0), (5, .sl false 1 t5.length ((ePls false).f t5)), (6, bl a.1), (7, .ptr 7 0), (8, .ptr 8 0), (9, i64 t9), (10, .sl false 4 t10.length ((eSpot).f t10)), (11, i64 a.2.1)], [(2, ⟨true, 0, [i64 b2_0, i64 b2_1, i64 b2_2]⟩), (3, ⟨true, 0, [i64 b3_0, i64 b3_1, i64 b3_2]⟩), (7, ⟨true, 0, [i64 a.2.2.1, i64 a.2.2.2.1, i64 a.2.2.2.2.1]⟩), (8, ⟨true, 0, [i64 a.2.2.2.2.2.1, i64 a.2.2.2.2.2.2.1, i64 a.2.2.2.2.2.2.2]⟩)]⟩) (_hrec0 : ∀ (a : (Bool × Int × Int × Int × Int × Int × Int × Int)) (r : (Pt × Pt × Bool)), rec0 a = some r → Wk Tryz.prog H Y 8 [.code (cp [1, 1, 1, 1, 1, 0, 1, 0] (bodyOf Tryz.f8)), .blk 0, .code (cp [1, 1, 1, 1, 1, 1] (bodyOf Tryz.f8))] (FinX Tryz.prog Tryz.f8 [] (.tup [.agg [i64 r.1.X, i64 r.1.Y, i64 r.1.Z], .agg [i64 r.2.1.X, i64 r.2.1.Y, i64 r.2.1.Z], bl r.2.2]) []) ⟨[(2, .ptr 2 0), (3, .ptr 3 0), (5, .sl false 1 t5.length ((ePls false).f t5)), (6, bl a.1), (7, .ptr 7 0), (8, .ptr 8 0), (9, i64 a.2.1)], [(2, ⟨true, 0, [i64 b2_0, i64 b2_1, i64 b2_2]⟩), (3, ⟨true, 0, [i64 b3_0, i64 b3_1, i64 b3_2]⟩), (7, ⟨true, 0, [i64 a.2.2.1, i64 a.2.2.2.1, i64 a.2.2.2.2.1]⟩), (8, ⟨true, 0, [i64 a.2.2.2.2.2.1, i64 a.2.2.2.2.2.2.1, i64 a.2.2.2.2.2.2.2]⟩)]⟩) (t6 : Bool) (t11 b7_0 b7_1 b7_2 b8_0 b8_1 b8_2 b13_0 b13_1 b13_2 b14_0 b14_1 b14_2 : Int) (r : (Pt × Pt × Bool)) (h : Dspec_Box_0 n rec1 rec0 t9 t10 t5 b2_0 b2_1 b2_2 b3_0 b3_1 b3_2 t6 t11 b7_0 b7_1 b7_2 b8_0 b8_1 b8_2 b13_0 b13_1 b13_2 b14_0 b14_1 b14_2 = some r) : Wk Tryz.prog H Y 8 [.code (cp [1, 1, 1, 1, 1, 0, 1, 0, 0, 1, 0, 0, 1, 1, 1, 0, 0, 1, 0, 0, 1, 1, 1, 1, 0] (bodyOf Tryz.f8)), .code (cp [1, 1, 1, 1, 1, 0, 1, 0, 0, 1, 0, 0, 1, 1, 1, 0, 0, 1, 0, 0, 1, 1, 1, 1, 1] (bodyOf Tryz.f8)), .blk 3, .code (cp [1, 1, 1, 1, 1, 0, 1, 0, 0, 1, 0, 0, 1, 1, 1, 0, 0, 1, 1] (bodyOf Tryz.f8)), .lp (cp [1, 1, 1, 1, 1, 0, 1, 0, 0, 1, 0, 0, 1, 1, 1, 0] (bodyOf Tryz.f8)), .blk 2, .blk 1, .code (cp [1, 1, 1, 1, 1, 0, 1, 0, 0, 1, 1] (bodyOf Tryz.f8)), .lp (cp [1, 1, 1, 1, 1, 0, 1, 0] (bodyOf Tryz.f8)), .blk 0, .code (cp [1, 1, 1, 1, 1, 1] (bodyOf Tryz.f8))] (FinX Tryz.prog Tryz.f8 [] (.tup [.agg [i64 r.1.X, i64 r.1.Y, i64 r.1.Z], .agg [i64 r.2.1.X, i64 r.2.1.Y, i64 r.2.1.Z], bl r.2.2]) []) ⟨[(2, .ptr 2 0), (3, .ptr 3 0), (5, .sl false 1 t5.length ((ePls false).f t5)), (6, bl t6), (7, .ptr 7 0), (8, .ptr 8 0), (9, i64 t9), (10, .sl false 4 t10.length ((eSpot).f t10)), (11, i64 t11), (13, .ptr 13 0), (14, .ptr 14 0)], [(2, ⟨true, 0, [i64 b2_0, i64 b2_1, i64 b2_2]⟩), (3, ⟨true, 0, [i64 b3_0, i64 b3_1, i64 b3_2]⟩), (7, ⟨true, 0, [i64 b7_0, i64 b7_1, i64 b7_2]⟩), (8, ⟨true, 0, [i64 b8_0, i64 b8_1, i64 b8_2]⟩), (13, ⟨true, 0, [i64 b13_0, i64 b13_1, i64 b13_2]⟩), (14, ⟨true, 0, [i64 b14_0, i64 b14_1, i64 b14_2]⟩)]⟩ := by
  unfold Dspec_Box_0 at h
  obtain ⟨v12, hv12, h⟩ := bind_some h
  obtain ⟨v13, hv13, h⟩ := bind_some h
  obtain ⟨v14, hv14, h⟩ := bind_some h
  obtain ⟨v15, hv15, h⟩ := bind_some h
  obtain ⟨v16, hv16, h⟩ := bind_some h
  obtain ⟨v17, hv17, h⟩ := bind_some h
  exact x_to 54 [(4, .call [] [] (i64 v12) []), (4, .call [] [] (i64 v13) []), (4, .call [] [] (i64 v14) []), (8, .call [] [] (i64 v15) []), (7, .call [] [] (i64 v16) []), (7, .call [] [] (i64 v17) [])] (ocons (Tspec_l17Least (Y := Y) b7_0 b13_0 _ hv12) (ocons (Tspec_l17Least (Y := Y) b7_1 b13_1 _ hv13) (ocons (Tspec_l17Least (Y := Y) b7_2 b13_2 _ hv14) (ocons (Tspec_l17Least (Y := Y) (w64 (0 - b8_0)) (w64 (0 - b14_0)) _ hv15) (ocons (Tspec_l17Least (Y := Y) (w64 (0 - b8_1)) (w64 (0 - b14_1)) _ hv16) (ocons (Tspec_l17Least (Y := Y) (w64 (0 - b8_2)) (w64 (0 - b14_2)) _ hv17) onil)))))) (hrec1 (t6, w64 (t11 + 1), v12, v13, v14, w64 (0 - v15), w64 (0 - v16), w64 (0 - v17)) r h) (by kernel_rfl)
def Dspec_Box_1 (n : Nat) (rec0 : (Bool × Int × Int × Int × Int × Int × Int × Int) → Option (Pt × Pt × Bool)) (t5 : List (List Pl)) (b2_0 b2_1 b2_2 b3_0 b3_1 b3_2 t9 : Int) (t10 : List Spot) (rec1 : (Bool × Int × Int × Int × Int × Int × Int × Int) → Option (Pt × Pt × Bool)) (a : (Bool × Int × Int × Int × Int × Int × Int × Int)) : Option (Pt × Pt × Bool) :=
  match a with
  | (t6, t11, b7_0, b7_1, b7_2, b8_0, b8_1, b8_2) => frk (decide (t11 < (t10.length : Int))) ((lget t10 t11).bind fun v5 => (Dspec_l17Floor v5.X v5.W).bind fun v6 => (Dspec_l17Floor v5.Y v5.W).bind fun v7 => (Dspec_l17Floor v5.Z v5.W).bind fun v8 => (Dspec_l17Ceil v5.X v5.W).bind fun v9 => (Dspec_l17Ceil v5.Y v5.W).bind fun v10 => (Dspec_l17Ceil v5.Z v5.W).bind fun v11 => frk t6 (Dspec_Box_0 n rec1 rec0 t9 t10 t5 b2_0 b2_1 b2_2 b3_0 b3_1 b3_2 false t11 v6 v7 v8 v9 v10 v11 v6 v7 v8 v9 v10 v11) (Dspec_Box_0 n rec1 rec0 t9 t10 t5 b2_0 b2_1 b2_2 b3_0 b3_1 b3_2 t6 t11 b7_0 b7_1 b7_2 b8_0 b8_1 b8_2 v6 v7 v8 v9 v10 v11)) (rec0 (t6, w64 (t9 + 1), b7_0, b7_1, b7_2, b8_0, b8_1, b8_2))
theorem Tspec_Box_1 {Y} (n : Nat) (rec0 : (Bool × Int × Int × Int × Int × Int × Int × Int) → Option (Pt × Pt × Bool)) (t5 : List (List Pl)) (b2_0 b2_1 b2_2 b3_0 b3_1 b3_2 : Int) (hrec0 : ∀ (a : (Bool × Int × Int × Int × Int × Int × Int × Int)) (r : (Pt × Pt × Bool)), rec0 a = some r → Wk Tryz.prog H Y 8 [.code (cp [1, 1, 1, 1, 1, 0, 1, 0] (bodyOf Tryz.f8)), .blk 0, .code (cp [1, 1, 1, 1, 1, 1] (bodyOf Tryz.f8))] (FinX Tryz.prog Tryz.f8 [] (.tup [.agg [i64 r.1.X, i64 r.1.Y, i64 r.1.Z], .agg [i64 r.2.1.X, i64 r.2.1.Y, i64 r.2.1.Z], bl r.2.2]) []) ⟨[(2, .ptr 2 0), (3, .ptr 3 0), (5, .sl false 1 t5.length ((ePls false).f t5)), (6, bl a.1), (7, .ptr 7 0), (8, .ptr 8 0), (9, i64 a.2.1)], [(2, ⟨true, 0, [i64 b2_0, i64 b2_1, i64 b2_2]⟩), (3, ⟨true, 0, [i64 b3_0, i64 b3_1, i64 b3_2]⟩), (7, ⟨true, 0, [i64 a.2.2.1, i64 a.2.2.2.1, i64 a.2.2.2.2.1]⟩), (8, ⟨true, 0, [i64 a.2.2.2.2.2.1, i64 a.2.2.2.2.2.2.1, i64 a.2.2.2.2.2.2.2]⟩)]⟩) (t9 : Int) (t10 : List Spot) : ∀ (m : Nat) (a : (Bool × Int × Int × Int × Int × Int × Int × Int)) (r : (Pt × Pt × Bool)), loopN (Dspec_Box_1 n rec0 t5 b2_0 b2_1 b2_2 b3_0 b3_1 b3_2 t9 t10) m a = some r → Wk Tryz.prog H Y 8 [.code (cp [1, 1, 1, 1, 1, 0, 1, 0, 0, 1, 0, 0, 1, 1, 1, 0] (bodyOf Tryz.f8)), .blk 2, .blk 1, .code (cp [1, 1, 1, 1, 1, 0, 1, 0, 0, 1, 1] (bodyOf Tryz.f8)), .lp (cp [1, 1, 1, 1, 1, 0, 1, 0] (bodyOf Tryz.f8)), .blk 0, .code (cp [1, 1, 1, 1, 1, 1] (bodyOf Tryz.f8))] (FinX Tryz.prog Tryz.f8 [] (.tup [.agg [i64 r.1.X, i64 r.1.Y, i64 r.1.Z], .agg [i64 r.2.1.X, i64 r.2.1.Y, i64 r.2.1.Z], bl r.2.2]) []) ⟨[(2, .ptr 2 0), (3, .ptr 3 0), (5, .sl false 1 t5.length ((ePls false).f t5)), (6, bl a.1), (7, .ptr 7 0), (8, .ptr 8 0), (9, i64 t9), (10, .sl false 4 t10.length ((eSpot).f t10)), (11, i64 a.2.1)], [(2, ⟨true, 0, [i64 b2_0, i64 b2_1, i64 b2_2]⟩), (3, ⟨true, 0, [i64 b3_0, i64 b3_1, i64 b3_2]⟩), (7, ⟨true, 0, [i64 a.2.2.1, i64 a.2.2.2.1, i64 a.2.2.2.2.1]⟩), (8, ⟨true, 0, [i64 a.2.2.2.2.2.1, i64 a.2.2.2.2.2.2.1, i64 a.2.2.2.2.2.2.2]⟩)]⟩ := by
  refine loopN_ind (fun rec1 hrec1 a r h => ?_)
  obtain ⟨t6, t11, b7_0, b7_1, b7_2, b8_0, b8_1, b8_2⟩ := a
  unfold Dspec_Box_1 at h
  refine x_frk 9 [] onil h (by kernel_rfl) (fun h => ?_) (fun h => ?_)
  · obtain ⟨v5, hv5, h⟩ := bind_some h
    obtain ⟨v6, hv6, h⟩ := bind_some h
    obtain ⟨v7, hv7, h⟩ := bind_some h
    obtain ⟨v8, hv8, h⟩ := bind_some h
    obtain ⟨v9, hv9, h⟩ := bind_some h
    obtain ⟨v10, hv10, h⟩ := bind_some h
    obtain ⟨v11, hv11, h⟩ := bind_some h
    refine x_frk 59 [(2, .val (.cptr (eSpot.c v5 ++ (eSpot).f ((t10).drop (Int.toNat t11 + 1))))), (7, .call [] [] (i64 v6) []), (4, .call [] [] (i64 v7) []), (4, .call [] [] (i64 v8) []), (7, .call [] [] (i64 v9) []), (4, .call [] [] (i64 v10) []), (4, .call [] [] (i64 v11) [])] (ocons (ix eSpot hv5) (ocons (Tspec_l17Floor (Y := Y) v5.X v5.W _ hv6) (ocons (Tspec_l17Floor (Y := Y) v5.Y v5.W _ hv7) (ocons (Tspec_l17Floor (Y := Y) v5.Z v5.W _ hv8) (ocons (Tspec_l17Ceil (Y := Y) v5.X v5.W _ hv9) (ocons (Tspec_l17Ceil (Y := Y) v5.Y v5.W _ hv10) (ocons (Tspec_l17Ceil (Y := Y) v5.Z v5.W _ hv11) onil))))))) h (by kernel_rfl) (fun h => ?_) (fun h => ?_)
    · exact x_to 14 [] onil (Tspec_Box_0 n rec1 rec0 t9 t10 t5 b2_0 b2_1 b2_2 b3_0 b3_1 b3_2 hrec1 hrec0 false t11 v6 v7 v8 v9 v10 v11 v6 v7 v8 v9 v10 v11 r h) (by kernel_rfl)
    · exact x_to 2 [] onil (Tspec_Box_0 n rec1 rec0 t9 t10 t5 b2_0 b2_1 b2_2 b3_0 b3_1 b3_2 hrec1 hrec0 t6 t11 b7_0 b7_1 b7_2 b8_0 b8_1 b8_2 v6 v7 v8 v9 v10 v11 r h) (by kernel_rfl)
  · exact x_to 8 [] onil (hrec0 (t6, w64 (t9 + 1), b7_0, b7_1, b7_2, b8_0, b8_1, b8_2) r h) (by kernel_rfl)
def Dspec_Box_3 (_n : Nat) (t134 : Bool) (_b2_0 _b2_1 _b2_2 _b3_0 _b3_1 _b3_2 b7_0 b7_1 b7_2 b8_0 b8_1 b8_2 : Int) : Option (Pt × Pt × Bool) :=
  frk t134 (some ((Pt.mk 0 0 0), (Pt.mk 0 0 0), false)) (some ((Pt.mk b7_0 b7_1 b7_2), (Pt.mk b8_0 b8_1 b8_2), true))
theorem Tspec_Box_3 {Y} (n : Nat) (t134 : Bool) (b2_0 b2_1 b2_2 b3_0 b3_1 b3_2 b7_0 b7_1 b7_2 b8_0 b8_1 b8_2 : Int) (r : (Pt × Pt × Bool)) (h : Dspec_Box_3 n t134 b2_0 b2_1 b2_2 b3_0 b3_1 b3_2 b7_0 b7_1 b7_2 b8_0 b8_1 b8_2 = some r) : Wk Tryz.prog H Y 8 [.code (cp [1, 1, 1, 1, 1, 1, 0, 1] (bodyOf Tryz.f8)), .code (cp [1, 1, 1, 1, 1, 1, 1] (bodyOf Tryz.f8))] (FinX Tryz.prog Tryz.f8 [] (.tup [.agg [i64 r.1.X, i64 r.1.Y, i64 r.1.Z], .agg [i64 r.2.1.X, i64 r.2.1.Y, i64 r.2.1.Z], bl r.2.2]) []) ⟨[(2, .ptr 2 0), (3, .ptr 3 0), (7, .ptr 7 0), (8, .ptr 8 0), (134, bl t134)], [(2, ⟨true, 0, [i64 b2_0, i64 b2_1, i64 b2_2]⟩), (3, ⟨true, 0, [i64 b3_0, i64 b3_1, i64 b3_2]⟩), (7, ⟨true, 0, [i64 b7_0, i64 b7_1, i64 b7_2]⟩), (8, ⟨true, 0, [i64 b8_0, i64 b8_1, i64 b8_2]⟩)]⟩ := by
  unfold Dspec_Box_3 at h
  refine x_frk 0 [] onil h (by kernel_rfl) (fun h => ?_) (fun h => ?_)
  · replace h := Option.some.inj h; subst h
    exact x_end 8 [] [] onil onil (by kernel_rfl)
  · replace h := Option.some.inj h; subst h
    exact x_end 9 [] [] onil onil (by kernel_rfl)
def Dspec_Box_2 (n : Nat) (t6 : Bool) (b2_0 b2_1 b2_2 b3_0 b3_1 b3_2 b7_0 b7_1 b7_2 b8_0 b8_1 b8_2 : Int) : Option (Pt × Pt × Bool) :=
  frk t6 (some ((Pt.mk 0 0 0), (Pt.mk 0 0 0), false)) ((Dspec_PtOk (Pt.mk b7_0 b7_1 b7_2)).bind fun v18 => frk (!v18) (some ((Pt.mk 0 0 0), (Pt.mk 0 0 0), false)) ((Dspec_PtOk (Pt.mk b8_0 b8_1 b8_2)).bind fun v19 => Dspec_Box_3 n (!v19) b2_0 b2_1 b2_2 b3_0 b3_1 b3_2 b7_0 b7_1 b7_2 b8_0 b8_1 b8_2))
theorem Tspec_Box_2 {Y} (n : Nat) (t6 : Bool) (b2_0 b2_1 b2_2 b3_0 b3_1 b3_2 b7_0 b7_1 b7_2 b8_0 b8_1 b8_2 : Int) (r : (Pt × Pt × Bool)) (h : Dspec_Box_2 n t6 b2_0 b2_1 b2_2 b3_0 b3_1 b3_2 b7_0 b7_1 b7_2 b8_0 b8_1 b8_2 = some r) : Wk Tryz.prog H Y 8 [.code (cp [1, 1, 1, 1, 1, 1, 0, 0] (bodyOf Tryz.f8)), .code (cp [1, 1, 1, 1, 1, 1, 0, 1] (bodyOf Tryz.f8)), .code (cp [1, 1, 1, 1, 1, 1, 1] (bodyOf Tryz.f8))] (FinX Tryz.prog Tryz.f8 [] (.tup [.agg [i64 r.1.X, i64 r.1.Y, i64 r.1.Z], .agg [i64 r.2.1.X, i64 r.2.1.Y, i64 r.2.1.Z], bl r.2.2]) []) ⟨[(2, .ptr 2 0), (3, .ptr 3 0), (6, bl t6), (7, .ptr 7 0), (8, .ptr 8 0)], [(2, ⟨true, 0, [i64 b2_0, i64 b2_1, i64 b2_2]⟩), (3, ⟨true, 0, [i64 b3_0, i64 b3_1, i64 b3_2]⟩), (7, ⟨true, 0, [i64 b7_0, i64 b7_1, i64 b7_2]⟩), (8, ⟨true, 0, [i64 b8_0, i64 b8_1, i64 b8_2]⟩)]⟩ := by
  unfold Dspec_Box_2 at h
  refine x_frk 3 [] onil h (by kernel_rfl) (fun h => ?_) (fun h => ?_)
  · replace h := Option.some.inj h; subst h
    exact x_end 19 [] [] onil onil (by kernel_rfl)
  · obtain ⟨v18, hv18, h⟩ := bind_some h
    refine x_frk 5 [(1, .call [] [] (bl v18) [])] (ocons (Tspec_PtOk (Y := Y) (Pt.mk b7_0 b7_1 b7_2) _ hv18) onil) h (by kernel_rfl) (fun h => ?_) (fun h => ?_)
    · replace h := Option.some.inj h; subst h
      exact x_end 14 [] [] onil onil (by kernel_rfl)
    · obtain ⟨v19, hv19, h⟩ := bind_some h
      exact x_to 5 [(1, .call [] [] (bl v19) [])] (ocons (Tspec_PtOk (Y := Y) (Pt.mk b8_0 b8_1 b8_2) _ hv19) onil) (Tspec_Box_3 n (!v19) b2_0 b2_1 b2_2 b3_0 b3_1 b3_2 b7_0 b7_1 b7_2 b8_0 b8_1 b8_2 r h) (by kernel_rfl)
def Dspec_Box_4 (n : Nat) (t5 : List (List Pl)) (b2_0 b2_1 b2_2 b3_0 b3_1 b3_2 : Int) (rec0 : (Bool × Int × Int × Int × Int × Int × Int × Int) → Option (Pt × Pt × Bool)) (a : (Bool × Int × Int × Int × Int × Int × Int × Int)) : Option (Pt × Pt × Bool) :=
  match a with
  | (t6, t9, b7_0, b7_1, b7_2, b8_0, b8_1, b8_2) => frk (decide (t9 < (t5.length : Int))) ((lget t5 t9).bind fun v1 => (Dspec_l7Bounded n v1).bind fun v2 => frk (!v2) (some ((Pt.mk 0 0 0), (Pt.mk 0 0 0), false)) ((lget t5 t9).bind fun v3 => (Dspec_l7Corners n v3).bind fun v4 => loopN (Dspec_Box_1 n rec0 t5 b2_0 b2_1 b2_2 b3_0 b3_1 b3_2 t9 v4) n (t6, 0, b7_0, b7_1, b7_2, b8_0, b8_1, b8_2))) (Dspec_Box_2 n t6 b2_0 b2_1 b2_2 b3_0 b3_1 b3_2 b7_0 b7_1 b7_2 b8_0 b8_1 b8_2)
theorem Tspec_Box_4 {Y} (n : Nat) (t5 : List (List Pl)) (b2_0 b2_1 b2_2 b3_0 b3_1 b3_2 : Int) : ∀ (m : Nat) (a : (Bool × Int × Int × Int × Int × Int × Int × Int)) (r : (Pt × Pt × Bool)), loopN (Dspec_Box_4 n t5 b2_0 b2_1 b2_2 b3_0 b3_1 b3_2) m a = some r → Wk Tryz.prog H Y 8 [.code (cp [1, 1, 1, 1, 1, 0, 1, 0] (bodyOf Tryz.f8)), .blk 0, .code (cp [1, 1, 1, 1, 1, 1] (bodyOf Tryz.f8))] (FinX Tryz.prog Tryz.f8 [] (.tup [.agg [i64 r.1.X, i64 r.1.Y, i64 r.1.Z], .agg [i64 r.2.1.X, i64 r.2.1.Y, i64 r.2.1.Z], bl r.2.2]) []) ⟨[(2, .ptr 2 0), (3, .ptr 3 0), (5, .sl false 1 t5.length ((ePls false).f t5)), (6, bl a.1), (7, .ptr 7 0), (8, .ptr 8 0), (9, i64 a.2.1)], [(2, ⟨true, 0, [i64 b2_0, i64 b2_1, i64 b2_2]⟩), (3, ⟨true, 0, [i64 b3_0, i64 b3_1, i64 b3_2]⟩), (7, ⟨true, 0, [i64 a.2.2.1, i64 a.2.2.2.1, i64 a.2.2.2.2.1]⟩), (8, ⟨true, 0, [i64 a.2.2.2.2.2.1, i64 a.2.2.2.2.2.2.1, i64 a.2.2.2.2.2.2.2]⟩)]⟩ := by
  refine loopN_ind (fun rec0 hrec0 a r h => ?_)
  obtain ⟨t6, t9, b7_0, b7_1, b7_2, b8_0, b8_1, b8_2⟩ := a
  unfold Dspec_Box_4 at h
  refine x_frk 9 [] onil h (by kernel_rfl) (fun h => ?_) (fun h => ?_)
  · obtain ⟨v1, hv1, h⟩ := bind_some h
    obtain ⟨v2, hv2, h⟩ := bind_some h
    refine x_frk 13 [(2, .val (.cptr ((ePls false).c v1 ++ (ePls false).f ((t5).drop (Int.toNat t9 + 1))))), (1, .call [] [] (bl v2) [])] (ocons (ix (ePls false) hv1) (ocons (Tspec_l7Bounded (Y := Y) n v1 _ hv2) onil)) h (by kernel_rfl) (fun h => ?_) (fun h => ?_)
    · replace h := Option.some.inj h; subst h
      exact x_end 8 [] [] onil onil (by kernel_rfl)
    · obtain ⟨v3, hv3, h⟩ := bind_some h
      obtain ⟨v4, hv4, h⟩ := bind_some h
      exact x_to 15 [(2, .val (.cptr ((ePls false).c v3 ++ (ePls false).f ((t5).drop (Int.toNat t9 + 1))))), (1, .call [] [] (.sl false 4 v4.length ((eSpot).f v4)) [])] (ocons (ix (ePls false) hv3) (ocons (shSl (L := v4) eSpot eSpot sSpot (Tspec_l7Corners (Y := Y) n v3 _ hv4)) onil)) (Tspec_Box_1 n rec0 t5 b2_0 b2_1 b2_2 b3_0 b3_1 b3_2 hrec0 t9 v4 n (t6, 0, b7_0, b7_1, b7_2, b8_0, b8_1, b8_2) r h) (by kernel_rfl)
  · exact x_to 3 [] onil (Tspec_Box_2 n t6 b2_0 b2_1 b2_2 b3_0 b3_1 b3_2 b7_0 b7_1 b7_2 b8_0 b8_1 b8_2 r h) (by kernel_rfl)
def Dspec_Box (n : Nat) (a0 : Sol) : Option (Pt × Pt × Bool) :=
  (Dspec_Cells n a0 true).bind fun v0 => loopN (Dspec_Box_4 n v0 0 0 0 0 0 0) n (true, 0, 0, 0, 0, 0, 0, 0)
theorem Tspec_Box {Y} (n : Nat) (a0 : Sol) (r : (Pt × Pt × Bool)) (h : Dspec_Box n a0 = some r) : Big Tryz.prog H Y (.call 8 [.agg [bl a0.inn, i64 a0.pl.A, i64 a0.pl.B, i64 a0.pl.C, i64 a0.pl.D, .sl false 6 a0.kids.length ((eSol false).f a0.kids)]] (lk []) (.tup [.agg [i64 r.1.X, i64 r.1.Y, i64 r.1.Z], .agg [i64 r.2.1.X, i64 r.2.1.Y, i64 r.2.1.Z], bl r.2.2]) (lk [])) := by
  unfold Dspec_Box at h
  refine x_call (fn := Tryz.f8) (c := bodyOf Tryz.f8) (bs0 := []) Tryz.func8 (by kernel_rfl) (by kernel_rfl) ?_
  obtain ⟨v0, hv0, h⟩ := bind_some h
  exact x_to 35 [(5, .call [] [] (.sl false 1 v0.length ((ePls false).f v0)) [])] (ocons (shSl (L := v0) (ePls true) (ePls false) (sPls true) (Tspec_Cells (Y := Y) n a0 true _ hv0)) onil) (Tspec_Box_4 n v0 0 0 0 0 0 0 n (true, 0, 0, 0, 0, 0, 0, 0) r h) (by kernel_rfl)
/-! impl.Solid).isLeaf -/
def Dimpl_Solid_isLeaf (a0 : Sol) : Option Bool :=
  some ((a0.kids.length : Int) == 0)
theorem Timpl_Solid_isLeaf {Y} (a0 : Sol) (q0 : List AV) (r : Bool) (h : Dimpl_Solid_isLeaf a0 = some r) : Big Tryz.prog H Y (.call 124 [.cptr ([bl a0.inn, i64 a0.pl.A, i64 a0.pl.B, i64 a0.pl.C, i64 a0.pl.D, .sl false 6 a0.kids.length ((eSol false).f a0.kids)] ++ q0)] (lk []) (bl r) (lk [])) := by
  unfold Dimpl_Solid_isLeaf at h
  refine x_call (fn := Tryz.f124) (c := bodyOf Tryz.f124) (bs0 := []) Tryz.func124 (by kernel_rfl) (by kernel_rfl) ?_
  replace h := Option.some.inj h; subst h
  exact x_end 14 [] [] onil onil (by kernel_rfl)
/-! impl.inRange -/
def Dimpl_inRange (a0 a1 a2 : Int) : Option Bool :=
  frk (decide (a0 ≥ a1)) (some (decide (a0 ≤ a2))) (some false)
theorem Timpl_inRange {Y} (a0 a1 a2 : Int) (r : Bool) (h : Dimpl_inRange a0 a1 a2 = some r) : Big Tryz.prog H Y (.call 111 [i64 a0, i64 a1, i64 a2] (lk []) (bl r) (lk [])) := by
  unfold Dimpl_inRange at h
  refine x_call (fn := Tryz.f111) (c := bodyOf Tryz.f111) (bs0 := []) Tryz.func111 (by kernel_rfl) (by kernel_rfl) ?_
  refine x_frk 10 [] onil h (by kernel_rfl) (fun h => ?_) (fun h => ?_)
  · replace h := Option.some.inj h; subst h
    exact x_end 6 [] [] onil onil (by kernel_rfl)
  · replace h := Option.some.inj h; subst h
    exact x_end 6 [] [] onil onil (by kernel_rfl)
/-! impl.isCoef -/
def Dimpl_isCoef (a0 : Int) : Option Bool :=
  (Dimpl_inRange a0 (-500) 500).bind fun v0 => some v0
theorem Timpl_isCoef {Y} (a0 : Int) (r : Bool) (h : Dimpl_isCoef a0 = some r) : Big Tryz.prog H Y (.call 179 [i64 a0] (lk []) (bl r) (lk [])) := by
  unfold Dimpl_isCoef at h
  refine x_call (fn := Tryz.f179) (c := bodyOf Tryz.f179) (bs0 := []) Tryz.func179 (by kernel_rfl) (by kernel_rfl) ?_
  obtain ⟨v0, hv0, h⟩ := bind_some h
  replace h := Option.some.inj h; subst h
  exact x_end 10 [(2, .call [] [] (bl v0) [])] [] (ocons (Timpl_inRange (Y := Y) a0 (-500) 500 _ hv0) onil) onil (by kernel_rfl)
/-! impl.divisor -/
def Dimpl_divisor_0 (_n : Nat) (rec0 : (Int × Int) → Option Int) (_t6 : List Int) (_t7 t8 : Int) (rec1 : (Int × Int) → Option Int) (a : (Int × Int)) : Option Int :=
  match a with
  | (t3, t5) => frk (t5 != 0) ((rm .i64 t3 t5).bind fun v1 => rec1 (t5, v1)) (rec0 (t3, w64 (t8 + 1)))
theorem Timpl_divisor_0 {Y} (n : Nat) (rec0 : (Int × Int) → Option Int) (t6 : List Int) (t7 : Int) (hrec0 : ∀ (a : (Int × Int)) (r : Int), rec0 a = some r → Wk Tryz.prog H Y 151 [.code (cp [1, 1, 0, 1, 0] (bodyOf Tryz.f151)), .blk 0, .code (cp [1, 1, 1] (bodyOf Tryz.f151))] (FinX Tryz.prog Tryz.f151 [] (i64 r) []) ⟨[(3, i64 a.1), (6, .sl false 1 t6.length ((eInt).f t6)), (7, i64 t7), (8, i64 a.2)], []⟩) (t8 : Int) : ∀ (m : Nat) (a : (Int × Int)) (r : Int), loopN (Dimpl_divisor_0 n rec0 t6 t7 t8) m a = some r → Wk Tryz.prog H Y 151 [.code (cp [1, 1, 0, 1, 0, 0, 1, 1, 0, 0, 1, 1, 0] (bodyOf Tryz.f151)), .blk 2, .blk 1, .code (cp [1, 1, 0, 1, 0, 0, 1, 1, 1] (bodyOf Tryz.f151)), .lp (cp [1, 1, 0, 1, 0] (bodyOf Tryz.f151)), .blk 0, .code (cp [1, 1, 1] (bodyOf Tryz.f151))] (FinX Tryz.prog Tryz.f151 [] (i64 r) []) ⟨[(3, i64 a.1), (5, i64 a.2), (6, .sl false 1 t6.length ((eInt).f t6)), (7, i64 t7), (8, i64 t8)], []⟩ := by
  refine loopN_ind (fun _rec1 hrec1 a r h => ?_)
  obtain ⟨t3, t5⟩ := a
  unfold Dimpl_divisor_0 at h
  refine x_frk 7 [] onil h (by kernel_rfl) (fun h => ?_) (fun h => ?_)
  · obtain ⟨v1, hv1, h⟩ := bind_some h
    exact x_to 12 [(3, .val (i64 v1))] (ocons (rmOk hv1) onil) (hrec1 (t5, v1) r h) (by kernel_rfl)
  · exact x_to 7 [] onil (hrec0 (t3, w64 (t8 + 1)) r h) (by kernel_rfl)
def Dimpl_divisor_1 (n : Nat) (t6 : List Int) (t7 : Int) (rec0 : (Int × Int) → Option Int) (a : (Int × Int)) : Option Int :=
  match a with
  | (t3, t8) => frk (decide (t8 < t7)) ((lget t6 t8).bind fun v0 => loopN (Dimpl_divisor_0 n rec0 t6 t7 t8) n (t3, maxN v0 [w64 (0 - v0)])) (some t3)
theorem Timpl_divisor_1 {Y} (n : Nat) (t6 : List Int) (t7 : Int) : ∀ (m : Nat) (a : (Int × Int)) (r : Int), loopN (Dimpl_divisor_1 n t6 t7) m a = some r → Wk Tryz.prog H Y 151 [.code (cp [1, 1, 0, 1, 0] (bodyOf Tryz.f151)), .blk 0, .code (cp [1, 1, 1] (bodyOf Tryz.f151))] (FinX Tryz.prog Tryz.f151 [] (i64 r) []) ⟨[(3, i64 a.1), (6, .sl false 1 t6.length ((eInt).f t6)), (7, i64 t7), (8, i64 a.2)], []⟩ := by
  refine loopN_ind (fun rec0 hrec0 a r h => ?_)
  obtain ⟨t3, t8⟩ := a
  unfold Dimpl_divisor_1 at h
  refine x_frk 6 [] onil h (by kernel_rfl) (fun h => ?_) (fun h => ?_)
  · obtain ⟨v0, hv0, h⟩ := bind_some h
    exact x_to 18 [(0, .val (.cptr (eInt.c v0 ++ (eInt).f ((t6).drop (Int.toNat t8 + 1))))), (5, .val (.lit (.int .i64 (maxN v0 [w64 (0 - v0)]))))] (ocons (ix eInt hv0) (ocons (maxNok .i64 [w64 (0 - v0)] v0) onil)) (Timpl_divisor_0 n rec0 t6 t7 hrec0 t8 n (t3, maxN v0 [w64 (0 - v0)]) r h) (by kernel_rfl)
  · replace h := Option.some.inj h; subst h
    exact x_end 6 [] [] onil onil (by kernel_rfl)
def Dimpl_divisor (n : Nat) (a0 : (List Int)) : Option Int :=
  loopN (Dimpl_divisor_1 n a0 (a0.length : Int)) n (0, 0)
theorem Timpl_divisor {Y} (n : Nat) (a0 : (List Int)) (r : Int) (h : Dimpl_divisor n a0 = some r) : Big Tryz.prog H Y (.call 151 [.sl false 1 a0.length ((eInt).f a0)] (lk []) (i64 r) (lk [])) := by
  unfold Dimpl_divisor at h
  refine x_call (fn := Tryz.f151) (c := bodyOf Tryz.f151) (bs0 := []) Tryz.func151 (by kernel_rfl) (by kernel_rfl) ?_
  exact x_to 16 [] onil (Timpl_divisor_1 n a0 (a0.length : Int) n (0, 0) r h) (by kernel_rfl)
/-! impl.PlaneOk -/
def Dimpl_PlaneOk_0 (n : Nat) (t24 : Bool) (b1_0 b1_1 b1_2 b1_3 : Int) : Option Bool :=
  frk t24 (some false) (frk (b1_0 != 0) ((Dimpl_divisor n [b1_0, b1_1, b1_2, b1_3]).bind fun v4 => some (v4 == 1)) (frk (b1_1 != 0) ((Dimpl_divisor n [b1_0, b1_1, b1_2, b1_3]).bind fun v5 => some (v5 == 1)) (frk (b1_2 != 0) ((Dimpl_divisor n [b1_0, b1_1, b1_2, b1_3]).bind fun v6 => some (v6 == 1)) (some false))))
theorem Timpl_PlaneOk_0 {Y} (n : Nat) (t24 : Bool) (b1_0 b1_1 b1_2 b1_3 : Int) (r : Bool) (h : Dimpl_PlaneOk_0 n t24 b1_0 b1_1 b1_2 b1_3 = some r) : Wk Tryz.prog H Y 131 [.code (cp [1, 0, 1] (bodyOf Tryz.f131)), .code (cp [1, 1] (bodyOf Tryz.f131))] (FinX Tryz.prog Tryz.f131 [] (bl r) []) ⟨[(1, .ptr 1 0), (24, bl t24)], [(1, ⟨true, 0, [i64 b1_0, i64 b1_1, i64 b1_2, i64 b1_3]⟩)]⟩ := by
  unfold Dimpl_PlaneOk_0 at h
  refine x_frk 0 [] onil h (by kernel_rfl) (fun h => ?_) (fun h => ?_)
  · replace h := Option.some.inj h; subst h
    exact x_end 4 [] [] onil onil (by kernel_rfl)
  · refine x_frk 7 [] onil h (by kernel_rfl) (fun h => ?_) (fun h => ?_)
    · obtain ⟨v4, hv4, h⟩ := bind_some h
      replace h := Option.some.inj h; subst h
      exact x_end 24 [(19, .call [] [(eInt).f [b1_0, b1_1, b1_2, b1_3]] (i64 v4) [])] [] (ocons (Timpl_divisor (Y := Y) n [b1_0, b1_1, b1_2, b1_3] _ hv4) (ocons (len_row (L := [b1_0, b1_1, b1_2, b1_3]) eInt) (ocons (Enc.share eInt eInt sInt [b1_0, b1_1, b1_2, b1_3]) onil))) onil (by kernel_rfl)
    · refine x_frk 5 [] onil h (by kernel_rfl) (fun h => ?_) (fun h => ?_)
      · obtain ⟨v5, hv5, h⟩ := bind_some h
        replace h := Option.some.inj h; subst h
        exact x_end 19 [(14, .call [] [(eInt).f [b1_0, b1_1, b1_2, b1_3]] (i64 v5) [])] [] (ocons (Timpl_divisor (Y := Y) n [b1_0, b1_1, b1_2, b1_3] _ hv5) (ocons (len_row (L := [b1_0, b1_1, b1_2, b1_3]) eInt) (ocons (Enc.share eInt eInt sInt [b1_0, b1_1, b1_2, b1_3]) onil))) onil (by kernel_rfl)
      · refine x_frk 5 [] onil h (by kernel_rfl) (fun h => ?_) (fun h => ?_)
        · obtain ⟨v6, hv6, h⟩ := bind_some h
          replace h := Option.some.inj h; subst h
          exact x_end 14 [(9, .call [] [(eInt).f [b1_0, b1_1, b1_2, b1_3]] (i64 v6) [])] [] (ocons (Timpl_divisor (Y := Y) n [b1_0, b1_1, b1_2, b1_3] _ hv6) (ocons (len_row (L := [b1_0, b1_1, b1_2, b1_3]) eInt) (ocons (Enc.share eInt eInt sInt [b1_0, b1_1, b1_2, b1_3]) onil))) onil (by kernel_rfl)
        · replace h := Option.some.inj h; subst h
          exact x_end 14 [] [] onil onil (by kernel_rfl)
def Dimpl_PlaneOk (n : Nat) (a0 : Pl) : Option Bool :=
  (Dimpl_isCoef a0.A).bind fun v0 => frk (!v0) (some false) ((Dimpl_isCoef a0.B).bind fun v1 => frk (!v1) (some false) ((Dimpl_isCoef a0.C).bind fun v2 => frk (!v2) (some false) ((Dimpl_isCoef a0.D).bind fun v3 => Dimpl_PlaneOk_0 n (!v3) a0.A a0.B a0.C a0.D)))
theorem Timpl_PlaneOk {Y} (n : Nat) (a0 : Pl) (r : Bool) (h : Dimpl_PlaneOk n a0 = some r) : Big Tryz.prog H Y (.call 131 [.agg [i64 a0.A, i64 a0.B, i64 a0.C, i64 a0.D]] (lk []) (bl r) (lk [])) := by
  unfold Dimpl_PlaneOk at h
  refine x_call (fn := Tryz.f131) (c := bodyOf Tryz.f131) (bs0 := []) Tryz.func131 (by kernel_rfl) (by kernel_rfl) ?_
  obtain ⟨v0, hv0, h⟩ := bind_some h
  refine x_frk 13 [(4, .call [] [] (bl v0) [])] (ocons (Timpl_isCoef (Y := Y) a0.A _ hv0) onil) h (by kernel_rfl) (fun h => ?_) (fun h => ?_)
  · replace h := Option.some.inj h; subst h
    exact x_end 23 [] [] onil onil (by kernel_rfl)
  · obtain ⟨v1, hv1, h⟩ := bind_some h
    refine x_frk 6 [(2, .call [] [] (bl v1) [])] (ocons (Timpl_isCoef (Y := Y) a0.B _ hv1) onil) h (by kernel_rfl) (fun h => ?_) (fun h => ?_)
    · replace h := Option.some.inj h; subst h
      exact x_end 17 [] [] onil onil (by kernel_rfl)
    · obtain ⟨v2, hv2, h⟩ := bind_some h
      refine x_frk 6 [(2, .call [] [] (bl v2) [])] (ocons (Timpl_isCoef (Y := Y) a0.C _ hv2) onil) h (by kernel_rfl) (fun h => ?_) (fun h => ?_)
      · replace h := Option.some.inj h; subst h
        exact x_end 11 [] [] onil onil (by kernel_rfl)
      · obtain ⟨v3, hv3, h⟩ := bind_some h
        exact x_to 6 [(2, .call [] [] (bl v3) [])] (ocons (Timpl_isCoef (Y := Y) a0.D _ hv3) onil) (Timpl_PlaneOk_0 n (!v3) a0.A a0.B a0.C a0.D r h) (by kernel_rfl)
/-! impl.flip -/
def Dimpl_flip (a0 : Pl) : Option Pl :=
  some (Pl.mk (w64 (0 - a0.A)) (w64 (0 - a0.B)) (w64 (0 - a0.C)) (w64 (0 - a0.D)))
theorem Timpl_flip {Y} (a0 : Pl) (r : Pl) (h : Dimpl_flip a0 = some r) : Big Tryz.prog H Y (.call 127 [.agg [i64 a0.A, i64 a0.B, i64 a0.C, i64 a0.D]] (lk []) (.agg [i64 r.A, i64 r.B, i64 r.C, i64 r.D]) (lk [])) := by
  unfold Dimpl_flip at h
  refine x_call (fn := Tryz.f127) (c := bodyOf Tryz.f127) (bs0 := []) Tryz.func127 (by kernel_rfl) (by kernel_rfl) ?_
  replace h := Option.some.inj h; subst h
  exact x_end 22 [] [] onil onil (by kernel_rfl)
/-! impl.normal -/
def Dimpl_normal (a0 : Pl) : Option (Int × Int × Int) :=
  some (a0.A, a0.B, a0.C)
theorem Timpl_normal {Y} (a0 : Pl) (r : (Int × Int × Int)) (h : Dimpl_normal a0 = some r) : Big Tryz.prog H Y (.call 104 [.agg [i64 a0.A, i64 a0.B, i64 a0.C, i64 a0.D]] (lk []) (.agg [i64 r.1, i64 r.2.1, i64 r.2.2]) (lk [])) := by
  unfold Dimpl_normal at h
  refine x_call (fn := Tryz.f104) (c := bodyOf Tryz.f104) (bs0 := []) Tryz.func104 (by kernel_rfl) (by kernel_rfl) ?_
  replace h := Option.some.inj h; subst h
  exact x_end 16 [] [] onil onil (by kernel_rfl)
/-! impl.crossOf -/
def Dimpl_crossOf (a0 : (Int × Int × Int)) (a1 : (Int × Int × Int)) : Option (Int × Int × Int) :=
  some (w64 ((w64 (a0.2.1 * a1.2.2)) - (w64 (a0.2.2 * a1.2.1))), w64 ((w64 (a0.2.2 * a1.1)) - (w64 (a0.1 * a1.2.2))), w64 ((w64 (a0.1 * a1.2.1)) - (w64 (a0.2.1 * a1.1))))
theorem Timpl_crossOf {Y} (a0 : (Int × Int × Int)) (a1 : (Int × Int × Int)) (r : (Int × Int × Int)) (h : Dimpl_crossOf a0 a1 = some r) : Big Tryz.prog H Y (.call 103 [.agg [i64 a0.1, i64 a0.2.1, i64 a0.2.2], .agg [i64 a1.1, i64 a1.2.1, i64 a1.2.2]] (lk []) (.agg [i64 r.1, i64 r.2.1, i64 r.2.2]) (lk [])) := by
  unfold Dimpl_crossOf at h
  refine x_call (fn := Tryz.f103) (c := bodyOf Tryz.f103) (bs0 := []) Tryz.func103 (by kernel_rfl) (by kernel_rfl) ?_
  replace h := Option.some.inj h; subst h
  exact x_end 44 [] [] onil onil (by kernel_rfl)
/-! impl.dot -/
def Dimpl_dot (a0 : (Int × Int × Int)) (a1 : (Int × Int × Int)) : Option Int :=
  some (w64 ((w64 ((w64 (a0.1 * a1.1)) + (w64 (a0.2.1 * a1.2.1)))) + (w64 (a0.2.2 * a1.2.2))))
theorem Timpl_dot {Y} (a0 : (Int × Int × Int)) (a1 : (Int × Int × Int)) (r : Int) (h : Dimpl_dot a0 a1 = some r) : Big Tryz.prog H Y (.call 164 [.agg [i64 a0.1, i64 a0.2.1, i64 a0.2.2], .agg [i64 a1.1, i64 a1.2.1, i64 a1.2.2]] (lk []) (i64 r) (lk [])) := by
  unfold Dimpl_dot at h
  refine x_call (fn := Tryz.f164) (c := bodyOf Tryz.f164) (bs0 := []) Tryz.func164 (by kernel_rfl) (by kernel_rfl) ?_
  replace h := Option.some.inj h; subst h
  exact x_end 27 [] [] onil onil (by kernel_rfl)
/-! cmp.isNaN[int] -/
def Dcmp_isNaN (a0 : Int) : Option Bool :=
  some (a0 != a0)
theorem Tcmp_isNaN {Y} (a0 : Int) (r : Bool) (h : Dcmp_isNaN a0 = some r) : Big Tryz.prog H Y (.call 204 [i64 a0] (lk []) (bl r) (lk [])) := by
  unfold Dcmp_isNaN at h
  refine x_call (fn := Tryz.f204) (c := bodyOf Tryz.f204) (bs0 := []) Tryz.func204 (by kernel_rfl) (by kernel_rfl) ?_
  replace h := Option.some.inj h; subst h
  exact x_end 11 [] [] onil onil (by kernel_rfl)
/-! cmp.Compare[int] -/
def Dcmp_Compare (a0 a1 : Int) : Option Int :=
  (Dcmp_isNaN a0).bind fun v0 => (Dcmp_isNaN a1).bind fun v1 => frk v0 (frk v1 (some 0) (some (-1))) (frk v1 (some 1) (frk (decide (a0 < a1)) (some (-1)) (frk (decide (a0 > a1)) (some 1) (some 0))))
theorem Tcmp_Compare {Y} (a0 a1 r : Int) (h : Dcmp_Compare a0 a1 = some r) : Big Tryz.prog H Y (.call 169 [i64 a0, i64 a1] (lk []) (i64 r) (lk [])) := by
  unfold Dcmp_Compare at h
  refine x_call (fn := Tryz.f169) (c := bodyOf Tryz.f169) (bs0 := []) Tryz.func169 (by kernel_rfl) (by kernel_rfl) ?_
  obtain ⟨v0, hv0, h⟩ := bind_some h
  obtain ⟨v1, hv1, h⟩ := bind_some h
  refine x_frk 21 [(2, .call [] [] (bl v0) []), (2, .call [] [] (bl v1) [])] (ocons (Tcmp_isNaN (Y := Y) a0 _ hv0) (ocons (Tcmp_isNaN (Y := Y) a1 _ hv1) onil)) h (by kernel_rfl) (fun h => ?_) (fun h => ?_)
  · refine x_frk 5 [] onil h (by kernel_rfl) (fun h => ?_) (fun h => ?_)
    · replace h := Option.some.inj h; subst h
      exact x_end 4 [] [] onil onil (by kernel_rfl)
    · replace h := Option.some.inj h; subst h
      exact x_end 5 [] [] onil onil (by kernel_rfl)
  · refine x_frk 6 [] onil h (by kernel_rfl) (fun h => ?_) (fun h => ?_)
    · replace h := Option.some.inj h; subst h
      exact x_end 4 [] [] onil onil (by kernel_rfl)
    · refine x_frk 8 [] onil h (by kernel_rfl) (fun h => ?_) (fun h => ?_)
      · replace h := Option.some.inj h; subst h
        exact x_end 4 [] [] onil onil (by kernel_rfl)
      · refine x_frk 8 [] onil h (by kernel_rfl) (fun h => ?_) (fun h => ?_)
        · replace h := Option.some.inj h; subst h
          exact x_end 4 [] [] onil onil (by kernel_rfl)
        · replace h := Option.some.inj h; subst h
          exact x_end 5 [] [] onil onil (by kernel_rfl)
/-! impl.sign -/
def Dimpl_sign (a0 : Int) : Option Int :=
  (Dcmp_Compare a0 0).bind fun v0 => some v0
theorem Timpl_sign {Y} (a0 r : Int) (h : Dimpl_sign a0 = some r) : Big Tryz.prog H Y (.call 189 [i64 a0] (lk []) (i64 r) (lk [])) := by
  unfold Dimpl_sign at h
  refine x_call (fn := Tryz.f189) (c := bodyOf Tryz.f189) (bs0 := []) Tryz.func189 (by kernel_rfl) (by kernel_rfl) ?_
  obtain ⟨v0, hv0, h⟩ := bind_some h
  replace h := Option.some.inj h; subst h
  exact x_end 10 [(2, .call [] [] (i64 v0) [])] [] (ocons (Tcmp_Compare (Y := Y) a0 0 _ hv0) onil) onil (by kernel_rfl)
/-! impl.parallel -/
def Dimpl_parallel (a0 : Pl) (a1 : Pl) : Option Int :=
  (Dimpl_normal a0).bind fun v0 => (Dimpl_normal a1).bind fun v1 => (Dimpl_crossOf v0 v1).bind fun v2 => frk (!(v2.1 == 0 && (v2.2.1 == 0 && (v2.2.2 == 0 && true)))) (some 0) ((Dimpl_normal a0).bind fun v3 => (Dimpl_normal a1).bind fun v4 => (Dimpl_dot v3 v4).bind fun v5 => (Dimpl_sign v5).bind fun v6 => some v6)
theorem Timpl_parallel {Y} (a0 : Pl) (a1 : Pl) (r : Int) (h : Dimpl_parallel a0 a1 = some r) : Big Tryz.prog H Y (.call 215 [.agg [i64 a0.A, i64 a0.B, i64 a0.C, i64 a0.D], .agg [i64 a1.A, i64 a1.B, i64 a1.C, i64 a1.D]] (lk []) (i64 r) (lk [])) := by
  unfold Dimpl_parallel at h
  refine x_call (fn := Tryz.f215) (c := bodyOf Tryz.f215) (bs0 := []) Tryz.func215 (by kernel_rfl) (by kernel_rfl) ?_
  obtain ⟨v0, hv0, h⟩ := bind_some h
  obtain ⟨v1, hv1, h⟩ := bind_some h
  obtain ⟨v2, hv2, h⟩ := bind_some h
  refine x_frk 17 [(4, .call [] [] (.agg [i64 v0.1, i64 v0.2.1, i64 v0.2.2]) []), (1, .call [] [] (.agg [i64 v1.1, i64 v1.2.1, i64 v1.2.2]) []), (0, .call [] [] (.agg [i64 v2.1, i64 v2.2.1, i64 v2.2.2]) [])] (ocons (Timpl_normal (Y := Y) a0 _ hv0) (ocons (Timpl_normal (Y := Y) a1 _ hv1) (ocons (Timpl_crossOf (Y := Y) v0 v1 _ hv2) onil))) h (by kernel_rfl) (fun h => ?_) (fun h => ?_)
  · replace h := Option.some.inj h; subst h
    exact x_end 4 [] [] onil onil (by kernel_rfl)
  · obtain ⟨v3, hv3, h⟩ := bind_some h
    obtain ⟨v4, hv4, h⟩ := bind_some h
    obtain ⟨v5, hv5, h⟩ := bind_some h
    obtain ⟨v6, hv6, h⟩ := bind_some h
    replace h := Option.some.inj h; subst h
    exact x_end 11 [(1, .call [] [] (.agg [i64 v3.1, i64 v3.2.1, i64 v3.2.2]) []), (1, .call [] [] (.agg [i64 v4.1, i64 v4.2.1, i64 v4.2.2]) []), (0, .call [] [] (i64 v5) []), (0, .call [] [] (i64 v6) [])] [] (ocons (Timpl_normal (Y := Y) a0 _ hv3) (ocons (Timpl_normal (Y := Y) a1 _ hv4) (ocons (Timpl_dot (Y := Y) v3 v4 _ hv5) (ocons (Timpl_sign (Y := Y) v5 _ hv6) onil)))) onil (by kernel_rfl)
/-! impl.clash2 -/
def Dimpl_clash2 (_n : Nat) (a0 : Pl) (a1 : Pl) : Option Bool :=
  (Dimpl_parallel a0 a1).bind fun v0 => frk (decide (v0 ≥ 0)) (some false) ((Dimpl_normal a0).bind fun v1 => (Dimpl_normal a1).bind fun v2 => frk (v1.1 != 0) (some (decide ((w64 ((w64 (a0.D * (maxN v2.1 [w64 (0 - v2.1)]))) + (w64 (a1.D * (maxN v1.1 [w64 (0 - v1.1)]))))) ≤ 0))) (frk (v1.2.1 != 0) (some (decide ((w64 ((w64 (a0.D * (maxN v2.2.1 [w64 (0 - v2.2.1)]))) + (w64 (a1.D * (maxN v1.2.1 [w64 (0 - v1.2.1)]))))) ≤ 0))) (frk (v1.2.2 != 0) (some (decide ((w64 ((w64 (a0.D * (maxN v2.2.2 [w64 (0 - v2.2.2)]))) + (w64 (a1.D * (maxN v1.2.2 [w64 (0 - v1.2.2)]))))) ≤ 0))) (some false))))
theorem Timpl_clash2 {Y} (n : Nat) (a0 : Pl) (a1 : Pl) (r : Bool) (h : Dimpl_clash2 n a0 a1 = some r) : Big Tryz.prog H Y (.call 180 [.agg [i64 a0.A, i64 a0.B, i64 a0.C, i64 a0.D], .agg [i64 a1.A, i64 a1.B, i64 a1.C, i64 a1.D]] (lk []) (bl r) (lk [])) := by
  unfold Dimpl_clash2 at h
  refine x_call (fn := Tryz.f180) (c := bodyOf Tryz.f180) (bs0 := []) Tryz.func180 (by kernel_rfl) (by kernel_rfl) ?_
  obtain ⟨v0, hv0, h⟩ := bind_some h
  refine x_frk 14 [(5, .call [] [] (i64 v0) [])] (ocons (Timpl_parallel (Y := Y) a0 a1 _ hv0) onil) h (by kernel_rfl) (fun h => ?_) (fun h => ?_)
  · replace h := Option.some.inj h; subst h
    exact x_end 4 [] [] onil onil (by kernel_rfl)
  · obtain ⟨v1, hv1, h⟩ := bind_some h
    obtain ⟨v2, hv2, h⟩ := bind_some h
    refine x_frk 40 [(1, .call [] [] (.agg [i64 v1.1, i64 v1.2.1, i64 v1.2.2]) []), (1, .call [] [] (.agg [i64 v2.1, i64 v2.2.1, i64 v2.2.2]) [])] (ocons (Timpl_normal (Y := Y) a0 _ hv1) (ocons (Timpl_normal (Y := Y) a1 _ hv2) onil)) h (by kernel_rfl) (fun h => ?_) (fun h => ?_)
    · replace h := Option.some.inj h; subst h
      exact x_end 28 [(9, .val (.lit (.int .i64 (maxN v2.1 [w64 (0 - v2.1)])))), (10, .val (.lit (.int .i64 (maxN v1.1 [w64 (0 - v1.1)]))))] [] (ocons (maxNok .i64 [w64 (0 - v2.1)] v2.1) (ocons (maxNok .i64 [w64 (0 - v1.1)] v1.1) onil)) onil (by kernel_rfl)
    · refine x_frk 29 [] onil h (by kernel_rfl) (fun h => ?_) (fun h => ?_)
      · replace h := Option.some.inj h; subst h
        exact x_end 28 [(9, .val (.lit (.int .i64 (maxN v2.2.1 [w64 (0 - v2.2.1)])))), (10, .val (.lit (.int .i64 (maxN v1.2.1 [w64 (0 - v1.2.1)]))))] [] (ocons (maxNok .i64 [w64 (0 - v2.2.1)] v2.2.1) (ocons (maxNok .i64 [w64 (0 - v1.2.1)] v1.2.1) onil)) onil (by kernel_rfl)
      · refine x_frk 29 [] onil h (by kernel_rfl) (fun h => ?_) (fun h => ?_)
        · replace h := Option.some.inj h; subst h
          exact x_end 28 [(9, .val (.lit (.int .i64 (maxN v2.2.2 [w64 (0 - v2.2.2)])))), (10, .val (.lit (.int .i64 (maxN v1.2.2 [w64 (0 - v1.2.2)]))))] [] (ocons (maxNok .i64 [w64 (0 - v2.2.2)] v2.2.2) (ocons (maxNok .i64 [w64 (0 - v1.2.2)] v1.2.2) onil)) onil (by kernel_rfl)
        · replace h := Option.some.inj h; subst h
          exact x_end 19 [] [] onil onil (by kernel_rfl)
/-! impl.det -/
def Dimpl_det (a0 : (Int × Int × Int)) (a1 : (Int × Int × Int)) (a2 : (Int × Int × Int)) : Option Int :=
  (Dimpl_crossOf a1 a2).bind fun v0 => (Dimpl_dot a0 v0).bind fun v1 => some v1
theorem Timpl_det {Y} (a0 : (Int × Int × Int)) (a1 : (Int × Int × Int)) (a2 : (Int × Int × Int)) (r : Int) (h : Dimpl_det a0 a1 a2 = some r) : Big Tryz.prog H Y (.call 163 [.agg [i64 a0.1, i64 a0.2.1, i64 a0.2.2], .agg [i64 a1.1, i64 a1.2.1, i64 a1.2.2], .agg [i64 a2.1, i64 a2.2.1, i64 a2.2.2]] (lk []) (i64 r) (lk [])) := by
  unfold Dimpl_det at h
  refine x_call (fn := Tryz.f163) (c := bodyOf Tryz.f163) (bs0 := []) Tryz.func163 (by kernel_rfl) (by kernel_rfl) ?_
  obtain ⟨v0, hv0, h⟩ := bind_some h
  obtain ⟨v1, hv1, h⟩ := bind_some h
  replace h := Option.some.inj h; subst h
  exact x_end 16 [(7, .call [] [] (.agg [i64 v0.1, i64 v0.2.1, i64 v0.2.2]) []), (0, .call [] [] (i64 v1) [])] [] (ocons (Timpl_crossOf (Y := Y) a1 a2 _ hv0) (ocons (Timpl_dot (Y := Y) a0 v0 _ hv1) onil)) onil (by kernel_rfl)
/-! impl.weighs -/
def Dimpl_weighs_0 (_n : Nat) (rec0 : (Int × Int) → Option Bool) (t1 : List Int) (_t5 : Int) (_t13 : List Int) (_t14 t6 t7 t8 t15 : Int) (t27 : Bool) : Option Bool :=
  frk t27 (some false) ((lget t1 t7).bind fun v4 => rec0 (w64 (t6 + (w64 (t8 * v4))), w64 (t15 + 1)))
theorem Timpl_weighs_0 {Y} (n : Nat) (rec0 : (Int × Int) → Option Bool) (t1 : List Int) (t5 : Int) (t13 : List Int) (t14 : Int) (hrec0 : ∀ (a : (Int × Int)) (r : Bool), rec0 a = some r → Wk Tryz.prog H Y 216 [.code (cp [1, 1, 1, 0, 1, 0] (bodyOf Tryz.f216)), .blk 0, .code (cp [1, 1, 1, 1] (bodyOf Tryz.f216))] (FinX Tryz.prog Tryz.f216 [] (bl r) []) ⟨[(1, .sl false 1 t1.length ((eInt).f t1)), (5, i64 t5), (6, i64 a.1), (13, .sl false 1 t13.length ((eInt).f t13)), (14, i64 t14), (15, i64 a.2)], []⟩) (t6 t7 t8 t15 : Int) (t27 r : Bool) (h : Dimpl_weighs_0 n rec0 t1 t5 t13 t14 t6 t7 t8 t15 t27 = some r) : Wk Tryz.prog H Y 216 [.code (cp [1, 1, 1, 0, 1, 0, 0, 1, 1, 0, 0, 1, 0, 1] (bodyOf Tryz.f216)), .code (cp [1, 1, 1, 0, 1, 0, 0, 1, 1, 0, 0, 1, 1] (bodyOf Tryz.f216)), .blk 1, .code (cp [1, 1, 1, 0, 1, 0, 0, 1, 1, 1] (bodyOf Tryz.f216)), .lp (cp [1, 1, 1, 0, 1, 0] (bodyOf Tryz.f216)), .blk 0, .code (cp [1, 1, 1, 1] (bodyOf Tryz.f216))] (FinX Tryz.prog Tryz.f216 [] (bl r) []) ⟨[(1, .sl false 1 t1.length ((eInt).f t1)), (5, i64 t5), (6, i64 t6), (7, i64 t7), (8, i64 t8), (13, .sl false 1 t13.length ((eInt).f t13)), (14, i64 t14), (15, i64 t15), (27, bl t27)], []⟩ := by
  unfold Dimpl_weighs_0 at h
  refine x_frk 0 [] onil h (by kernel_rfl) (fun h => ?_) (fun h => ?_)
  · replace h := Option.some.inj h; subst h
    exact x_end 4 [] [] onil onil (by kernel_rfl)
  · obtain ⟨v4, hv4, h⟩ := bind_some h
    exact x_to 18 [(4, .val (.cptr (eInt.c v4 ++ (eInt).f ((t1).drop (Int.toNat t7 + 1)))))] (ocons (ix eInt hv4) onil) (hrec0 (w64 (t6 + (w64 (t8 * v4))), w64 (t15 + 1)) r h) (by kernel_rfl)
def Dimpl_weighs_1 (n : Nat) (t1 : List Int) (t5 : Int) (t13 : List Int) (t14 : Int) (rec0 : (Int × Int) → Option Bool) (a : (Int × Int)) : Option Bool :=
  match a with
  | (t6, t15) => frk (decide (t15 < t14)) ((lget t13 t15).bind fun v2 => frk (t5 == 0) (some false) ((Dimpl_sign v2).bind fun v3 => Dimpl_weighs_0 n rec0 t1 t5 t13 t14 t6 t15 v2 t15 (v3 != t5))) (some (decide ((w64 (t6 * t5)) ≤ 0)))
theorem Timpl_weighs_1 {Y} (n : Nat) (t1 : List Int) (t5 : Int) (t13 : List Int) (t14 : Int) : ∀ (m : Nat) (a : (Int × Int)) (r : Bool), loopN (Dimpl_weighs_1 n t1 t5 t13 t14) m a = some r → Wk Tryz.prog H Y 216 [.code (cp [1, 1, 1, 0, 1, 0] (bodyOf Tryz.f216)), .blk 0, .code (cp [1, 1, 1, 1] (bodyOf Tryz.f216))] (FinX Tryz.prog Tryz.f216 [] (bl r) []) ⟨[(1, .sl false 1 t1.length ((eInt).f t1)), (5, i64 t5), (6, i64 a.1), (13, .sl false 1 t13.length ((eInt).f t13)), (14, i64 t14), (15, i64 a.2)], []⟩ := by
  refine loopN_ind (fun rec0 hrec0 a r h => ?_)
  obtain ⟨t6, t15⟩ := a
  unfold Dimpl_weighs_1 at h
  refine x_frk 6 [] onil h (by kernel_rfl) (fun h => ?_) (fun h => ?_)
  · obtain ⟨v2, hv2, h⟩ := bind_some h
    refine x_frk 17 [(1, .val (.cptr (eInt.c v2 ++ (eInt).f ((t13).drop (Int.toNat t15 + 1)))))] (ocons (ix eInt hv2) onil) h (by kernel_rfl) (fun h => ?_) (fun h => ?_)
    · replace h := Option.some.inj h; subst h
      exact x_end 11 [] [] onil onil (by kernel_rfl)
    · obtain ⟨v3, hv3, h⟩ := bind_some h
      exact x_to 6 [(1, .call [] [] (i64 v3) [])] (ocons (Timpl_sign (Y := Y) v2 _ hv3) onil) (Timpl_weighs_0 n rec0 t1 t5 t13 t14 hrec0 t6 t15 v2 t15 (v3 != t5) r h) (by kernel_rfl)
  · replace h := Option.some.inj h; subst h
    exact x_end 9 [] [] onil onil (by kernel_rfl)
def Dimpl_weighs (n : Nat) (a0 : (List Int)) (a1 : (List Int)) : Option Bool :=
  (lget a0 0).bind fun v0 => (Dimpl_sign v0).bind fun v1 => loopN (Dimpl_weighs_1 n a1 v1 a0 (a0.length : Int)) n (0, 0)
theorem Timpl_weighs {Y} (n : Nat) (a0 : (List Int)) (a1 : (List Int)) (r : Bool) (h : Dimpl_weighs n a0 a1 = some r) : Big Tryz.prog H Y (.call 216 [.sl false 1 a0.length ((eInt).f a0), .sl false 1 a1.length ((eInt).f a1)] (lk []) (bl r) (lk [])) := by
  unfold Dimpl_weighs at h
  refine x_call (fn := Tryz.f216) (c := bodyOf Tryz.f216) (bs0 := []) Tryz.func216 (by kernel_rfl) (by kernel_rfl) ?_
  obtain ⟨v0, hv0, h⟩ := bind_some h
  obtain ⟨v1, hv1, h⟩ := bind_some h
  exact x_to 24 [(2, .val (.cptr (eInt.c v0 ++ (eInt).f ((a0).drop (Int.toNat 0 + 1))))), (1, .call [] [] (i64 v1) [])] (ocons (ix eInt hv0) (ocons (Timpl_sign (Y := Y) v0 _ hv1) onil)) (Timpl_weighs_1 n a1 v1 a0 (a0.length : Int) n (0, 0) r h) (by kernel_rfl)
/-! impl.clash3 -/
def Dimpl_clash3 (n : Nat) (a0 : Pl) (a1 : Pl) (a2 : Pl) : Option Bool :=
  (Dimpl_normal a0).bind fun v0 => (Dimpl_normal a1).bind fun v1 => (Dimpl_normal a2).bind fun v2 => (Dimpl_det v0 v1 v2).bind fun v3 => frk (v3 != 0) (some false) ((Dimpl_crossOf v0 v1).bind fun v4 => (Dimpl_crossOf v1 v2).bind fun v5 => (Dimpl_dot v5 v4).bind fun v6 => (Dimpl_crossOf v2 v0).bind fun v7 => (Dimpl_dot v7 v4).bind fun v8 => (Dimpl_dot v4 v4).bind fun v9 => (Dimpl_weighs n [v6, v8, v9] [a0.D, a1.D, a2.D]).bind fun v10 => some v10)
theorem Timpl_clash3 {Y} (n : Nat) (a0 : Pl) (a1 : Pl) (a2 : Pl) (r : Bool) (h : Dimpl_clash3 n a0 a1 a2 = some r) : Big Tryz.prog H Y (.call 181 [.agg [i64 a0.A, i64 a0.B, i64 a0.C, i64 a0.D], .agg [i64 a1.A, i64 a1.B, i64 a1.C, i64 a1.D], .agg [i64 a2.A, i64 a2.B, i64 a2.C, i64 a2.D]] (lk []) (bl r) (lk [])) := by
  unfold Dimpl_clash3 at h
  refine x_call (fn := Tryz.f181) (c := bodyOf Tryz.f181) (bs0 := []) Tryz.func181 (by kernel_rfl) (by kernel_rfl) ?_
  obtain ⟨v0, hv0, h⟩ := bind_some h
  obtain ⟨v1, hv1, h⟩ := bind_some h
  obtain ⟨v2, hv2, h⟩ := bind_some h
  obtain ⟨v3, hv3, h⟩ := bind_some h
  refine x_frk 31 [(5, .call [] [] (.agg [i64 v0.1, i64 v0.2.1, i64 v0.2.2]) []), (1, .call [] [] (.agg [i64 v1.1, i64 v1.2.1, i64 v1.2.2]) []), (1, .call [] [] (.agg [i64 v2.1, i64 v2.2.1, i64 v2.2.2]) []), (9, .call [] [] (i64 v3) [])] (ocons (Timpl_normal (Y := Y) a0 _ hv0) (ocons (Timpl_normal (Y := Y) a1 _ hv1) (ocons (Timpl_normal (Y := Y) a2 _ hv2) (ocons (Timpl_det (Y := Y) v0 v1 v2 _ hv3) onil)))) h (by kernel_rfl) (fun h => ?_) (fun h => ?_)
  · replace h := Option.some.inj h; subst h
    exact x_end 4 [] [] onil onil (by kernel_rfl)
  · obtain ⟨v4, hv4, h⟩ := bind_some h
    obtain ⟨v5, hv5, h⟩ := bind_some h
    obtain ⟨v6, hv6, h⟩ := bind_some h
    obtain ⟨v7, hv7, h⟩ := bind_some h
    obtain ⟨v8, hv8, h⟩ := bind_some h
    obtain ⟨v9, hv9, h⟩ := bind_some h
    obtain ⟨v10, hv10, h⟩ := bind_some h
    replace h := Option.some.inj h; subst h
    exact x_end 35 [(2, .call [] [] (.agg [i64 v4.1, i64 v4.2.1, i64 v4.2.2]) []), (4, .call [] [] (.agg [i64 v5.1, i64 v5.2.1, i64 v5.2.2]) []), (1, .call [] [] (i64 v6) []), (2, .call [] [] (.agg [i64 v7.1, i64 v7.2.1, i64 v7.2.2]) []), (1, .call [] [] (i64 v8) []), (2, .call [] [] (i64 v9) []), (8, .call [] [(eInt).f [a0.D, a1.D, a2.D], (eInt).f [v6, v8, v9]] (bl v10) [])] [] (ocons (Timpl_crossOf (Y := Y) v0 v1 _ hv4) (ocons (Timpl_crossOf (Y := Y) v1 v2 _ hv5) (ocons (Timpl_dot (Y := Y) v5 v4 _ hv6) (ocons (Timpl_crossOf (Y := Y) v2 v0 _ hv7) (ocons (Timpl_dot (Y := Y) v7 v4 _ hv8) (ocons (Timpl_dot (Y := Y) v4 v4 _ hv9) (ocons (Timpl_weighs (Y := Y) n [v6, v8, v9] [a0.D, a1.D, a2.D] _ hv10) (ocons (len_row (L := [v6, v8, v9]) eInt) (ocons (Enc.share eInt eInt sInt [v6, v8, v9]) (ocons (len_row (L := [a0.D, a1.D, a2.D]) eInt) (ocons (Enc.share eInt eInt sInt [a0.D, a1.D, a2.D]) onil))))))))))) onil (by kernel_rfl)
/-! impl.det3 -/
def Dimpl_det3 (a0 : Pl) (a1 : Pl) (a2 : Pl) : Option Int :=
  (Dimpl_normal a0).bind fun v0 => (Dimpl_normal a1).bind fun v1 => (Dimpl_normal a2).bind fun v2 => (Dimpl_det v0 v1 v2).bind fun v3 => some v3
theorem Timpl_det3 {Y} (a0 : Pl) (a1 : Pl) (a2 : Pl) (r : Int) (h : Dimpl_det3 a0 a1 a2 = some r) : Big Tryz.prog H Y (.call 165 [.agg [i64 a0.A, i64 a0.B, i64 a0.C, i64 a0.D], .agg [i64 a1.A, i64 a1.B, i64 a1.C, i64 a1.D], .agg [i64 a2.A, i64 a2.B, i64 a2.C, i64 a2.D]] (lk []) (i64 r) (lk [])) := by
  unfold Dimpl_det3 at h
  refine x_call (fn := Tryz.f165) (c := bodyOf Tryz.f165) (bs0 := []) Tryz.func165 (by kernel_rfl) (by kernel_rfl) ?_
  obtain ⟨v0, hv0, h⟩ := bind_some h
  obtain ⟨v1, hv1, h⟩ := bind_some h
  obtain ⟨v2, hv2, h⟩ := bind_some h
  obtain ⟨v3, hv3, h⟩ := bind_some h
  replace h := Option.some.inj h; subst h
  exact x_end 18 [(5, .call [] [] (.agg [i64 v0.1, i64 v0.2.1, i64 v0.2.2]) []), (1, .call [] [] (.agg [i64 v1.1, i64 v1.2.1, i64 v1.2.2]) []), (1, .call [] [] (.agg [i64 v2.1, i64 v2.2.1, i64 v2.2.2]) []), (0, .call [] [] (i64 v3) [])] [] (ocons (Timpl_normal (Y := Y) a0 _ hv0) (ocons (Timpl_normal (Y := Y) a1 _ hv1) (ocons (Timpl_normal (Y := Y) a2 _ hv2) (ocons (Timpl_det (Y := Y) v0 v1 v2 _ hv3) onil)))) onil (by kernel_rfl)
/-! impl.clash4 -/
def Dimpl_clash4 (n : Nat) (a0 : Pl) (a1 : Pl) (a2 : Pl) (a3 : Pl) : Option Bool :=
  (Dimpl_det3 a1 a2 a3).bind fun v0 => (Dimpl_det3 a0 a2 a3).bind fun v1 => (Dimpl_det3 a0 a1 a3).bind fun v2 => (Dimpl_det3 a0 a1 a2).bind fun v3 => (Dimpl_weighs n [v0, w64 (0 - v1), v2, w64 (0 - v3)] [a0.D, a1.D, a2.D, a3.D]).bind fun v4 => some v4
theorem Timpl_clash4 {Y} (n : Nat) (a0 : Pl) (a1 : Pl) (a2 : Pl) (a3 : Pl) (r : Bool) (h : Dimpl_clash4 n a0 a1 a2 a3 = some r) : Big Tryz.prog H Y (.call 182 [.agg [i64 a0.A, i64 a0.B, i64 a0.C, i64 a0.D], .agg [i64 a1.A, i64 a1.B, i64 a1.C, i64 a1.D], .agg [i64 a2.A, i64 a2.B, i64 a2.C, i64 a2.D], .agg [i64 a3.A, i64 a3.B, i64 a3.C, i64 a3.D]] (lk []) (bl r) (lk [])) := by
  unfold Dimpl_clash4 at h
  refine x_call (fn := Tryz.f182) (c := bodyOf Tryz.f182) (bs0 := []) Tryz.func182 (by kernel_rfl) (by kernel_rfl) ?_
  obtain ⟨v0, hv0, h⟩ := bind_some h
  obtain ⟨v1, hv1, h⟩ := bind_some h
  obtain ⟨v2, hv2, h⟩ := bind_some h
  obtain ⟨v3, hv3, h⟩ := bind_some h
  obtain ⟨v4, hv4, h⟩ := bind_some h
  replace h := Option.some.inj h; subst h
  exact x_end 46 [(8, .call [] [] (i64 v0) []), (3, .call [] [] (i64 v1) []), (4, .call [] [] (i64 v2) []), (3, .call [] [] (i64 v3) []), (13, .call [] [(eInt).f [a0.D, a1.D, a2.D, a3.D], (eInt).f [v0, w64 (0 - v1), v2, w64 (0 - v3)]] (bl v4) [])] [] (ocons (Timpl_det3 (Y := Y) a1 a2 a3 _ hv0) (ocons (Timpl_det3 (Y := Y) a0 a2 a3 _ hv1) (ocons (Timpl_det3 (Y := Y) a0 a1 a3 _ hv2) (ocons (Timpl_det3 (Y := Y) a0 a1 a2 _ hv3) (ocons (Timpl_weighs (Y := Y) n [v0, w64 (0 - v1), v2, w64 (0 - v3)] [a0.D, a1.D, a2.D, a3.D] _ hv4) (ocons (len_row (L := [v0, w64 (0 - v1), v2, w64 (0 - v3)]) eInt) (ocons (Enc.share eInt eInt sInt [v0, w64 (0 - v1), v2, w64 (0 - v3)]) (ocons (len_row (L := [a0.D, a1.D, a2.D, a3.D]) eInt) (ocons (Enc.share eInt eInt sInt [a0.D, a1.D, a2.D, a3.D]) onil))))))))) onil (by kernel_rfl)
/-! impl.room -/
def Dimpl_room_0 (n : Nat) (rec1 : Int → Option Bool) (_rec0 : Int → Option Bool) (_t13 : Int) (_t23 : List Pl) (_t24 b6_0 b6_1 b6_2 b6_3 : Int) (_t0 : List Pl) (_t11 : List Pl) (_t12 b3_0 b3_1 b3_2 b3_3 t25 : Int) (t36 : List Pl) (t37 b8_0 b8_1 b8_2 b8_3 : Int) (rec2 : Int → Option Bool) (a : Int) : Option Bool :=
  match a with
  | t38 => frk (decide (t38 < t37)) ((lget t36 t38).bind fun v6 => (Dimpl_clash4 n v6 (Pl.mk b8_0 b8_1 b8_2 b8_3) (Pl.mk b6_0 b6_1 b6_2 b6_3) (Pl.mk b3_0 b3_1 b3_2 b3_3)).bind fun v7 => frk v7 (some false) (rec2 (w64 (t38 + 1)))) (rec1 (w64 (t25 + 1)))
theorem Timpl_room_0 {Y} (n : Nat) (rec1 : Int → Option Bool) (rec0 : Int → Option Bool) (t13 : Int) (t23 : List Pl) (t24 b6_0 b6_1 b6_2 b6_3 : Int) (t0 : List Pl) (t11 : List Pl) (t12 b3_0 b3_1 b3_2 b3_3 : Int) (hrec1 : ∀ (a : Int) (r : Bool), rec1 a = some r → Wk Tryz.prog H Y 132 [.code (cp [1, 0, 1, 0, 0, 1, 1, 0, 0, 1, 1, 1, 0] (bodyOf Tryz.f132)), .blk 2, .blk 1, .code (cp [1, 0, 1, 0, 0, 1, 1, 1] (bodyOf Tryz.f132)), .lp (cp [1, 0, 1, 0] (bodyOf Tryz.f132)), .blk 0, .code (cp [1, 1] (bodyOf Tryz.f132))] (FinX Tryz.prog Tryz.f132 [] (bl r) []) ⟨[(0, .sl false 4 t0.length ((ePl).f t0)), (3, .ptr 3 0), (6, .ptr 6 0), (11, .sl false 4 t11.length ((ePl).f t11)), (12, i64 t12), (13, i64 t13), (23, .sl false 4 t23.length ((ePl).f t23)), (24, i64 t24), (25, i64 a)], [(3, ⟨true, 0, [i64 b3_0, i64 b3_1, i64 b3_2, i64 b3_3]⟩), (6, ⟨true, 0, [i64 b6_0, i64 b6_1, i64 b6_2, i64 b6_3]⟩)]⟩) (_hrec0 : ∀ (a : Int) (r : Bool), rec0 a = some r → Wk Tryz.prog H Y 132 [.code (cp [1, 0, 1, 0] (bodyOf Tryz.f132)), .blk 0, .code (cp [1, 1] (bodyOf Tryz.f132))] (FinX Tryz.prog Tryz.f132 [] (bl r) []) ⟨[(0, .sl false 4 t0.length ((ePl).f t0)), (3, .ptr 3 0), (11, .sl false 4 t11.length ((ePl).f t11)), (12, i64 t12), (13, i64 a)], [(3, ⟨true, 0, [i64 b3_0, i64 b3_1, i64 b3_2, i64 b3_3]⟩)]⟩) (t25 : Int) (t36 : List Pl) (t37 b8_0 b8_1 b8_2 b8_3 : Int) : ∀ (m : Nat) (a : Int) (r : Bool), loopN (Dimpl_room_0 n rec1 rec0 t13 t23 t24 b6_0 b6_1 b6_2 b6_3 t0 t11 t12 b3_0 b3_1 b3_2 b3_3 t25 t36 t37 b8_0 b8_1 b8_2 b8_3) m a = some r → Wk Tryz.prog H Y 132 [.code (cp [1, 0, 1, 0, 0, 1, 1, 0, 0, 1, 1, 1, 0, 0, 1, 1, 0, 0, 1, 1, 1, 0] (bodyOf Tryz.f132)), .blk 4, .blk 3, .code (cp [1, 0, 1, 0, 0, 1, 1, 0, 0, 1, 1, 1, 0, 0, 1, 1, 1] (bodyOf Tryz.f132)), .lp (cp [1, 0, 1, 0, 0, 1, 1, 0, 0, 1, 1, 1, 0] (bodyOf Tryz.f132)), .blk 2, .blk 1, .code (cp [1, 0, 1, 0, 0, 1, 1, 1] (bodyOf Tryz.f132)), .lp (cp [1, 0, 1, 0] (bodyOf Tryz.f132)), .blk 0, .code (cp [1, 1] (bodyOf Tryz.f132))] (FinX Tryz.prog Tryz.f132 [] (bl r) []) ⟨[(0, .sl false 4 t0.length ((ePl).f t0)), (3, .ptr 3 0), (6, .ptr 6 0), (8, .ptr 8 0), (11, .sl false 4 t11.length ((ePl).f t11)), (12, i64 t12), (13, i64 t13), (23, .sl false 4 t23.length ((ePl).f t23)), (24, i64 t24), (25, i64 t25), (36, .sl false 4 t36.length ((ePl).f t36)), (37, i64 t37), (38, i64 a)], [(3, ⟨true, 0, [i64 b3_0, i64 b3_1, i64 b3_2, i64 b3_3]⟩), (6, ⟨true, 0, [i64 b6_0, i64 b6_1, i64 b6_2, i64 b6_3]⟩), (8, ⟨true, 0, [i64 b8_0, i64 b8_1, i64 b8_2, i64 b8_3]⟩)]⟩ := by
  refine loopN_ind (fun _rec2 hrec2 a r h => ?_)
  obtain ⟨t38, rfl⟩ : ∃ x, x = a := ⟨a, rfl⟩
  unfold Dimpl_room_0 at h
  refine x_frk 6 [] onil h (by kernel_rfl) (fun h => ?_) (fun h => ?_)
  · obtain ⟨v6, hv6, h⟩ := bind_some h
    obtain ⟨v7, hv7, h⟩ := bind_some h
    refine x_frk 18 [(0, .val (.cptr (ePl.c v6 ++ (ePl).f ((t36).drop (Int.toNat t38 + 1))))), (7, .call [] [] (bl v7) [])] (ocons (ix ePl hv6) (ocons (Timpl_clash4 (Y := Y) n v6 (Pl.mk b8_0 b8_1 b8_2 b8_3) (Pl.mk b6_0 b6_1 b6_2 b6_3) (Pl.mk b3_0 b3_1 b3_2 b3_3) _ hv7) onil)) h (by kernel_rfl) (fun h => ?_) (fun h => ?_)
    · replace h := Option.some.inj h; subst h
      exact x_end 4 [] [] onil onil (by kernel_rfl)
    · exact x_to 7 [] onil (hrec2 (w64 (t38 + 1)) r h) (by kernel_rfl)
  · exact x_to 7 [] onil (hrec1 (w64 (t25 + 1)) r h) (by kernel_rfl)
def Dimpl_room_1 (n : Nat) (rec0 : Int → Option Bool) (t0 : List Pl) (t11 : List Pl) (t12 b3_0 b3_1 b3_2 b3_3 t13 : Int) (t23 : List Pl) (t24 b6_0 b6_1 b6_2 b6_3 : Int) (rec1 : Int → Option Bool) (a : Int) : Option Bool :=
  match a with
  | t25 => frk (decide (t25 < t24)) ((lget t23 t25).bind fun v3 => (Dimpl_clash3 n v3 (Pl.mk b6_0 b6_1 b6_2 b6_3) (Pl.mk b3_0 b3_1 b3_2 b3_3)).bind fun v4 => frk v4 (some false) ((lsl t0 0 t25).bind fun v5 => loopN (Dimpl_room_0 n rec1 rec0 t13 t23 t24 b6_0 b6_1 b6_2 b6_3 t0 t11 t12 b3_0 b3_1 b3_2 b3_3 t25 v5 (v5.length : Int) v3.A v3.B v3.C v3.D) n 0)) (rec0 (w64 (t13 + 1)))
theorem Timpl_room_1 {Y} (n : Nat) (rec0 : Int → Option Bool) (t0 : List Pl) (t11 : List Pl) (t12 b3_0 b3_1 b3_2 b3_3 : Int) (hrec0 : ∀ (a : Int) (r : Bool), rec0 a = some r → Wk Tryz.prog H Y 132 [.code (cp [1, 0, 1, 0] (bodyOf Tryz.f132)), .blk 0, .code (cp [1, 1] (bodyOf Tryz.f132))] (FinX Tryz.prog Tryz.f132 [] (bl r) []) ⟨[(0, .sl false 4 t0.length ((ePl).f t0)), (3, .ptr 3 0), (11, .sl false 4 t11.length ((ePl).f t11)), (12, i64 t12), (13, i64 a)], [(3, ⟨true, 0, [i64 b3_0, i64 b3_1, i64 b3_2, i64 b3_3]⟩)]⟩) (t13 : Int) (t23 : List Pl) (t24 b6_0 b6_1 b6_2 b6_3 : Int) : ∀ (m : Nat) (a : Int) (r : Bool), loopN (Dimpl_room_1 n rec0 t0 t11 t12 b3_0 b3_1 b3_2 b3_3 t13 t23 t24 b6_0 b6_1 b6_2 b6_3) m a = some r → Wk Tryz.prog H Y 132 [.code (cp [1, 0, 1, 0, 0, 1, 1, 0, 0, 1, 1, 1, 0] (bodyOf Tryz.f132)), .blk 2, .blk 1, .code (cp [1, 0, 1, 0, 0, 1, 1, 1] (bodyOf Tryz.f132)), .lp (cp [1, 0, 1, 0] (bodyOf Tryz.f132)), .blk 0, .code (cp [1, 1] (bodyOf Tryz.f132))] (FinX Tryz.prog Tryz.f132 [] (bl r) []) ⟨[(0, .sl false 4 t0.length ((ePl).f t0)), (3, .ptr 3 0), (6, .ptr 6 0), (11, .sl false 4 t11.length ((ePl).f t11)), (12, i64 t12), (13, i64 t13), (23, .sl false 4 t23.length ((ePl).f t23)), (24, i64 t24), (25, i64 a)], [(3, ⟨true, 0, [i64 b3_0, i64 b3_1, i64 b3_2, i64 b3_3]⟩), (6, ⟨true, 0, [i64 b6_0, i64 b6_1, i64 b6_2, i64 b6_3]⟩)]⟩ := by
  refine loopN_ind (fun rec1 hrec1 a r h => ?_)
  obtain ⟨t25, rfl⟩ : ∃ x, x = a := ⟨a, rfl⟩
  unfold Dimpl_room_1 at h
  refine x_frk 6 [] onil h (by kernel_rfl) (fun h => ?_) (fun h => ?_)
  · obtain ⟨v3, hv3, h⟩ := bind_some h
    obtain ⟨v4, hv4, h⟩ := bind_some h
    refine x_frk 20 [(1, .val (.cptr (ePl.c v3 ++ (ePl).f ((t23).drop (Int.toNat t25 + 1))))), (7, .call [] [] (bl v4) [])] (ocons (ix ePl hv3) (ocons (Timpl_clash3 (Y := Y) n v3 (Pl.mk b6_0 b6_1 b6_2 b6_3) (Pl.mk b3_0 b3_1 b3_2 b3_3) _ hv4) onil)) h (by kernel_rfl) (fun h => ?_) (fun h => ?_)
    · replace h := Option.some.inj h; subst h
      exact x_end 4 [] [] onil onil (by kernel_rfl)
    · obtain ⟨v5, hv5, h⟩ := bind_some h
      exact x_to 10 [(2, .val (.sl false 4 v5.length ((ePl).f v5)))] (ocons (slF ePl hv5) onil) (Timpl_room_0 n rec1 rec0 t13 t23 t24 b6_0 b6_1 b6_2 b6_3 t0 t11 t12 b3_0 b3_1 b3_2 b3_3 hrec1 hrec0 t25 v5 (v5.length : Int) v3.A v3.B v3.C v3.D n 0 r h) (by kernel_rfl)
  · exact x_to 7 [] onil (hrec0 (w64 (t13 + 1)) r h) (by kernel_rfl)
def Dimpl_room_2 (n : Nat) (t0 : List Pl) (t11 : List Pl) (t12 b3_0 b3_1 b3_2 b3_3 : Int) (rec0 : Int → Option Bool) (a : Int) : Option Bool :=
  match a with
  | t13 => frk (decide (t13 < t12)) ((lget t11 t13).bind fun v0 => (Dimpl_clash2 n v0 (Pl.mk b3_0 b3_1 b3_2 b3_3)).bind fun v1 => frk v1 (some false) ((lsl t0 0 t13).bind fun v2 => loopN (Dimpl_room_1 n rec0 t0 t11 t12 b3_0 b3_1 b3_2 b3_3 t13 v2 (v2.length : Int) v0.A v0.B v0.C v0.D) n 0)) (some true)
theorem Timpl_room_2 {Y} (n : Nat) (t0 : List Pl) (t11 : List Pl) (t12 b3_0 b3_1 b3_2 b3_3 : Int) : ∀ (m : Nat) (a : Int) (r : Bool), loopN (Dimpl_room_2 n t0 t11 t12 b3_0 b3_1 b3_2 b3_3) m a = some r → Wk Tryz.prog H Y 132 [.code (cp [1, 0, 1, 0] (bodyOf Tryz.f132)), .blk 0, .code (cp [1, 1] (bodyOf Tryz.f132))] (FinX Tryz.prog Tryz.f132 [] (bl r) []) ⟨[(0, .sl false 4 t0.length ((ePl).f t0)), (3, .ptr 3 0), (11, .sl false 4 t11.length ((ePl).f t11)), (12, i64 t12), (13, i64 a)], [(3, ⟨true, 0, [i64 b3_0, i64 b3_1, i64 b3_2, i64 b3_3]⟩)]⟩ := by
  refine loopN_ind (fun rec0 hrec0 a r h => ?_)
  obtain ⟨t13, rfl⟩ : ∃ x, x = a := ⟨a, rfl⟩
  unfold Dimpl_room_2 at h
  refine x_frk 6 [] onil h (by kernel_rfl) (fun h => ?_) (fun h => ?_)
  · obtain ⟨v0, hv0, h⟩ := bind_some h
    obtain ⟨v1, hv1, h⟩ := bind_some h
    refine x_frk 19 [(1, .val (.cptr (ePl.c v0 ++ (ePl).f ((t11).drop (Int.toNat t13 + 1))))), (6, .call [] [] (bl v1) [])] (ocons (ix ePl hv0) (ocons (Timpl_clash2 (Y := Y) n v0 (Pl.mk b3_0 b3_1 b3_2 b3_3) _ hv1) onil)) h (by kernel_rfl) (fun h => ?_) (fun h => ?_)
    · replace h := Option.some.inj h; subst h
      exact x_end 4 [] [] onil onil (by kernel_rfl)
    · obtain ⟨v2, hv2, h⟩ := bind_some h
      exact x_to 10 [(2, .val (.sl false 4 v2.length ((ePl).f v2)))] (ocons (slF ePl hv2) onil) (Timpl_room_1 n rec0 t0 t11 t12 b3_0 b3_1 b3_2 b3_3 hrec0 t13 v2 (v2.length : Int) v0.A v0.B v0.C v0.D n 0 r h) (by kernel_rfl)
  · replace h := Option.some.inj h; subst h
    exact x_end 5 [] [] onil onil (by kernel_rfl)
def Dimpl_room (n : Nat) (a0 : (List Pl)) (a1 : Pl) : Option Bool :=
  loopN (Dimpl_room_2 n a0 a0 (a0.length : Int) a1.A a1.B a1.C a1.D) n 0
theorem Timpl_room {Y} (n : Nat) (a0 : (List Pl)) (a1 : Pl) (r : Bool) (h : Dimpl_room n a0 a1 = some r) : Big Tryz.prog H Y (.call 132 [.sl false 4 a0.length ((ePl).f a0), .agg [i64 a1.A, i64 a1.B, i64 a1.C, i64 a1.D]] (lk []) (bl r) (lk [])) := by
  unfold Dimpl_room at h
  refine x_call (fn := Tryz.f132) (c := bodyOf Tryz.f132) (bs0 := []) Tryz.func132 (by kernel_rfl) (by kernel_rfl) ?_
  exact x_to 13 [] onil (Timpl_room_2 n a0 a0 (a0.length : Int) a1.A a1.B a1.C a1.D n 0 r h) (by kernel_rfl)
/-! impl.with -/
def Dimpl_with (a0 : (List Pl)) (a1 : Pl) : Option (List Pl) :=
  chk (apB 32 (0 + a0.length)) (chk (apB 32 (([] ++ a0).length + 1)) (some (([] ++ a0) ++ [a1])))
theorem Timpl_with {Y} (a0 : (List Pl)) (a1 : Pl) (r : (List Pl)) (h : Dimpl_with a0 a1 = some r) : Big Tryz.prog H Y (.call 126 [.sl false 4 a0.length ((ePl).f a0), .agg [i64 a1.A, i64 a1.B, i64 a1.C, i64 a1.D]] (lk []) (.sl true 4 r.length ((ePl).f r)) (lk [])) := by
  unfold Dimpl_with at h
  refine x_call (fn := Tryz.f126) (c := bodyOf Tryz.f126) (bs0 := []) Tryz.func126 (by kernel_rfl) (by kernel_rfl) ?_
  obtain ⟨c0, h⟩ := chk_some h
  obtain ⟨c1, h⟩ := chk_some h
  replace h := Option.some.inj h; subst h
  exact x_end 15 [(4, .app false (List.length ([] ++ a0)) ((ePl).f ([] ++ a0))), (2, .app false (List.length (([] ++ a0) ++ [a1])) ((ePl).f (([] ++ a0) ++ [a1])))] [] (ocons (len_row' (L := []) ePl) (ocons (app_one (L := []) (M := a0) ePl c0) (ocons (app_new (L := []) (M := a0) ePl) (ocons (app_m (L := []) (M := a0) ePl rfl) (ocons (len_row' (L := a0) ePl) (ocons (len_row' (L := ([] ++ a0)) ePl) (ocons (app_one (L := ([] ++ a0)) (M := [a1]) ePl c1) (ocons (app_new (L := ([] ++ a0)) (M := [a1]) ePl) (ocons (app_m (L := ([] ++ a0)) (M := [a1]) ePl rfl) (ocons (len_row' (L := [a1]) ePl) (ocons (Enc.noOwn ePl (fun _ => rfl) [a1]) onil))))))))))) (ocons (len_row (L := (([] ++ a0) ++ [a1])) ePl) onil) (by kernel_rfl)
/-! impl.checker).right -/
def Dimpl_checker_right_1 (_n : Nat) (self : (Int × Sol × (List Pl)) → Option (Bool × Int)) (t2 : List Pl) (t59 _b4_0 : Bool) (b4_1 b4_2 b4_3 b4_4 : Int) (b4_5 : List Sol) (b7_0 b7_1 b7_2 b7_3 b1000_0 : Int) : Option (Bool × Int) :=
  frk t59 (some (false, b1000_0)) ((lget b4_5 0).bind fun v5 => (Dimpl_with t2 (Pl.mk b4_1 b4_2 b4_3 b4_4)).bind fun v6 => (self (b1000_0, v5, v6)).bind fun v7 => frk v7.1 ((lget b4_5 1).bind fun v8 => (Dimpl_with t2 (Pl.mk b7_0 b7_1 b7_2 b7_3)).bind fun v9 => (self (v7.2, v8, v9)).bind fun v10 => some v10) (some (false, v7.2)))
theorem Timpl_checker_right_1 {Y} (n : Nat) (self : (Int × Sol × (List Pl)) → Option (Bool × Int)) (hself : ∀ (a : (Int × Sol × (List Pl))) (r : (Bool × Int)), self a = some r → Big Tryz.prog H Y (.call 92 [.ptr 1000 0, .agg [bl a.2.1.inn, i64 a.2.1.pl.A, i64 a.2.1.pl.B, i64 a.2.1.pl.C, i64 a.2.1.pl.D, .sl false 6 a.2.1.kids.length ((eSol false).f a.2.1.kids)], .sl false 4 a.2.2.length ((ePl).f a.2.2)] (lk [(1000, ⟨true, 0, [i64 a.1]⟩)]) (bl r.1) (lk [(1000, ⟨true, 0, [i64 r.2]⟩)]))) (t2 : List Pl) (t59 b4_0 : Bool) (b4_1 b4_2 b4_3 b4_4 : Int) (b4_5 : List Sol) (b7_0 b7_1 b7_2 b7_3 b1000_0 : Int) (r : (Bool × Int)) (h : Dimpl_checker_right_1 n self t2 t59 b4_0 b4_1 b4_2 b4_3 b4_4 b4_5 b7_0 b7_1 b7_2 b7_3 b1000_0 = some r) : Wk Tryz.prog H Y 92 [.code (cp [1, 1, 1, 1, 1, 0, 1] (bodyOf Tryz.f92)), .code (cp [1, 1, 1, 1, 1, 1] (bodyOf Tryz.f92))] (FinX Tryz.prog Tryz.f92 [(1000, ⟨true, 0, [.bad]⟩)] (bl r.1) [(1000, ⟨true, 0, [i64 r.2]⟩)]) ⟨[(0, .ptr 1000 0), (2, .sl false 4 t2.length ((ePl).f t2)), (4, .ptr 4 0), (7, .ptr 7 0), (59, bl t59)], [(4, ⟨true, 0, [bl b4_0, i64 b4_1, i64 b4_2, i64 b4_3, i64 b4_4, .sl false 6 b4_5.length ((eSol false).f b4_5)]⟩), (7, ⟨true, 0, [i64 b7_0, i64 b7_1, i64 b7_2, i64 b7_3]⟩), (1000, ⟨true, 0, [i64 b1000_0]⟩)]⟩ := by
  unfold Dimpl_checker_right_1 at h
  refine x_frk 0 [] onil h (by kernel_rfl) (fun h => ?_) (fun h => ?_)
  · replace h := Option.some.inj h; subst h
    exact x_end 4 [] [] onil onil (by kernel_rfl)
  · obtain ⟨v5, hv5, h⟩ := bind_some h
    obtain ⟨v6, hv6, h⟩ := bind_some h
    obtain ⟨v7, hv7, h⟩ := bind_some h
    refine x_frk 14 [(3, .val (.cptr ((eSol false).c v5 ++ (eSol false).f ((b4_5).drop (Int.toNat 0 + 1))))), (4, .call [] [] (.sl false 4 v6.length ((ePl).f v6)) []), (0, .call [] [] (bl v7.1) [(1000, ⟨true, 0, [i64 v7.2]⟩)])] (ocons (ix (eSol false) hv5) (ocons (shSl (L := v6) ePl ePl sPl (Timpl_with (Y := Y) t2 (Pl.mk b4_1 b4_2 b4_3 b4_4) _ hv6)) (ocons (hself (b1000_0, v5, v6) _ hv7) onil))) h (by kernel_rfl) (fun h => ?_) (fun h => ?_)
    · obtain ⟨v8, hv8, h⟩ := bind_some h
      obtain ⟨v9, hv9, h⟩ := bind_some h
      obtain ⟨v10, hv10, h⟩ := bind_some h
      replace h := Option.some.inj h; subst h
      exact x_end 12 [(3, .val (.cptr ((eSol false).c v8 ++ (eSol false).f ((b4_5).drop (Int.toNat 1 + 1))))), (3, .call [] [] (.sl false 4 v9.length ((ePl).f v9)) []), (0, .call [] [] (bl v10.1) [(1000, ⟨true, 0, [i64 v10.2]⟩)])] [] (ocons (ix (eSol false) hv8) (ocons (shSl (L := v9) ePl ePl sPl (Timpl_with (Y := Y) t2 (Pl.mk b7_0 b7_1 b7_2 b7_3) _ hv9)) (ocons (hself (v7.2, v8, v9) _ hv10) onil))) onil (by kernel_rfl)
    · replace h := Option.some.inj h; subst h
      exact x_end 12 [] [] onil onil (by kernel_rfl)
def Dimpl_checker_right_0 (n : Nat) (self : (Int × Sol × (List Pl)) → Option (Bool × Int)) (t2 : List Pl) (t45 b4_0 : Bool) (b4_1 b4_2 b4_3 b4_4 : Int) (b4_5 : List Sol) (b1000_0 : Int) : Option (Bool × Int) :=
  frk t45 (some (false, b1000_0)) ((Dimpl_flip (Pl.mk b4_1 b4_2 b4_3 b4_4)).bind fun v2 => (Dimpl_room n t2 (Pl.mk b4_1 b4_2 b4_3 b4_4)).bind fun v3 => frk (!v3) (some (false, b1000_0)) ((Dimpl_room n t2 v2).bind fun v4 => Dimpl_checker_right_1 n self t2 (!v4) b4_0 b4_1 b4_2 b4_3 b4_4 b4_5 v2.A v2.B v2.C v2.D b1000_0))
theorem Timpl_checker_right_0 {Y} (n : Nat) (self : (Int × Sol × (List Pl)) → Option (Bool × Int)) (hself : ∀ (a : (Int × Sol × (List Pl))) (r : (Bool × Int)), self a = some r → Big Tryz.prog H Y (.call 92 [.ptr 1000 0, .agg [bl a.2.1.inn, i64 a.2.1.pl.A, i64 a.2.1.pl.B, i64 a.2.1.pl.C, i64 a.2.1.pl.D, .sl false 6 a.2.1.kids.length ((eSol false).f a.2.1.kids)], .sl false 4 a.2.2.length ((ePl).f a.2.2)] (lk [(1000, ⟨true, 0, [i64 a.1]⟩)]) (bl r.1) (lk [(1000, ⟨true, 0, [i64 r.2]⟩)]))) (t2 : List Pl) (t45 b4_0 : Bool) (b4_1 b4_2 b4_3 b4_4 : Int) (b4_5 : List Sol) (b1000_0 : Int) (r : (Bool × Int)) (h : Dimpl_checker_right_0 n self t2 t45 b4_0 b4_1 b4_2 b4_3 b4_4 b4_5 b1000_0 = some r) : Wk Tryz.prog H Y 92 [.code (cp [1, 1, 1, 0, 1] (bodyOf Tryz.f92)), .code (cp [1, 1, 1, 1] (bodyOf Tryz.f92))] (FinX Tryz.prog Tryz.f92 [(1000, ⟨true, 0, [.bad]⟩)] (bl r.1) [(1000, ⟨true, 0, [i64 r.2]⟩)]) ⟨[(0, .ptr 1000 0), (2, .sl false 4 t2.length ((ePl).f t2)), (4, .ptr 4 0), (45, bl t45)], [(4, ⟨true, 0, [bl b4_0, i64 b4_1, i64 b4_2, i64 b4_3, i64 b4_4, .sl false 6 b4_5.length ((eSol false).f b4_5)]⟩), (1000, ⟨true, 0, [i64 b1000_0]⟩)]⟩ := by
  unfold Dimpl_checker_right_0 at h
  refine x_frk 0 [] onil h (by kernel_rfl) (fun h => ?_) (fun h => ?_)
  · replace h := Option.some.inj h; subst h
    exact x_end 4 [] [] onil onil (by kernel_rfl)
  · obtain ⟨v2, hv2, h⟩ := bind_some h
    obtain ⟨v3, hv3, h⟩ := bind_some h
    refine x_frk 18 [(2, .call [] [] (.agg [i64 v2.A, i64 v2.B, i64 v2.C, i64 v2.D]) []), (5, .call [] [] (bl v3) [])] (ocons (Timpl_flip (Y := Y) (Pl.mk b4_1 b4_2 b4_3 b4_4) _ hv2) (ocons (Timpl_room (Y := Y) n t2 (Pl.mk b4_1 b4_2 b4_3 b4_4) _ hv3) onil)) h (by kernel_rfl) (fun h => ?_) (fun h => ?_)
    · replace h := Option.some.inj h; subst h
      exact x_end 11 [] [] onil onil (by kernel_rfl)
    · obtain ⟨v4, hv4, h⟩ := bind_some h
      exact x_to 6 [(2, .call [] [] (bl v4) [])] (ocons (Timpl_room (Y := Y) n t2 v2 _ hv4) onil) (Timpl_checker_right_1 n self hself t2 (!v4) b4_0 b4_1 b4_2 b4_3 b4_4 b4_5 v2.A v2.B v2.C v2.D b1000_0 r h) (by kernel_rfl)
def Dimpl_checker_right_b (n : Nat) (self : (Int × Sol × (List Pl)) → Option (Bool × Int)) (a : (Int × Sol × (List Pl))) : Option (Bool × Int) :=
  match a with
  | (a0, a1, a2) => (Dimpl_Solid_isLeaf a1).bind fun v0 => frk v0 (some ((a1.pl.A == 0 && (a1.pl.B == 0 && (a1.pl.C == 0 && (a1.pl.D == 0 && true)))), a0)) (frk a1.inn (some (false, w64 (a0 + 1))) (frk ((a1.kids.length : Int) != 2) (some (false, w64 (a0 + 1))) (frk (decide ((w64 (a0 + 1)) > 300)) (some (false, w64 (a0 + 1))) (frk (decide ((a2.length : Int) ≥ 24)) (some (false, w64 (a0 + 1))) ((Dimpl_PlaneOk n a1.pl).bind fun v1 => Dimpl_checker_right_0 n self a2 (!v1) a1.inn a1.pl.A a1.pl.B a1.pl.C a1.pl.D a1.kids (w64 (a0 + 1)))))))
def Dimpl_checker_right (n : Nat) (a0 : Int) (a1 : Sol) (a2 : (List Pl)) : Option (Bool × Int) := loopN (Dimpl_checker_right_b n) n (a0, a1, a2)
theorem Timpl_checker_right_b {Y} (n : Nat) : ∀ (m : Nat) (a : (Int × Sol × (List Pl))) (r : (Bool × Int)), loopN (Dimpl_checker_right_b n) m a = some r → ∀ (_ : Unit), Big Tryz.prog H Y (.call 92 [.ptr 1000 0, .agg [bl a.2.1.inn, i64 a.2.1.pl.A, i64 a.2.1.pl.B, i64 a.2.1.pl.C, i64 a.2.1.pl.D, .sl false 6 a.2.1.kids.length ((eSol false).f a.2.1.kids)], .sl false 4 a.2.2.length ((ePl).f a.2.2)] (lk [(1000, ⟨true, 0, [i64 a.1]⟩)]) (bl r.1) (lk [(1000, ⟨true, 0, [i64 r.2]⟩)])) := by
  refine loopN_ind (fun self hs a r h => ?_)
  have hself : ∀ (a : (Int × Sol × (List Pl))) (r : (Bool × Int)), self a = some r → Big Tryz.prog H Y (.call 92 [.ptr 1000 0, .agg [bl a.2.1.inn, i64 a.2.1.pl.A, i64 a.2.1.pl.B, i64 a.2.1.pl.C, i64 a.2.1.pl.D, .sl false 6 a.2.1.kids.length ((eSol false).f a.2.1.kids)], .sl false 4 a.2.2.length ((ePl).f a.2.2)] (lk [(1000, ⟨true, 0, [i64 a.1]⟩)]) (bl r.1) (lk [(1000, ⟨true, 0, [i64 r.2]⟩)])) := fun a r h => hs a r h ()
  intro _
  obtain ⟨a0, a1, a2⟩ := a
  unfold Dimpl_checker_right_b at h
  refine x_call (fn := Tryz.f92) (c := bodyOf Tryz.f92) (bs0 := [(1000, ⟨true, 0, [.bad]⟩)]) Tryz.func92 (by kernel_rfl) (by kernel_rfl) ?_
  obtain ⟨v0, hv0, h⟩ := bind_some h
  refine x_frk 10 [(2, .call [] [] (bl v0) [])] (ocons (Timpl_Solid_isLeaf (Y := Y) a1 [] _ hv0) onil) h (by kernel_rfl) (fun h => ?_) (fun h => ?_)
  · replace h := Option.some.inj h; subst h
    exact x_end 8 [] [] onil onil (by kernel_rfl)
  · refine x_frk 18 [] onil h (by kernel_rfl) (fun h => ?_) (fun h => ?_)
    · replace h := Option.some.inj h; subst h
      exact x_end 29 [] [] onil onil (by kernel_rfl)
    · refine x_frk 6 [] onil h (by kernel_rfl) (fun h => ?_) (fun h => ?_)
      · replace h := Option.some.inj h; subst h
        exact x_end 23 [] [] onil onil (by kernel_rfl)
      · refine x_frk 7 [] onil h (by kernel_rfl) (fun h => ?_) (fun h => ?_)
        · replace h := Option.some.inj h; subst h
          exact x_end 16 [] [] onil onil (by kernel_rfl)
        · refine x_frk 5 [] onil h (by kernel_rfl) (fun h => ?_) (fun h => ?_)
          · replace h := Option.some.inj h; subst h
            exact x_end 11 [] [] onil onil (by kernel_rfl)
          · obtain ⟨v1, hv1, h⟩ := bind_some h
            exact x_to 6 [(2, .call [] [] (bl v1) [])] (ocons (Timpl_PlaneOk (Y := Y) n a1.pl _ hv1) onil) (Timpl_checker_right_0 n self hself a2 (!v1) a1.inn a1.pl.A a1.pl.B a1.pl.C a1.pl.D a1.kids (w64 (a0 + 1)) r h) (by kernel_rfl)
theorem Timpl_checker_right {Y} (n : Nat) (a0 : Int) (a1 : Sol) (a2 : (List Pl)) (r : (Bool × Int)) (h : Dimpl_checker_right n a0 a1 a2 = some r) : Big Tryz.prog H Y (.call 92 [.ptr 1000 0, .agg [bl a1.inn, i64 a1.pl.A, i64 a1.pl.B, i64 a1.pl.C, i64 a1.pl.D, .sl false 6 a1.kids.length ((eSol false).f a1.kids)], .sl false 4 a2.length ((ePl).f a2)] (lk [(1000, ⟨true, 0, [i64 a0]⟩)]) (bl r.1) (lk [(1000, ⟨true, 0, [i64 r.2]⟩)])) := Timpl_checker_right_b n n (a0, a1, a2) r h ()
/-! impl.SolidOk -/
def Dimpl_SolidOk (n : Nat) (a0 : Sol) : Option Bool :=
  (Dimpl_checker_right n 0 a0 []).bind fun v0 => some v0.1
theorem Timpl_SolidOk {Y} (n : Nat) (a0 : Sol) (r : Bool) (h : Dimpl_SolidOk n a0 = some r) : Big Tryz.prog H Y (.call 37 [.agg [bl a0.inn, i64 a0.pl.A, i64 a0.pl.B, i64 a0.pl.C, i64 a0.pl.D, .sl false 6 a0.kids.length ((eSol false).f a0.kids)]] (lk []) (bl r) (lk [])) := by
  unfold Dimpl_SolidOk at h
  refine x_call (fn := Tryz.f37) (c := bodyOf Tryz.f37) (bs0 := []) Tryz.func37 (by kernel_rfl) (by kernel_rfl) ?_
  obtain ⟨v0, hv0, h⟩ := bind_some h
  replace h := Option.some.inj h; subst h
  exact x_end 15 [(4, .call [(false, 4)] [] (bl v0.1) [(1000, ⟨true, 0, [i64 v0.2]⟩)])] [] (ocons (Timpl_checker_right (Y := Y) n 0 a0 [] _ hv0) onil) onil (by kernel_rfl)
/-! impl.Plane] -/
def Dslices_Clone (a0 : (List Pl)) : Option (List Pl) :=
  chk (apB 32 (0 + a0.length)) (some ([] ++ a0))
theorem Tslices_Clone {Y} (a0 : (List Pl)) (r : (List Pl)) (h : Dslices_Clone a0 = some r) : Big Tryz.prog H Y (.call 125 [.sl false 4 a0.length ((ePl).f a0)] (lk []) (.sl true 4 r.length ((ePl).f r)) (lk [])) := by
  unfold Dslices_Clone at h
  refine x_clone (fn := Tryz.f125) (c := bodyOf Tryz.f125) 0 3 4 (lq := ⟨[(2, .nil), (0, .sl false 4 a0.length ((ePl).f a0))], []⟩) (z := 4) (ct := a0.length) (cs := (ePl).f a0) Tryz.func125 (by kernel_rfl) (by kernel_rfl) (x_at 3 (by kernel_rfl)) (fun b hb => ?_)
  cases b
  · obtain ⟨c0, h⟩ := chk_some h
    replace h := Option.some.inj h; subst h
    exact x_end 9 [(2, .app false (List.length ([] ++ a0)) ((ePl).f ([] ++ a0)))] [] (ocons (len_row' (L := []) ePl) (ocons (app_one (L := []) (M := a0) ePl c0) (ocons (app_new (L := []) (M := a0) ePl) (ocons (app_m (L := []) (M := a0) ePl rfl) (ocons (len_row' (L := a0) ePl) onil))))) (ocons (len_row (L := ([] ++ a0)) ePl) onil) (by kernel_rfl)
  · have h0 : a0 = [] := List.eq_nil_of_length_eq_zero (hb rfl)
    subst h0
    replace h : some [] = some r := h
    replace h := Option.some.inj h; subst h
    exact x_end 5 [] [(true, 4)] onil onil (by kernel_rfl)
/-! impl.Solid).cells -/
def Dimpl_Solid_cells_b (_n : Nat) (self : (Sol × Bool × (List Pl)) → Option (List (List Pl))) (a : (Sol × Bool × (List Pl))) : Option (List (List Pl)) :=
  match a with
  | (a0, a1, a2) => (Dimpl_Solid_isLeaf a0).bind fun v0 => frk v0 (frk (a0.inn == a1) ((Dslices_Clone a2).bind fun v1 => some [v1]) (some [])) ((lget a0.kids 0).bind fun v2 => (Dimpl_with a2 a0.pl).bind fun v3 => (self (v2, a1, v3)).bind fun v4 => (lget a0.kids 1).bind fun v5 => (Dimpl_flip a0.pl).bind fun v6 => (Dimpl_with a2 v6).bind fun v7 => (self (v5, a1, v7)).bind fun v8 => chk (apB 24 (v4.length + v8.length)) (some (v4 ++ v8)))
def Dimpl_Solid_cells (n : Nat) (a0 : Sol) (a1 : Bool) (a2 : (List Pl)) : Option (List (List Pl)) := loopN (Dimpl_Solid_cells_b n) n (a0, a1, a2)
theorem Timpl_Solid_cells_b {Y} (n : Nat) : ∀ (m : Nat) (a : (Sol × Bool × (List Pl))) (r : (List (List Pl))), loopN (Dimpl_Solid_cells_b n) m a = some r → ∀ (q0 : List AV), Big Tryz.prog H Y (.call 62 [.cptr ([bl a.1.inn, i64 a.1.pl.A, i64 a.1.pl.B, i64 a.1.pl.C, i64 a.1.pl.D, .sl false 6 a.1.kids.length ((eSol false).f a.1.kids)] ++ q0), bl a.2.1, .sl false 4 a.2.2.length ((ePl).f a.2.2)] (lk []) (.sl true 1 r.length ((ePls true).f r)) (lk [])) := by
  refine loopN_ind (fun self hs a r h => ?_)
  have hself : ∀ (a : (Sol × Bool × (List Pl))) (q0 : List AV) (r : (List (List Pl))), self a = some r → Big Tryz.prog H Y (.call 62 [.cptr ([bl a.1.inn, i64 a.1.pl.A, i64 a.1.pl.B, i64 a.1.pl.C, i64 a.1.pl.D, .sl false 6 a.1.kids.length ((eSol false).f a.1.kids)] ++ q0), bl a.2.1, .sl false 4 a.2.2.length ((ePl).f a.2.2)] (lk []) (.sl true 1 r.length ((ePls true).f r)) (lk [])) := fun a q0 r h => hs a r h q0
  intro q0
  obtain ⟨a0, a1, a2⟩ := a
  unfold Dimpl_Solid_cells_b at h
  refine x_call (fn := Tryz.f62) (c := bodyOf Tryz.f62) (bs0 := []) Tryz.func62 (by kernel_rfl) (by kernel_rfl) ?_
  obtain ⟨v0, hv0, h⟩ := bind_some h
  refine x_frk 10 [(2, .call [] [] (bl v0) [])] (ocons (Timpl_Solid_isLeaf (Y := Y) a0 q0 _ hv0) onil) h (by kernel_rfl) (fun h => ?_) (fun h => ?_)
  · refine x_frk 10 [] onil h (by kernel_rfl) (fun h => ?_) (fun h => ?_)
    · obtain ⟨v1, hv1, h⟩ := bind_some h
      replace h := Option.some.inj h; subst h
      exact x_end 7 [(1, .call [] [] (.sl true 4 v1.length ((ePl).f v1)) [])] [] (ocons (Tslices_Clone (Y := Y) a2 _ hv1) (ocons (len_row (L := v1) ePl) onil)) (ocons (len_row (L := [v1]) (ePls true)) onil) (by kernel_rfl)
    · replace h := Option.some.inj h; subst h
      exact x_end 5 [] [(true, 1)] onil onil (by kernel_rfl)
  · obtain ⟨v2, hv2, h⟩ := bind_some h
    obtain ⟨v3, hv3, h⟩ := bind_some h
    obtain ⟨v4, hv4, h⟩ := bind_some h
    obtain ⟨v5, hv5, h⟩ := bind_some h
    obtain ⟨v6, hv6, h⟩ := bind_some h
    obtain ⟨v7, hv7, h⟩ := bind_some h
    obtain ⟨v8, hv8, h⟩ := bind_some h
    obtain ⟨c9, h⟩ := chk_some h
    replace h := Option.some.inj h; subst h
    exact x_end 38 [(4, .val (.cptr ((eSol false).c v2 ++ (eSol false).f ((a0.kids).drop (Int.toNat 0 + 1))))), (6, .call [] [] (.sl false 4 v3.length ((ePl).f v3)) []), (0, .call [] [] (.sl true 1 v4.length ((ePls true).f v4)) []), (6, .val (.cptr ((eSol false).c v5 ++ (eSol false).f ((a0.kids).drop (Int.toNat 1 + 1))))), (6, .call [] [] (.agg [i64 v6.A, i64 v6.B, i64 v6.C, i64 v6.D]) []), (0, .call [] [] (.sl false 4 v7.length ((ePl).f v7)) []), (0, .call [] [] (.sl true 1 v8.length ((ePls true).f v8)) []), (0, .app true (List.length (v4 ++ v8)) ((ePls true).f (v4 ++ v8)))] [] (ocons (ix (eSol false) hv2) (ocons (shSl (L := v3) ePl ePl sPl (Timpl_with (Y := Y) a2 a0.pl _ hv3)) (ocons (hself (v2, a1, v3) ((eSol false).f ((a0.kids).drop (Int.toNat 0 + 1))) _ hv4) (ocons (ix (eSol false) hv5) (ocons (Timpl_flip (Y := Y) a0.pl _ hv6) (ocons (shSl (L := v7) ePl ePl sPl (Timpl_with (Y := Y) a2 v6 _ hv7)) (ocons (hself (v5, a1, v7) ((eSol false).f ((a0.kids).drop (Int.toNat 1 + 1))) _ hv8) (ocons (len_row' (L := v4) (ePls true)) (ocons (app_one (L := v4) (M := v8) (ePls true) c9) (ocons (app_new (L := v4) (M := v8) (ePls true)) (ocons (app_m (L := v4) (M := v8) (ePls true) rfl) (ocons (len_row' (L := v8) (ePls true)) onil)))))))))))) (ocons (len_row (L := (v4 ++ v8)) (ePls true)) onil) (by kernel_rfl)
theorem Timpl_Solid_cells {Y} (n : Nat) (a0 : Sol) (a1 : Bool) (a2 : (List Pl)) (q0 : List AV) (r : (List (List Pl))) (h : Dimpl_Solid_cells n a0 a1 a2 = some r) : Big Tryz.prog H Y (.call 62 [.cptr ([bl a0.inn, i64 a0.pl.A, i64 a0.pl.B, i64 a0.pl.C, i64 a0.pl.D, .sl false 6 a0.kids.length ((eSol false).f a0.kids)] ++ q0), bl a1, .sl false 4 a2.length ((ePl).f a2)] (lk []) (.sl true 1 r.length ((ePls true).f r)) (lk [])) := Timpl_Solid_cells_b n n (a0, a1, a2) r h q0
/-! impl.Cells -/
def Dimpl_Cells (n : Nat) (a0 : Sol) (a1 : Bool) : Option (List (List Pl)) :=
  (Dimpl_SolidOk n a0).bind fun v0 => frk (!v0) (some []) ((Dimpl_Solid_cells n a0 a1 []).bind fun v1 => some v1)
theorem Timpl_Cells {Y} (n : Nat) (a0 : Sol) (a1 : Bool) (r : (List (List Pl))) (h : Dimpl_Cells n a0 a1 = some r) : Big Tryz.prog H Y (.call 19 [.agg [bl a0.inn, i64 a0.pl.A, i64 a0.pl.B, i64 a0.pl.C, i64 a0.pl.D, .sl false 6 a0.kids.length ((eSol false).f a0.kids)], bl a1] (lk []) (.sl true 1 r.length ((ePls true).f r)) (lk [])) := by
  unfold Dimpl_Cells at h
  refine x_call (fn := Tryz.f19) (c := bodyOf Tryz.f19) (bs0 := []) Tryz.func19 (by kernel_rfl) (by kernel_rfl) ?_
  obtain ⟨v0, hv0, h⟩ := bind_some h
  refine x_frk 12 [(3, .call [] [] (bl v0) [])] (ocons (Timpl_SolidOk (Y := Y) n a0 _ hv0) onil) h (by kernel_rfl) (fun h => ?_) (fun h => ?_)
  · replace h := Option.some.inj h; subst h
    exact x_end 4 [] [(true, 1)] onil onil (by kernel_rfl)
  · obtain ⟨v1, hv1, h⟩ := bind_some h
    replace h := Option.some.inj h; subst h
    exact x_end 7 [(1, .call [(false, 4)] [] (.sl true 1 v1.length ((ePls true).f v1)) [])] [] (ocons (Timpl_Solid_cells (Y := Y) n a0 a1 [] [] _ hv1) (ocons (show hasSh (.sl true 1 v1.length ((ePls true).f v1)) = false by simp [hasSh, hasShL, nSh, nShI, nShB, nShP, nShT, nShN, nShPs]) onil)) (ocons (len_row (L := v1) (ePls true)) onil) (by kernel_rfl)
/-! impl.taken -/
def Dimpl_taken (n : Nat) (a0 : Pl) : Option Pl :=
  (Dimpl_PlaneOk n a0).bind fun v0 => frk (!v0) (some (Pl.mk 0 0 0 0)) (some a0)
theorem Timpl_taken {Y} (n : Nat) (a0 : Pl) (r : Pl) (h : Dimpl_taken n a0 = some r) : Big Tryz.prog H Y (.call 162 [.agg [i64 a0.A, i64 a0.B, i64 a0.C, i64 a0.D]] (lk []) (.agg [i64 r.A, i64 r.B, i64 r.C, i64 r.D]) (lk [])) := by
  unfold Dimpl_taken at h
  refine x_call (fn := Tryz.f162) (c := bodyOf Tryz.f162) (bs0 := []) Tryz.func162 (by kernel_rfl) (by kernel_rfl) ?_
  obtain ⟨v0, hv0, h⟩ := bind_some h
  refine x_frk 12 [(3, .call [] [] (bl v0) [])] (ocons (Timpl_PlaneOk (Y := Y) n a0 _ hv0) onil) h (by kernel_rfl) (fun h => ?_) (fun h => ?_)
  · replace h := Option.some.inj h; subst h
    exact x_end 5 [] [] onil onil (by kernel_rfl)
  · replace h := Option.some.inj h; subst h
    exact x_end 6 [] [] onil onil (by kernel_rfl)
/-! impl.Rank -/
def Dimpl_Rank_2 (_n : Nat) (rec0 : (Int × Int × Int × Int × Int × Int × Int × Int) → Option Int) (_t8 : List Pl) (_t9 t4 t10 : Int) (t40 : Bool) (b3_0 b3_1 b3_2 b3_3 b3_4 b3_5 : Int) : Option Int :=
  frk t40 (some 3) (rec0 (t4, w64 (t10 + 1), b3_0, b3_1, b3_2, b3_3, b3_4, b3_5))
theorem Timpl_Rank_2 {Y} (n : Nat) (rec0 : (Int × Int × Int × Int × Int × Int × Int × Int) → Option Int) (t8 : List Pl) (t9 : Int) (hrec0 : ∀ (a : (Int × Int × Int × Int × Int × Int × Int × Int)) (r : Int), rec0 a = some r → Wk Tryz.prog H Y 102 [.code (cp [1, 1, 1, 0, 1, 0] (bodyOf Tryz.f102)), .blk 0, .code (cp [1, 1, 1, 1] (bodyOf Tryz.f102))] (FinX Tryz.prog Tryz.f102 [] (i64 r) []) ⟨[(3, .ptr 3 0), (4, i64 a.1), (8, .sl false 4 t8.length ((ePl).f t8)), (9, i64 t9), (10, i64 a.2.1)], [(3, ⟨true, 0, [i64 a.2.2.1, i64 a.2.2.2.1, i64 a.2.2.2.2.1, i64 a.2.2.2.2.2.1, i64 a.2.2.2.2.2.2.1, i64 a.2.2.2.2.2.2.2]⟩)]⟩) (t4 t10 : Int) (t40 : Bool) (b3_0 b3_1 b3_2 b3_3 b3_4 b3_5 r : Int) (h : Dimpl_Rank_2 n rec0 t8 t9 t4 t10 t40 b3_0 b3_1 b3_2 b3_3 b3_4 b3_5 = some r) : Wk Tryz.prog H Y 102 [.code (cp [1, 1, 1, 0, 1, 0, 0, 1, 1, 0, 0, 1, 1, 0, 1, 1, 1, 1, 1] (bodyOf Tryz.f102)), .blk 2, .blk 1, .code (cp [1, 1, 1, 0, 1, 0, 0, 1, 1, 1] (bodyOf Tryz.f102)), .lp (cp [1, 1, 1, 0, 1, 0] (bodyOf Tryz.f102)), .blk 0, .code (cp [1, 1, 1, 1] (bodyOf Tryz.f102))] (FinX Tryz.prog Tryz.f102 [] (i64 r) []) ⟨[(3, .ptr 3 0), (4, i64 t4), (8, .sl false 4 t8.length ((ePl).f t8)), (9, i64 t9), (10, i64 t10), (40, bl t40)], [(3, ⟨true, 0, [i64 b3_0, i64 b3_1, i64 b3_2, i64 b3_3, i64 b3_4, i64 b3_5]⟩)]⟩ := by
  unfold Dimpl_Rank_2 at h
  refine x_frk 0 [] onil h (by kernel_rfl) (fun h => ?_) (fun h => ?_)
  · replace h := Option.some.inj h; subst h
    exact x_end 4 [] [] onil onil (by kernel_rfl)
  · exact x_to 8 [] onil (hrec0 (t4, w64 (t10 + 1), b3_0, b3_1, b3_2, b3_3, b3_4, b3_5) r h) (by kernel_rfl)
def Dimpl_Rank_1 (n : Nat) (rec0 : (Int × Int × Int × Int × Int × Int × Int × Int) → Option Int) (t8 : List Pl) (t9 t4 t10 : Int) (t27 : Bool) (b3_0 b3_1 b3_2 b3_3 b3_4 b3_5 b7_0 b7_1 b7_2 : Int) : Option Int :=
  frk t27 (rec0 (2, w64 (t10 + 1), b3_0, b3_1, b3_2, b7_0, b7_1, b7_2)) (frk (t4 == 2) ((Dimpl_det (b3_0, b3_1, b3_2) (b3_3, b3_4, b3_5) (b7_0, b7_1, b7_2)).bind fun v4 => Dimpl_Rank_2 n rec0 t8 t9 t4 t10 (v4 != 0) b3_0 b3_1 b3_2 b3_3 b3_4 b3_5) (rec0 (t4, w64 (t10 + 1), b3_0, b3_1, b3_2, b3_3, b3_4, b3_5)))
theorem Timpl_Rank_1 {Y} (n : Nat) (rec0 : (Int × Int × Int × Int × Int × Int × Int × Int) → Option Int) (t8 : List Pl) (t9 : Int) (hrec0 : ∀ (a : (Int × Int × Int × Int × Int × Int × Int × Int)) (r : Int), rec0 a = some r → Wk Tryz.prog H Y 102 [.code (cp [1, 1, 1, 0, 1, 0] (bodyOf Tryz.f102)), .blk 0, .code (cp [1, 1, 1, 1] (bodyOf Tryz.f102))] (FinX Tryz.prog Tryz.f102 [] (i64 r) []) ⟨[(3, .ptr 3 0), (4, i64 a.1), (8, .sl false 4 t8.length ((ePl).f t8)), (9, i64 t9), (10, i64 a.2.1)], [(3, ⟨true, 0, [i64 a.2.2.1, i64 a.2.2.2.1, i64 a.2.2.2.2.1, i64 a.2.2.2.2.2.1, i64 a.2.2.2.2.2.2.1, i64 a.2.2.2.2.2.2.2]⟩)]⟩) (t4 t10 : Int) (t27 : Bool) (b3_0 b3_1 b3_2 b3_3 b3_4 b3_5 b7_0 b7_1 b7_2 r : Int) (h : Dimpl_Rank_1 n rec0 t8 t9 t4 t10 t27 b3_0 b3_1 b3_2 b3_3 b3_4 b3_5 b7_0 b7_1 b7_2 = some r) : Wk Tryz.prog H Y 102 [.code (cp [1, 1, 1, 0, 1, 0, 0, 1, 1, 0, 0, 1, 1, 0, 1, 1, 1] (bodyOf Tryz.f102)), .blk 2, .blk 1, .code (cp [1, 1, 1, 0, 1, 0, 0, 1, 1, 1] (bodyOf Tryz.f102)), .lp (cp [1, 1, 1, 0, 1, 0] (bodyOf Tryz.f102)), .blk 0, .code (cp [1, 1, 1, 1] (bodyOf Tryz.f102))] (FinX Tryz.prog Tryz.f102 [] (i64 r) []) ⟨[(3, .ptr 3 0), (4, i64 t4), (7, .ptr 7 0), (8, .sl false 4 t8.length ((ePl).f t8)), (9, i64 t9), (10, i64 t10), (27, bl t27)], [(3, ⟨true, 0, [i64 b3_0, i64 b3_1, i64 b3_2, i64 b3_3, i64 b3_4, i64 b3_5]⟩), (7, ⟨true, 0, [i64 b7_0, i64 b7_1, i64 b7_2]⟩)]⟩ := by
  unfold Dimpl_Rank_1 at h
  refine x_frk 0 [] onil h (by kernel_rfl) (fun h => ?_) (fun h => ?_)
  · exact x_to 13 [] onil (hrec0 (2, w64 (t10 + 1), b3_0, b3_1, b3_2, b7_0, b7_1, b7_2) r h) (by kernel_rfl)
  · refine x_frk 5 [] onil h (by kernel_rfl) (fun h => ?_) (fun h => ?_)
    · obtain ⟨v4, hv4, h⟩ := bind_some h
      exact x_to 10 [(5, .call [] [] (i64 v4) [])] (ocons (Timpl_det (Y := Y) (b3_0, b3_1, b3_2) (b3_3, b3_4, b3_5) (b7_0, b7_1, b7_2) _ hv4) onil) (Timpl_Rank_2 n rec0 t8 t9 hrec0 t4 t10 (v4 != 0) b3_0 b3_1 b3_2 b3_3 b3_4 b3_5 r h) (by kernel_rfl)
    · exact x_to 19 [] onil (hrec0 (t4, w64 (t10 + 1), b3_0, b3_1, b3_2, b3_3, b3_4, b3_5) r h) (by kernel_rfl)
def Dimpl_Rank_3 (n : Nat) (rec0 : (Int × Int × Int × Int × Int × Int × Int × Int) → Option Int) (t8 : List Pl) (t9 t4 t10 b3_0 b3_1 b3_2 b3_3 b3_4 b3_5 b7_0 b7_1 b7_2 : Int) : Option Int :=
  frk (t4 == 2) ((Dimpl_det (b3_0, b3_1, b3_2) (b3_3, b3_4, b3_5) (b7_0, b7_1, b7_2)).bind fun v5 => Dimpl_Rank_2 n rec0 t8 t9 t4 t10 (v5 != 0) b3_0 b3_1 b3_2 b3_3 b3_4 b3_5) (rec0 (t4, w64 (t10 + 1), b3_0, b3_1, b3_2, b3_3, b3_4, b3_5))
theorem Timpl_Rank_3 {Y} (n : Nat) (rec0 : (Int × Int × Int × Int × Int × Int × Int × Int) → Option Int) (t8 : List Pl) (t9 : Int) (hrec0 : ∀ (a : (Int × Int × Int × Int × Int × Int × Int × Int)) (r : Int), rec0 a = some r → Wk Tryz.prog H Y 102 [.code (cp [1, 1, 1, 0, 1, 0] (bodyOf Tryz.f102)), .blk 0, .code (cp [1, 1, 1, 1] (bodyOf Tryz.f102))] (FinX Tryz.prog Tryz.f102 [] (i64 r) []) ⟨[(3, .ptr 3 0), (4, i64 a.1), (8, .sl false 4 t8.length ((ePl).f t8)), (9, i64 t9), (10, i64 a.2.1)], [(3, ⟨true, 0, [i64 a.2.2.1, i64 a.2.2.2.1, i64 a.2.2.2.2.1, i64 a.2.2.2.2.2.1, i64 a.2.2.2.2.2.2.1, i64 a.2.2.2.2.2.2.2]⟩)]⟩) (t4 t10 b3_0 b3_1 b3_2 b3_3 b3_4 b3_5 b7_0 b7_1 b7_2 r : Int) (h : Dimpl_Rank_3 n rec0 t8 t9 t4 t10 b3_0 b3_1 b3_2 b3_3 b3_4 b3_5 b7_0 b7_1 b7_2 = some r) : Wk Tryz.prog H Y 102 [.code (cp [1, 1, 1, 0, 1, 0, 0, 1, 1, 0, 0, 1, 1, 0, 1, 1, 1, 1, 0] (bodyOf Tryz.f102)), .code (cp [1, 1, 1, 0, 1, 0, 0, 1, 1, 0, 0, 1, 1, 0, 1, 1, 1, 1, 1] (bodyOf Tryz.f102)), .blk 2, .blk 1, .code (cp [1, 1, 1, 0, 1, 0, 0, 1, 1, 1] (bodyOf Tryz.f102)), .lp (cp [1, 1, 1, 0, 1, 0] (bodyOf Tryz.f102)), .blk 0, .code (cp [1, 1, 1, 1] (bodyOf Tryz.f102))] (FinX Tryz.prog Tryz.f102 [] (i64 r) []) ⟨[(3, .ptr 3 0), (4, i64 t4), (7, .ptr 7 0), (8, .sl false 4 t8.length ((ePl).f t8)), (9, i64 t9), (10, i64 t10)], [(3, ⟨true, 0, [i64 b3_0, i64 b3_1, i64 b3_2, i64 b3_3, i64 b3_4, i64 b3_5]⟩), (7, ⟨true, 0, [i64 b7_0, i64 b7_1, i64 b7_2]⟩)]⟩ := by
  unfold Dimpl_Rank_3 at h
  refine x_frk 4 [] onil h (by kernel_rfl) (fun h => ?_) (fun h => ?_)
  · obtain ⟨v5, hv5, h⟩ := bind_some h
    exact x_to 10 [(5, .call [] [] (i64 v5) [])] (ocons (Timpl_det (Y := Y) (b3_0, b3_1, b3_2) (b3_3, b3_4, b3_5) (b7_0, b7_1, b7_2) _ hv5) onil) (Timpl_Rank_2 n rec0 t8 t9 hrec0 t4 t10 (v5 != 0) b3_0 b3_1 b3_2 b3_3 b3_4 b3_5 r h) (by kernel_rfl)
  · exact x_to 19 [] onil (hrec0 (t4, w64 (t10 + 1), b3_0, b3_1, b3_2, b3_3, b3_4, b3_5) r h) (by kernel_rfl)
def Dimpl_Rank_0 (n : Nat) (rec0 : (Int × Int × Int × Int × Int × Int × Int × Int) → Option Int) (t8 : List Pl) (t9 t4 t10 : Int) (t17 : Bool) (b3_0 b3_1 b3_2 b3_3 b3_4 b3_5 b7_0 b7_1 b7_2 : Int) : Option Int :=
  frk t17 (rec0 (1, w64 (t10 + 1), b7_0, b7_1, b7_2, b3_3, b3_4, b3_5)) (frk (t4 == 1) ((Dimpl_crossOf (b3_0, b3_1, b3_2) (b7_0, b7_1, b7_2)).bind fun v3 => Dimpl_Rank_1 n rec0 t8 t9 t4 t10 (!(v3.1 == 0 && (v3.2.1 == 0 && (v3.2.2 == 0 && true)))) b3_0 b3_1 b3_2 b3_3 b3_4 b3_5 b7_0 b7_1 b7_2) (Dimpl_Rank_3 n rec0 t8 t9 t4 t10 b3_0 b3_1 b3_2 b3_3 b3_4 b3_5 b7_0 b7_1 b7_2))
theorem Timpl_Rank_0 {Y} (n : Nat) (rec0 : (Int × Int × Int × Int × Int × Int × Int × Int) → Option Int) (t8 : List Pl) (t9 : Int) (hrec0 : ∀ (a : (Int × Int × Int × Int × Int × Int × Int × Int)) (r : Int), rec0 a = some r → Wk Tryz.prog H Y 102 [.code (cp [1, 1, 1, 0, 1, 0] (bodyOf Tryz.f102)), .blk 0, .code (cp [1, 1, 1, 1] (bodyOf Tryz.f102))] (FinX Tryz.prog Tryz.f102 [] (i64 r) []) ⟨[(3, .ptr 3 0), (4, i64 a.1), (8, .sl false 4 t8.length ((ePl).f t8)), (9, i64 t9), (10, i64 a.2.1)], [(3, ⟨true, 0, [i64 a.2.2.1, i64 a.2.2.2.1, i64 a.2.2.2.2.1, i64 a.2.2.2.2.2.1, i64 a.2.2.2.2.2.2.1, i64 a.2.2.2.2.2.2.2]⟩)]⟩) (t4 t10 : Int) (t17 : Bool) (b3_0 b3_1 b3_2 b3_3 b3_4 b3_5 b7_0 b7_1 b7_2 r : Int) (h : Dimpl_Rank_0 n rec0 t8 t9 t4 t10 t17 b3_0 b3_1 b3_2 b3_3 b3_4 b3_5 b7_0 b7_1 b7_2 = some r) : Wk Tryz.prog H Y 102 [.code (cp [1, 1, 1, 0, 1, 0, 0, 1, 1, 0, 0, 1, 1, 0, 1] (bodyOf Tryz.f102)), .blk 2, .blk 1, .code (cp [1, 1, 1, 0, 1, 0, 0, 1, 1, 1] (bodyOf Tryz.f102)), .lp (cp [1, 1, 1, 0, 1, 0] (bodyOf Tryz.f102)), .blk 0, .code (cp [1, 1, 1, 1] (bodyOf Tryz.f102))] (FinX Tryz.prog Tryz.f102 [] (i64 r) []) ⟨[(3, .ptr 3 0), (4, i64 t4), (7, .ptr 7 0), (8, .sl false 4 t8.length ((ePl).f t8)), (9, i64 t9), (10, i64 t10), (17, bl t17)], [(3, ⟨true, 0, [i64 b3_0, i64 b3_1, i64 b3_2, i64 b3_3, i64 b3_4, i64 b3_5]⟩), (7, ⟨true, 0, [i64 b7_0, i64 b7_1, i64 b7_2]⟩)]⟩ := by
  unfold Dimpl_Rank_0 at h
  refine x_frk 0 [] onil h (by kernel_rfl) (fun h => ?_) (fun h => ?_)
  · exact x_to 13 [] onil (hrec0 (1, w64 (t10 + 1), b7_0, b7_1, b7_2, b3_3, b3_4, b3_5) r h) (by kernel_rfl)
  · refine x_frk 5 [] onil h (by kernel_rfl) (fun h => ?_) (fun h => ?_)
    · obtain ⟨v3, hv3, h⟩ := bind_some h
      exact x_to 9 [(3, .call [] [] (.agg [i64 v3.1, i64 v3.2.1, i64 v3.2.2]) [])] (ocons (Timpl_crossOf (Y := Y) (b3_0, b3_1, b3_2) (b7_0, b7_1, b7_2) _ hv3) onil) (Timpl_Rank_1 n rec0 t8 t9 hrec0 t4 t10 (!(v3.1 == 0 && (v3.2.1 == 0 && (v3.2.2 == 0 && true)))) b3_0 b3_1 b3_2 b3_3 b3_4 b3_5 b7_0 b7_1 b7_2 r h) (by kernel_rfl)
    · exact x_to 11 [] onil (Timpl_Rank_3 n rec0 t8 t9 hrec0 t4 t10 b3_0 b3_1 b3_2 b3_3 b3_4 b3_5 b7_0 b7_1 b7_2 r h) (by kernel_rfl)
def Dimpl_Rank_4 (n : Nat) (rec0 : (Int × Int × Int × Int × Int × Int × Int × Int) → Option Int) (t8 : List Pl) (t9 t4 t10 b3_0 b3_1 b3_2 b3_3 b3_4 b3_5 b7_0 b7_1 b7_2 : Int) : Option Int :=
  frk (t4 == 1) ((Dimpl_crossOf (b3_0, b3_1, b3_2) (b7_0, b7_1, b7_2)).bind fun v6 => Dimpl_Rank_1 n rec0 t8 t9 t4 t10 (!(v6.1 == 0 && (v6.2.1 == 0 && (v6.2.2 == 0 && true)))) b3_0 b3_1 b3_2 b3_3 b3_4 b3_5 b7_0 b7_1 b7_2) (Dimpl_Rank_3 n rec0 t8 t9 t4 t10 b3_0 b3_1 b3_2 b3_3 b3_4 b3_5 b7_0 b7_1 b7_2)
theorem Timpl_Rank_4 {Y} (n : Nat) (rec0 : (Int × Int × Int × Int × Int × Int × Int × Int) → Option Int) (t8 : List Pl) (t9 : Int) (hrec0 : ∀ (a : (Int × Int × Int × Int × Int × Int × Int × Int)) (r : Int), rec0 a = some r → Wk Tryz.prog H Y 102 [.code (cp [1, 1, 1, 0, 1, 0] (bodyOf Tryz.f102)), .blk 0, .code (cp [1, 1, 1, 1] (bodyOf Tryz.f102))] (FinX Tryz.prog Tryz.f102 [] (i64 r) []) ⟨[(3, .ptr 3 0), (4, i64 a.1), (8, .sl false 4 t8.length ((ePl).f t8)), (9, i64 t9), (10, i64 a.2.1)], [(3, ⟨true, 0, [i64 a.2.2.1, i64 a.2.2.2.1, i64 a.2.2.2.2.1, i64 a.2.2.2.2.2.1, i64 a.2.2.2.2.2.2.1, i64 a.2.2.2.2.2.2.2]⟩)]⟩) (t4 t10 b3_0 b3_1 b3_2 b3_3 b3_4 b3_5 b7_0 b7_1 b7_2 r : Int) (h : Dimpl_Rank_4 n rec0 t8 t9 t4 t10 b3_0 b3_1 b3_2 b3_3 b3_4 b3_5 b7_0 b7_1 b7_2 = some r) : Wk Tryz.prog H Y 102 [.code (cp [1, 1, 1, 0, 1, 0, 0, 1, 1, 0, 0, 1, 1, 0, 1, 1, 0] (bodyOf Tryz.f102)), .code (cp [1, 1, 1, 0, 1, 0, 0, 1, 1, 0, 0, 1, 1, 0, 1, 1, 1] (bodyOf Tryz.f102)), .blk 2, .blk 1, .code (cp [1, 1, 1, 0, 1, 0, 0, 1, 1, 1] (bodyOf Tryz.f102)), .lp (cp [1, 1, 1, 0, 1, 0] (bodyOf Tryz.f102)), .blk 0, .code (cp [1, 1, 1, 1] (bodyOf Tryz.f102))] (FinX Tryz.prog Tryz.f102 [] (i64 r) []) ⟨[(3, .ptr 3 0), (4, i64 t4), (7, .ptr 7 0), (8, .sl false 4 t8.length ((ePl).f t8)), (9, i64 t9), (10, i64 t10)], [(3, ⟨true, 0, [i64 b3_0, i64 b3_1, i64 b3_2, i64 b3_3, i64 b3_4, i64 b3_5]⟩), (7, ⟨true, 0, [i64 b7_0, i64 b7_1, i64 b7_2]⟩)]⟩ := by
  unfold Dimpl_Rank_4 at h
  refine x_frk 4 [] onil h (by kernel_rfl) (fun h => ?_) (fun h => ?_)
  · obtain ⟨v6, hv6, h⟩ := bind_some h
    exact x_to 9 [(3, .call [] [] (.agg [i64 v6.1, i64 v6.2.1, i64 v6.2.2]) [])] (ocons (Timpl_crossOf (Y := Y) (b3_0, b3_1, b3_2) (b7_0, b7_1, b7_2) _ hv6) onil) (Timpl_Rank_1 n rec0 t8 t9 hrec0 t4 t10 (!(v6.1 == 0 && (v6.2.1 == 0 && (v6.2.2 == 0 && true)))) b3_0 b3_1 b3_2 b3_3 b3_4 b3_5 b7_0 b7_1 b7_2 r h) (by kernel_rfl)
  · exact x_to 11 [] onil (Timpl_Rank_3 n rec0 t8 t9 hrec0 t4 t10 b3_0 b3_1 b3_2 b3_3 b3_4 b3_5 b7_0 b7_1 b7_2 r h) (by kernel_rfl)
def Dimpl_Rank_5 (n : Nat) (t8 : List Pl) (t9 : Int) (rec0 : (Int × Int × Int × Int × Int × Int × Int × Int) → Option Int) (a : (Int × Int × Int × Int × Int × Int × Int × Int)) : Option Int :=
  match a with
  | (t4, t10, b3_0, b3_1, b3_2, b3_3, b3_4, b3_5) => frk (decide (t10 < t9)) ((lget t8 t10).bind fun v0 => (Dimpl_taken n v0).bind fun v1 => (Dimpl_normal v1).bind fun v2 => frk (t4 == 0) (Dimpl_Rank_0 n rec0 t8 t9 t4 t10 (!(v2.1 == 0 && (v2.2.1 == 0 && (v2.2.2 == 0 && true)))) b3_0 b3_1 b3_2 b3_3 b3_4 b3_5 v2.1 v2.2.1 v2.2.2) (Dimpl_Rank_4 n rec0 t8 t9 t4 t10 b3_0 b3_1 b3_2 b3_3 b3_4 b3_5 v2.1 v2.2.1 v2.2.2)) (some t4)
theorem Timpl_Rank_5 {Y} (n : Nat) (t8 : List Pl) (t9 : Int) : ∀ (m : Nat) (a : (Int × Int × Int × Int × Int × Int × Int × Int)) (r : Int), loopN (Dimpl_Rank_5 n t8 t9) m a = some r → Wk Tryz.prog H Y 102 [.code (cp [1, 1, 1, 0, 1, 0] (bodyOf Tryz.f102)), .blk 0, .code (cp [1, 1, 1, 1] (bodyOf Tryz.f102))] (FinX Tryz.prog Tryz.f102 [] (i64 r) []) ⟨[(3, .ptr 3 0), (4, i64 a.1), (8, .sl false 4 t8.length ((ePl).f t8)), (9, i64 t9), (10, i64 a.2.1)], [(3, ⟨true, 0, [i64 a.2.2.1, i64 a.2.2.2.1, i64 a.2.2.2.2.1, i64 a.2.2.2.2.2.1, i64 a.2.2.2.2.2.2.1, i64 a.2.2.2.2.2.2.2]⟩)]⟩ := by
  refine loopN_ind (fun rec0 hrec0 a r h => ?_)
  obtain ⟨t4, t10, b3_0, b3_1, b3_2, b3_3, b3_4, b3_5⟩ := a
  unfold Dimpl_Rank_5 at h
  refine x_frk 6 [] onil h (by kernel_rfl) (fun h => ?_) (fun h => ?_)
  · obtain ⟨v0, hv0, h⟩ := bind_some h
    obtain ⟨v1, hv1, h⟩ := bind_some h
    obtain ⟨v2, hv2, h⟩ := bind_some h
    refine x_frk 24 [(0, .val (.cptr (ePl.c v0 ++ (ePl).f ((t8).drop (Int.toNat t10 + 1))))), (4, .call [] [] (.agg [i64 v1.A, i64 v1.B, i64 v1.C, i64 v1.D]) []), (0, .call [] [] (.agg [i64 v2.1, i64 v2.2.1, i64 v2.2.2]) [])] (ocons (ix ePl hv0) (ocons (Timpl_taken (Y := Y) n v0 _ hv1) (ocons (Timpl_normal (Y := Y) v1 _ hv2) onil))) h (by kernel_rfl) (fun h => ?_) (fun h => ?_)
    · exact x_to 6 [] onil (Timpl_Rank_0 n rec0 t8 t9 hrec0 t4 t10 (!(v2.1 == 0 && (v2.2.1 == 0 && (v2.2.2 == 0 && true)))) b3_0 b3_1 b3_2 b3_3 b3_4 b3_5 v2.1 v2.2.1 v2.2.2 r h) (by kernel_rfl)
    · exact x_to 8 [] onil (Timpl_Rank_4 n rec0 t8 t9 hrec0 t4 t10 b3_0 b3_1 b3_2 b3_3 b3_4 b3_5 v2.1 v2.2.1 v2.2.2 r h) (by kernel_rfl)
  · replace h := Option.some.inj h; subst h
    exact x_end 6 [] [] onil onil (by kernel_rfl)
def Dimpl_Rank (n : Nat) (a0 : (List Pl)) : Option Int :=
  loopN (Dimpl_Rank_5 n a0 (a0.length : Int)) n (0, 0, 0, 0, 0, 0, 0, 0)
theorem Timpl_Rank {Y} (n : Nat) (a0 : (List Pl)) (r : Int) (h : Dimpl_Rank n a0 = some r) : Big Tryz.prog H Y (.call 102 [.sl false 4 a0.length ((ePl).f a0)] (lk []) (i64 r) (lk [])) := by
  unfold Dimpl_Rank at h
  refine x_call (fn := Tryz.f102) (c := bodyOf Tryz.f102) (bs0 := []) Tryz.func102 (by kernel_rfl) (by kernel_rfl) ?_
  exact x_to 20 [] onil (Timpl_Rank_5 n a0 (a0.length : Int) n (0, 0, 0, 0, 0, 0, 0, 0) r h) (by kernel_rfl)
end Evl.T
