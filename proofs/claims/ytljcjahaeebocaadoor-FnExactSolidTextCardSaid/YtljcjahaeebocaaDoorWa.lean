/- Walks. No condition. -/
import Derived.Test.YtljcjahaeebocaaDoorJm
import Derived.Test.YtljcjahaeebocaaDoorChecked
namespace Evl.T
open Go Evl Go.Proofs
set_option maxRecDepth 100000
def H : Hints := { mv := hasP [], own := hasP [], mt := hasP [(39, 0)], eqt := fun t => [36, 104].contains t, iv := TabIv Tryd.prog }
def YS := YT 32 20
theorem Titoa (a0 : Int) (r : ByteArray) (h : DItoa a0 = some r) : Big Tryd.prog H YS (.call 32 [i64 a0] (lk []) (.lit (.string r)) (lk [])) := Big.given Tryd.func32 rfl rfl (.inl ⟨rfl, a0, r, h, rfl, rfl, rfl, rfl⟩)
theorem Tjoin (a0 : List ByteArray) (a1 r : ByteArray) (h : DJoin a0 a1 = some r) : Big Tryd.prog H YS (.call 20 [.sl false 1 a0.length ((eStr).f a0), .lit (.string a1)] (lk []) (.lit (.string r)) (lk [])) := Big.given Tryd.func20 rfl rfl (.inr ⟨rfl, a0, a1, r, h, rfl, rfl, rfl, rfl⟩)
/-! laws.szSolidS -/
def Dlaws_szSolidS_in_0 (_n : Nat) (self : (Sol × Int) → Option Int) (t0 : List Sol) (rec0 : (Int × Int) → Option Int) (a : (Int × Int)) : Option Int :=
  match a with
  | (t1, t5) => frk (decide (t5 < (t0.length : Int))) ((lget t0 t5).bind fun v0 => (self (v0, t1)).bind fun v1 => frk (decide (v1 < 0)) (some (-1)) (rec0 (v1, w64 (t5 + 1)))) (some t1)
theorem Tlaws_szSolidS_in_0 (n : Nat) (self : (Sol × Int) → Option Int) (hself : ∀ (a : (Sol × Int)) (r : Int), self a = some r → Big Tryd.prog H YS (.call 10 [.agg [bl a.1.inn, i64 a.1.pl.A, i64 a.1.pl.B, i64 a.1.pl.C, i64 a.1.pl.D, .sl false 6 a.1.kids.length ((eSol false).f a.1.kids)], i64 a.2] (lk []) (i64 r) (lk []))) (t0 : List Sol) : ∀ (m : Nat) (a : (Int × Int)) (r : Int), loopN (Dlaws_szSolidS_in_0 n self t0) m a = some r → Wk Tryd.prog H YS 22 [.code (cp [1, 1, 1, 0, 1, 0] (bodyOf Tryd.f22)), .blk 0, .code (cp [1, 1, 1, 1] (bodyOf Tryd.f22))] (FinX Tryd.prog Tryd.f22 [] (i64 r) []) ⟨[(0, .sl false 6 t0.length ((eSol false).f t0)), (1, i64 a.1), (5, i64 a.2)], []⟩ := by
  refine loopN_ind (fun _rec0 hrec0 a r h => ?_)
  obtain ⟨t1, t5⟩ := a
  unfold Dlaws_szSolidS_in_0 at h
  refine x_frk 9 [] onil h (by kernel_rfl) (fun h => ?_) (fun h => ?_)
  · obtain ⟨v0, hv0, h⟩ := bind_some h
    obtain ⟨v1, hv1, h⟩ := bind_some h
    refine x_frk 18 [(2, .val (.cptr ((eSol false).c v0 ++ (eSol false).f ((t0).drop (Int.toNat t5 + 1))))), (2, .call [] [] (i64 v1) [])] (ocons (ix (eSol false) hv0) (ocons (hself (v0, t1) _ hv1) onil)) h (by kernel_rfl) (fun h => ?_) (fun h => ?_)
    · replace h := Option.some.inj h; subst h
      exact x_end 4 [] [] onil onil (by kernel_rfl)
    · exact x_to 8 [] onil (hrec0 (v1, w64 (t5 + 1)) r h) (by kernel_rfl)
  · replace h := Option.some.inj h; subst h
    exact x_end 6 [] [] onil onil (by kernel_rfl)
def Dlaws_szSolidS_in (n : Nat) (self : (Sol × Int) → Option Int) (a0 : (List Sol)) (a1 : Int) : Option Int :=
  frk (decide ((w64 (a1 - (a0.length : Int))) < 0)) (some (-1)) (loopN (Dlaws_szSolidS_in_0 n self a0) n (w64 (a1 - (a0.length : Int)), 0))
theorem Tlaws_szSolidS_in (n : Nat) (self : (Sol × Int) → Option Int) (hself : ∀ (a : (Sol × Int)) (r : Int), self a = some r → Big Tryd.prog H YS (.call 10 [.agg [bl a.1.inn, i64 a.1.pl.A, i64 a.1.pl.B, i64 a.1.pl.C, i64 a.1.pl.D, .sl false 6 a.1.kids.length ((eSol false).f a.1.kids)], i64 a.2] (lk []) (i64 r) (lk []))) (a0 : (List Sol)) (a1 r : Int) (h : Dlaws_szSolidS_in n self a0 a1 = some r) : Big Tryd.prog H YS (.call 22 [.sl false 6 a0.length ((eSol false).f a0), i64 a1] (lk []) (i64 r) (lk [])) := by
  unfold Dlaws_szSolidS_in at h
  refine x_call (fn := Tryd.f22) (c := bodyOf Tryd.f22) (bs0 := []) Tryd.func22 (by kernel_rfl) (by kernel_rfl) ?_
  refine x_frk 18 [] onil h (by kernel_rfl) (fun h => ?_) (fun h => ?_)
  · replace h := Option.some.inj h; subst h
    exact x_end 4 [] [] onil onil (by kernel_rfl)
  · exact x_to 7 [] onil (Tlaws_szSolidS_in_0 n self hself a0 n (w64 (a1 - (a0.length : Int)), 0) r h) (by kernel_rfl)
/-! laws.szSolid -/
def Dlaws_szSolid_b (n : Nat) (self : (Sol × Int) → Option Int) (a : (Sol × Int)) : Option Int :=
  match a with
  | (a0, a1) => (Dlaws_szSolidS_in n self a0.kids a1).bind fun v0 => frk (decide (v0 < 0)) (some (-1)) (some v0)
def Dlaws_szSolid (n : Nat) (a0 : Sol) (a1 : Int) : Option Int := loopN (Dlaws_szSolid_b n) n (a0, a1)
theorem Tlaws_szSolid_b (n : Nat) : ∀ (m : Nat) (a : (Sol × Int)) (r : Int), loopN (Dlaws_szSolid_b n) m a = some r → ∀ (_ : Unit), Big Tryd.prog H YS (.call 10 [.agg [bl a.1.inn, i64 a.1.pl.A, i64 a.1.pl.B, i64 a.1.pl.C, i64 a.1.pl.D, .sl false 6 a.1.kids.length ((eSol false).f a.1.kids)], i64 a.2] (lk []) (i64 r) (lk [])) := by
  refine loopN_ind (fun self hs a r h => ?_)
  have hself : ∀ (a : (Sol × Int)) (r : Int), self a = some r → Big Tryd.prog H YS (.call 10 [.agg [bl a.1.inn, i64 a.1.pl.A, i64 a.1.pl.B, i64 a.1.pl.C, i64 a.1.pl.D, .sl false 6 a.1.kids.length ((eSol false).f a.1.kids)], i64 a.2] (lk []) (i64 r) (lk [])) := fun a r h => hs a r h ()
  intro _
  obtain ⟨a0, a1⟩ := a
  unfold Dlaws_szSolid_b at h
  refine x_call (fn := Tryd.f10) (c := bodyOf Tryd.f10) (bs0 := []) Tryd.func10 (by kernel_rfl) (by kernel_rfl) ?_
  obtain ⟨v0, hv0, h⟩ := bind_some h
  refine x_frk 19 [(5, .call [] [] (i64 v0) [])] (ocons (Tlaws_szSolidS_in n self hself a0.kids a1 _ hv0) onil) h (by kernel_rfl) (fun h => ?_) (fun h => ?_)
  · replace h := Option.some.inj h; subst h
    exact x_end 4 [] [] onil onil (by kernel_rfl)
  · replace h := Option.some.inj h; subst h
    exact x_end 6 [] [] onil onil (by kernel_rfl)
theorem Tlaws_szSolid (n : Nat) (a0 : Sol) (a1 r : Int) (h : Dlaws_szSolid n a0 a1 = some r) : Big Tryd.prog H YS (.call 10 [.agg [bl a0.inn, i64 a0.pl.A, i64 a0.pl.B, i64 a0.pl.C, i64 a0.pl.D, .sl false 6 a0.kids.length ((eSol false).f a0.kids)], i64 a1] (lk []) (i64 r) (lk [])) := Tlaws_szSolid_b n n (a0, a1) r h ()
/-! laws.toPlane -/
def Dlaws_toPlane (a0 : Pl) : Option Pl :=
  some a0
theorem Tlaws_toPlane (a0 : Pl) (r : Pl) (h : Dlaws_toPlane a0 = some r) : Big Tryd.prog H YS (.call 17 [.agg [i64 a0.A, i64 a0.B, i64 a0.C, i64 a0.D]] (lk []) (.agg [i64 r.A, i64 r.B, i64 r.C, i64 r.D]) (lk [])) := by
  unfold Dlaws_toPlane at h
  refine x_call (fn := Tryd.f17) (c := bodyOf Tryd.f17) (bs0 := []) Tryd.func17 (by kernel_rfl) (by kernel_rfl) ?_
  replace h := Option.some.inj h; subst h
  exact x_end 42 [] [] onil onil (by kernel_rfl)
/-! laws.toSolidS -/
def Dlaws_toSolidS_in_0 (_n : Nat) (self : Sol → Option Sol) (t0 : List Sol) (rec0 : (Int × List Sol) → Option (List Sol)) (a : (Int × List Sol)) : Option (List Sol) :=
  match a with
  | (t4, l7) => frk (decide (t4 < (t0.length : Int))) ((lget t0 t4).bind fun v1 => (self v1).bind fun v2 => (lget l7 t4).bind fun _v3 => rec0 (w64 (t4 + 1), (l7.set (Int.toNat t4) v2))) (some l7)
theorem Tlaws_toSolidS_in_0 (n : Nat) (self : Sol → Option Sol) (hself : ∀ (a : Sol) (r : Sol), self a = some r → Big Tryd.prog H YS (.call 12 [.agg [bl a.inn, i64 a.pl.A, i64 a.pl.B, i64 a.pl.C, i64 a.pl.D, .sl false 6 a.kids.length ((eSol false).f a.kids)]] (lk []) (.agg [bl r.inn, i64 r.pl.A, i64 r.pl.B, i64 r.pl.C, i64 r.pl.D, .sl true 6 r.kids.length ((eSol true).f r.kids)]) (lk []))) (t0 : List Sol) : ∀ (m : Nat) (a : (Int × List Sol)) (r : (List Sol)), loopN (Dlaws_toSolidS_in_0 n self t0) m a = some r → Wk Tryd.prog H YS 25 [.code (cp [1, 1, 0, 1, 0] (bodyOf Tryd.f25)), .blk 0, .code (cp [1, 1, 1] (bodyOf Tryd.f25))] (FinX Tryd.prog Tryd.f25 [] (.sl true 6 r.length ((eSol true).f r)) []) ⟨[(0, .sl false 6 t0.length ((eSol false).f t0)), (3, .msl 7 a.2.length), (4, i64 a.1)], [(7, ⟨true, 6, (eSol true).f a.2⟩)]⟩ := by
  refine loopN_ind (fun _rec0 hrec0 a r h => ?_)
  obtain ⟨t4, l7⟩ := a
  unfold Dlaws_toSolidS_in_0 at h
  refine x_frk 9 [] onil h (by kernel_rfl) (fun h => ?_) (fun h => ?_)
  · obtain ⟨v1, hv1, h⟩ := bind_some h
    obtain ⟨v2, hv2, h⟩ := bind_some h
    obtain ⟨_v3, hv3, h⟩ := bind_some h
    exact x_to 23 [(4, .val (.cptr ((eSol false).c v1 ++ (eSol false).f ((t0).drop (Int.toNat t4 + 1))))), (1, .call [] [] (.agg [bl v2.inn, i64 v2.pl.A, i64 v2.pl.B, i64 v2.pl.C, i64 v2.pl.D, .sl true 6 v2.kids.length ((eSol true).f v2.kids)]) []), (0, .unit), (0, .cells ((eSol true).f (l7.set (Int.toNat t4) v2))), (0, .fix 3 (.msl 7 (l7.set (Int.toNat t4) v2).length)), (0, .fix 14 (.msl 7 (l7.set (Int.toNat t4) v2).length))] (ocons (ix (eSol false) hv1) (ocons (hself v1 _ hv2) (ocons (inr hv3) (ocons (stA (eSol true) hv3 0 6 [bl v2.inn, i64 v2.pl.A, i64 v2.pl.B, i64 v2.pl.C, i64 v2.pl.D, .sl true 6 v2.kids.length ((eSol true).f v2.kids)] v2 rfl rfl) (ocons (setLen 7 l7 (Int.toNat t4) v2) (ocons (setLen 7 l7 (Int.toNat t4) v2) onil)))))) (hrec0 (w64 (t4 + 1), (l7.set (Int.toNat t4) v2)) r h) (by kernel_rfl)
  · replace h := Option.some.inj h; subst h
    exact x_end 6 [] [] onil (ocons (len_row (L := l7) (eSol true)) onil) (by kernel_rfl)
def Dlaws_toSolidS_in (n : Nat) (self : Sol → Option Sol) (a0 : (List Sol)) : Option (List Sol) :=
  chk (mkB (a0.length : Int) 64) (loopN (Dlaws_toSolidS_in_0 n self a0) n (0, (List.replicate (Int.toNat (a0.length : Int)) zSol)))
theorem Tlaws_toSolidS_in (n : Nat) (self : Sol → Option Sol) (hself : ∀ (a : Sol) (r : Sol), self a = some r → Big Tryd.prog H YS (.call 12 [.agg [bl a.inn, i64 a.pl.A, i64 a.pl.B, i64 a.pl.C, i64 a.pl.D, .sl false 6 a.kids.length ((eSol false).f a.kids)]] (lk []) (.agg [bl r.inn, i64 r.pl.A, i64 r.pl.B, i64 r.pl.C, i64 r.pl.D, .sl true 6 r.kids.length ((eSol true).f r.kids)]) (lk []))) (a0 : (List Sol)) (r : (List Sol)) (h : Dlaws_toSolidS_in n self a0 = some r) : Big Tryd.prog H YS (.call 25 [.sl false 6 a0.length ((eSol false).f a0)] (lk []) (.sl true 6 r.length ((eSol true).f r)) (lk [])) := by
  unfold Dlaws_toSolidS_in at h
  refine x_call (fn := Tryd.f25) (c := bodyOf Tryd.f25) (bs0 := []) Tryd.func25 (by kernel_rfl) (by kernel_rfl) ?_
  obtain ⟨c0, h⟩ := chk_some h
  exact x_to 20 [(3, .mk (List.replicate (Int.toNat (a0.length : Int)) ()).length (eZs.f (List.replicate (Int.toNat (a0.length : Int)) ()))), (1, .wkb 7 ⟨true, 6, eZs.f (List.replicate (Int.toNat (a0.length : Int)) ())⟩ ⟨true, 6, (eSol true).f (List.replicate (Int.toNat (a0.length : Int)) zSol)⟩), (0, .fix 3 (.msl 7 (List.replicate (Int.toNat (a0.length : Int)) zSol).length)), (0, .fix 7 (.msl 7 (List.replicate (Int.toNat (a0.length : Int)) zSol).length))] (ocons (rflI (a0.length : Int)) (ocons (mkOk eZs c0 () rfl) (ocons (rflB ⟨true, 6, eZs.f (List.replicate (Int.toNat (a0.length : Int)) ())⟩) (ocons (wkZs true true (Int.toNat (a0.length : Int))) (ocons (congrArg (AV.msl 7) (zLen (Int.toNat (a0.length : Int)))) (ocons (congrArg (AV.msl 7) (zLen (Int.toNat (a0.length : Int)))) onil)))))) (Tlaws_toSolidS_in_0 n self hself a0 n (0, (List.replicate (Int.toNat (a0.length : Int)) zSol)) r h) (by kernel_rfl)
/-! laws.toSolid -/
def Dlaws_toSolid_b (n : Nat) (self : Sol → Option Sol) (a : Sol) : Option Sol :=
  match a with
  | a0 => (Dlaws_toPlane a0.pl).bind fun v0 => (Dlaws_toSolidS_in n self a0.kids).bind fun v1 => some (Sol.mk a0.inn v0 v1)
def Dlaws_toSolid (n : Nat) (a0 : Sol) : Option Sol := loopN (Dlaws_toSolid_b n) n a0
theorem Tlaws_toSolid_b (n : Nat) : ∀ (m : Nat) (a : Sol) (r : Sol), loopN (Dlaws_toSolid_b n) m a = some r → ∀ (_ : Unit), Big Tryd.prog H YS (.call 12 [.agg [bl a.inn, i64 a.pl.A, i64 a.pl.B, i64 a.pl.C, i64 a.pl.D, .sl false 6 a.kids.length ((eSol false).f a.kids)]] (lk []) (.agg [bl r.inn, i64 r.pl.A, i64 r.pl.B, i64 r.pl.C, i64 r.pl.D, .sl true 6 r.kids.length ((eSol true).f r.kids)]) (lk [])) := by
  refine loopN_ind (fun self hs a r h => ?_)
  have hself : ∀ (a : Sol) (r : Sol), self a = some r → Big Tryd.prog H YS (.call 12 [.agg [bl a.inn, i64 a.pl.A, i64 a.pl.B, i64 a.pl.C, i64 a.pl.D, .sl false 6 a.kids.length ((eSol false).f a.kids)]] (lk []) (.agg [bl r.inn, i64 r.pl.A, i64 r.pl.B, i64 r.pl.C, i64 r.pl.D, .sl true 6 r.kids.length ((eSol true).f r.kids)]) (lk [])) := fun a r h => hs a r h ()
  intro _
  obtain ⟨a0, rfl⟩ : ∃ x, x = a := ⟨a, rfl⟩
  unfold Dlaws_toSolid_b at h
  refine x_call (fn := Tryd.f12) (c := bodyOf Tryd.f12) (bs0 := []) Tryd.func12 (by kernel_rfl) (by kernel_rfl) ?_
  obtain ⟨v0, hv0, h⟩ := bind_some h
  obtain ⟨v1, hv1, h⟩ := bind_some h
  replace h := Option.some.inj h; subst h
  exact x_end 37 [(9, .call [] [] (.agg [i64 v0.A, i64 v0.B, i64 v0.C, i64 v0.D]) []), (4, .call [] [] (.sl true 6 v1.length ((eSol true).f v1)) [])] [] (ocons (Tlaws_toPlane a0.pl _ hv0) (ocons (Tlaws_toSolidS_in n self hself a0.kids _ hv1) onil)) (ocons (len_row (L := v1) (eSol true)) onil) (by kernel_rfl)
theorem Tlaws_toSolid (n : Nat) (a0 : Sol) (r : Sol) (h : Dlaws_toSolid n a0 = some r) : Big Tryd.prog H YS (.call 12 [.agg [bl a0.inn, i64 a0.pl.A, i64 a0.pl.B, i64 a0.pl.C, i64 a0.pl.D, .sl false 6 a0.kids.length ((eSol false).f a0.kids)]] (lk []) (.agg [bl r.inn, i64 r.pl.A, i64 r.pl.B, i64 r.pl.C, i64 r.pl.D, .sl true 6 r.kids.length ((eSol true).f r.kids)]) (lk [])) := Tlaws_toSolid_b n n a0 r h ()
/-! spec.l8Leaf -/
def Dspec_l8Leaf (a0 : Sol) : Option Bool :=
  some ((a0.kids.length : Int) == 0)
theorem Tspec_l8Leaf (a0 : Sol) (r : Bool) (h : Dspec_l8Leaf a0 = some r) : Big Tryd.prog H YS (.call 38 [.agg [bl a0.inn, i64 a0.pl.A, i64 a0.pl.B, i64 a0.pl.C, i64 a0.pl.D, .sl false 6 a0.kids.length ((eSol false).f a0.kids)]] (lk []) (bl r) (lk [])) := by
  unfold Dspec_l8Leaf at h
  refine x_call (fn := Tryd.f38) (c := bodyOf Tryd.f38) (bs0 := []) Tryd.func38 (by kernel_rfl) (by kernel_rfl) ?_
  replace h := Option.some.inj h; subst h
  exact x_end 13 [] [] onil onil (by kernel_rfl)
/-! spec.l8Count -/
def Dspec_l8Count_1 (_n : Nat) (self : (Sol × Int) → Option Int) (t1 : Int) (_b2_0 : Bool) (_b2_1 _b2_2 _b2_3 _b2_4 : Int) (b2_5 : List Sol) (rec0 : (Int × Int) → Option Int) (a : (Int × Int)) : Option Int :=
  match a with
  | (t5, t6) => frk (decide (t6 < (b2_5.length : Int))) ((lget b2_5 t6).bind fun v1 => (self (v1, w64 (t1 - t5))).bind fun v2 => rec0 (w64 (t5 + v2), w64 (t6 + 1))) (some t5)
theorem Tspec_l8Count_1 (n : Nat) (self : (Sol × Int) → Option Int) (hself : ∀ (a : (Sol × Int)) (r : Int), self a = some r → Big Tryd.prog H YS (.call 36 [.agg [bl a.1.inn, i64 a.1.pl.A, i64 a.1.pl.B, i64 a.1.pl.C, i64 a.1.pl.D, .sl false 6 a.1.kids.length ((eSol false).f a.1.kids)], i64 a.2] (lk []) (i64 r) (lk []))) (t1 : Int) (b2_0 : Bool) (b2_1 b2_2 b2_3 b2_4 : Int) (b2_5 : List Sol) : ∀ (m : Nat) (a : (Int × Int)) (r : Int), loopN (Dspec_l8Count_1 n self t1 b2_0 b2_1 b2_2 b2_3 b2_4 b2_5) m a = some r → Wk Tryd.prog H YS 36 [.code (cp [1, 1, 1, 0, 1, 0] (bodyOf Tryd.f36)), .blk 0, .code (cp [1, 1, 1, 1] (bodyOf Tryd.f36))] (FinX Tryd.prog Tryd.f36 [] (i64 r) []) ⟨[(1, i64 t1), (2, .ptr 2 0), (5, i64 a.1), (6, i64 a.2)], [(2, ⟨true, 0, [bl b2_0, i64 b2_1, i64 b2_2, i64 b2_3, i64 b2_4, .sl false 6 b2_5.length ((eSol false).f b2_5)]⟩)]⟩ := by
  refine loopN_ind (fun _rec0 hrec0 a r h => ?_)
  obtain ⟨t5, t6⟩ := a
  unfold Dspec_l8Count_1 at h
  refine x_frk 10 [] onil h (by kernel_rfl) (fun h => ?_) (fun h => ?_)
  · obtain ⟨v1, hv1, h⟩ := bind_some h
    obtain ⟨v2, hv2, h⟩ := bind_some h
    exact x_to 24 [(4, .val (.cptr ((eSol false).c v1 ++ (eSol false).f ((b2_5).drop (Int.toNat t6 + 1))))), (4, .call [] [] (i64 v2) [])] (ocons (ix (eSol false) hv1) (ocons (hself (v1, w64 (t1 - t5)) _ hv2) onil)) (hrec0 (w64 (t5 + v2), w64 (t6 + 1)) r h) (by kernel_rfl)
  · replace h := Option.some.inj h; subst h
    exact x_end 6 [] [] onil onil (by kernel_rfl)
def Dspec_l8Count_0 (n : Nat) (self : (Sol × Int) → Option Int) (t1 : Int) (t12 b2_0 : Bool) (b2_1 b2_2 b2_3 b2_4 : Int) (b2_5 : List Sol) : Option Int :=
  frk t12 (some 0) (loopN (Dspec_l8Count_1 n self t1 b2_0 b2_1 b2_2 b2_3 b2_4 b2_5) n (1, 0))
theorem Tspec_l8Count_0 (n : Nat) (self : (Sol × Int) → Option Int) (hself : ∀ (a : (Sol × Int)) (r : Int), self a = some r → Big Tryd.prog H YS (.call 36 [.agg [bl a.1.inn, i64 a.1.pl.A, i64 a.1.pl.B, i64 a.1.pl.C, i64 a.1.pl.D, .sl false 6 a.1.kids.length ((eSol false).f a.1.kids)], i64 a.2] (lk []) (i64 r) (lk []))) (t1 : Int) (t12 b2_0 : Bool) (b2_1 b2_2 b2_3 b2_4 : Int) (b2_5 : List Sol) (r : Int) (h : Dspec_l8Count_0 n self t1 t12 b2_0 b2_1 b2_2 b2_3 b2_4 b2_5 = some r) : Wk Tryd.prog H YS 36 [.code (cp [1, 0, 1] (bodyOf Tryd.f36)), .code (cp [1, 1] (bodyOf Tryd.f36))] (FinX Tryd.prog Tryd.f36 [] (i64 r) []) ⟨[(1, i64 t1), (2, .ptr 2 0), (12, bl t12)], [(2, ⟨true, 0, [bl b2_0, i64 b2_1, i64 b2_2, i64 b2_3, i64 b2_4, .sl false 6 b2_5.length ((eSol false).f b2_5)]⟩)]⟩ := by
  unfold Dspec_l8Count_0 at h
  refine x_frk 0 [] onil h (by kernel_rfl) (fun h => ?_) (fun h => ?_)
  · replace h := Option.some.inj h; subst h
    exact x_end 4 [] [] onil onil (by kernel_rfl)
  · exact x_to 11 [] onil (Tspec_l8Count_1 n self hself t1 b2_0 b2_1 b2_2 b2_3 b2_4 b2_5 n (1, 0) r h) (by kernel_rfl)
def Dspec_l8Count_b (n : Nat) (self : (Sol × Int) → Option Int) (a : (Sol × Int)) : Option Int :=
  match a with
  | (a0, a1) => (Dspec_l8Leaf a0).bind fun v0 => frk v0 (some 0) (Dspec_l8Count_0 n self a1 (decide (a1 ≤ 0)) a0.inn a0.pl.A a0.pl.B a0.pl.C a0.pl.D a0.kids)
def Dspec_l8Count (n : Nat) (a0 : Sol) (a1 : Int) : Option Int := loopN (Dspec_l8Count_b n) n (a0, a1)
theorem Tspec_l8Count_b (n : Nat) : ∀ (m : Nat) (a : (Sol × Int)) (r : Int), loopN (Dspec_l8Count_b n) m a = some r → ∀ (_ : Unit), Big Tryd.prog H YS (.call 36 [.agg [bl a.1.inn, i64 a.1.pl.A, i64 a.1.pl.B, i64 a.1.pl.C, i64 a.1.pl.D, .sl false 6 a.1.kids.length ((eSol false).f a.1.kids)], i64 a.2] (lk []) (i64 r) (lk [])) := by
  refine loopN_ind (fun self hs a r h => ?_)
  have hself : ∀ (a : (Sol × Int)) (r : Int), self a = some r → Big Tryd.prog H YS (.call 36 [.agg [bl a.1.inn, i64 a.1.pl.A, i64 a.1.pl.B, i64 a.1.pl.C, i64 a.1.pl.D, .sl false 6 a.1.kids.length ((eSol false).f a.1.kids)], i64 a.2] (lk []) (i64 r) (lk [])) := fun a r h => hs a r h ()
  intro _
  obtain ⟨a0, a1⟩ := a
  unfold Dspec_l8Count_b at h
  refine x_call (fn := Tryd.f36) (c := bodyOf Tryd.f36) (bs0 := []) Tryd.func36 (by kernel_rfl) (by kernel_rfl) ?_
  obtain ⟨v0, hv0, h⟩ := bind_some h
  refine x_frk 11 [(3, .call [] [] (bl v0) [])] (ocons (Tspec_l8Leaf a0 _ hv0) onil) h (by kernel_rfl) (fun h => ?_) (fun h => ?_)
  · replace h := Option.some.inj h; subst h
    exact x_end 9 [] [] onil onil (by kernel_rfl)
  · exact x_to 4 [] onil (Tspec_l8Count_0 n self hself a1 (decide (a1 ≤ 0)) a0.inn a0.pl.A a0.pl.B a0.pl.C a0.pl.D a0.kids r h) (by kernel_rfl)
theorem Tspec_l8Count (n : Nat) (a0 : Sol) (a1 r : Int) (h : Dspec_l8Count n a0 a1 = some r) : Big Tryd.prog H YS (.call 36 [.agg [bl a0.inn, i64 a0.pl.A, i64 a0.pl.B, i64 a0.pl.C, i64 a0.pl.D, .sl false 6 a0.kids.length ((eSol false).f a0.kids)], i64 a1] (lk []) (i64 r) (lk [])) := Tspec_l8Count_b n n (a0, a1) r h ()
/-! spec.l1In -/
def Dspec_l1In (a0 a1 a2 : Int) : Option Bool :=
  frk (decide (a0 ≥ a1)) (some (decide (a0 ≤ a2))) (some false)
theorem Tspec_l1In (a0 a1 a2 : Int) (r : Bool) (h : Dspec_l1In a0 a1 a2 = some r) : Big Tryd.prog H YS (.call 56 [i64 a0, i64 a1, i64 a2] (lk []) (bl r) (lk [])) := by
  unfold Dspec_l1In at h
  refine x_call (fn := Tryd.f56) (c := bodyOf Tryd.f56) (bs0 := []) Tryd.func56 (by kernel_rfl) (by kernel_rfl) ?_
  refine x_frk 10 [] onil h (by kernel_rfl) (fun h => ?_) (fun h => ?_)
  · replace h := Option.some.inj h; subst h
    exact x_end 6 [] [] onil onil (by kernel_rfl)
  · replace h := Option.some.inj h; subst h
    exact x_end 6 [] [] onil onil (by kernel_rfl)
/-! spec.l3In -/
def Dspec_l3In (a0 : Pl) : Option Bool :=
  (Dspec_l1In a0.A (-500) 500).bind fun v0 => frk v0 ((Dspec_l1In a0.B (-500) 500).bind fun v1 => frk v1 ((Dspec_l1In a0.C (-500) 500).bind fun v2 => frk v2 ((Dspec_l1In a0.D (-500) 500).bind fun v3 => some v3) (some false)) (some false)) (some false)
theorem Tspec_l3In (a0 : Pl) (r : Bool) (h : Dspec_l3In a0 = some r) : Big Tryd.prog H YS (.call 41 [.agg [i64 a0.A, i64 a0.B, i64 a0.C, i64 a0.D]] (lk []) (bl r) (lk [])) := by
  unfold Dspec_l3In at h
  refine x_call (fn := Tryd.f41) (c := bodyOf Tryd.f41) (bs0 := []) Tryd.func41 (by kernel_rfl) (by kernel_rfl) ?_
  obtain ⟨v0, hv0, h⟩ := bind_some h
  refine x_frk 18 [(8, .call [] [] (bl v0) [])] (ocons (Tspec_l1In a0.A (-500) 500 _ hv0) onil) h (by kernel_rfl) (fun h => ?_) (fun h => ?_)
  · obtain ⟨v1, hv1, h⟩ := bind_some h
    refine x_frk 8 [(5, .call [] [] (bl v1) [])] (ocons (Tspec_l1In a0.B (-500) 500 _ hv1) onil) h (by kernel_rfl) (fun h => ?_) (fun h => ?_)
    · obtain ⟨v2, hv2, h⟩ := bind_some h
      refine x_frk 8 [(5, .call [] [] (bl v2) [])] (ocons (Tspec_l1In a0.C (-500) 500 _ hv2) onil) h (by kernel_rfl) (fun h => ?_) (fun h => ?_)
      · obtain ⟨v3, hv3, h⟩ := bind_some h
        replace h := Option.some.inj h; subst h
        exact x_end 9 [(5, .call [] [] (bl v3) [])] [] (ocons (Tspec_l1In a0.D (-500) 500 _ hv3) onil) onil (by kernel_rfl)
      · replace h := Option.some.inj h; subst h
        exact x_end 9 [] [] onil onil (by kernel_rfl)
    · replace h := Option.some.inj h; subst h
      exact x_end 17 [] [] onil onil (by kernel_rfl)
  · replace h := Option.some.inj h; subst h
    exact x_end 25 [] [] onil onil (by kernel_rfl)
/-! spec.l3Abs -/
def Dspec_l3Abs (a0 : Int) : Option Int :=
  frk (decide (a0 < 0)) (some (w64 (0 - a0))) (some a0)
theorem Tspec_l3Abs (a0 r : Int) (h : Dspec_l3Abs a0 = some r) : Big Tryd.prog H YS (.call 57 [i64 a0] (lk []) (i64 r) (lk [])) := by
  unfold Dspec_l3Abs at h
  refine x_call (fn := Tryd.f57) (c := bodyOf Tryd.f57) (bs0 := []) Tryd.func57 (by kernel_rfl) (by kernel_rfl) ?_
  refine x_frk 10 [] onil h (by kernel_rfl) (fun h => ?_) (fun h => ?_)
  · replace h := Option.some.inj h; subst h
    exact x_end 6 [] [] onil onil (by kernel_rfl)
  · replace h := Option.some.inj h; subst h
    exact x_end 6 [] [] onil onil (by kernel_rfl)
/-! spec.l3Gcd -/
def Dspec_l3Gcd_0 (_n : Nat) (rec0 : (Int × Int) → Option Int) (a : (Int × Int)) : Option Int :=
  match a with
  | (t0, t1) => frk (decide (t1 > 0)) ((rm .i64 t0 t1).bind fun v2 => rec0 (t1, v2)) (some t0)
theorem Tspec_l3Gcd_0 (n : Nat) : ∀ (m : Nat) (a : (Int × Int)) (r : Int), loopN (Dspec_l3Gcd_0 n) m a = some r → Wk Tryd.prog H YS 42 [.code (cp [1, 1, 1, 0, 0] (bodyOf Tryd.f42)), .blk 0, .code (cp [1, 1, 1, 1] (bodyOf Tryd.f42))] (FinX Tryd.prog Tryd.f42 [] (i64 r) []) ⟨[(0, i64 a.1), (1, i64 a.2)], []⟩ := by
  refine loopN_ind (fun _rec0 hrec0 a r h => ?_)
  obtain ⟨_t0, t1⟩ := a
  unfold Dspec_l3Gcd_0 at h
  refine x_frk 7 [] onil h (by kernel_rfl) (fun h => ?_) (fun h => ?_)
  · obtain ⟨v2, hv2, h⟩ := bind_some h
    exact x_to 20 [(2, .val (i64 v2))] (ocons (rmOk hv2) onil) (hrec0 (t1, v2) r h) (by kernel_rfl)
  · replace h := Option.some.inj h; subst h
    exact x_end 6 [] [] onil onil (by kernel_rfl)
def Dspec_l3Gcd (n : Nat) (a0 a1 : Int) : Option Int :=
  (Dspec_l3Abs a0).bind fun v0 => (Dspec_l3Abs a1).bind fun v1 => loopN (Dspec_l3Gcd_0 n) n (v0, v1)
theorem Tspec_l3Gcd (n : Nat) (a0 a1 r : Int) (h : Dspec_l3Gcd n a0 a1 = some r) : Big Tryd.prog H YS (.call 42 [i64 a0, i64 a1] (lk []) (i64 r) (lk [])) := by
  unfold Dspec_l3Gcd at h
  refine x_call (fn := Tryd.f42) (c := bodyOf Tryd.f42) (bs0 := []) Tryd.func42 (by kernel_rfl) (by kernel_rfl) ?_
  obtain ⟨v0, hv0, h⟩ := bind_some h
  obtain ⟨v1, hv1, h⟩ := bind_some h
  exact x_to 18 [(2, .call [] [] (i64 v0) []), (2, .call [] [] (i64 v1) [])] (ocons (Tspec_l3Abs a0 _ hv0) (ocons (Tspec_l3Abs a1 _ hv1) onil)) (Tspec_l3Gcd_0 n n (v0, v1) r h) (by kernel_rfl)
/-! spec.PlaneOk -/
def Dspec_PlaneOk (n : Nat) (a0 : Pl) : Option Bool :=
  (Dspec_l3In a0).bind fun v0 => frk v0 (frk (a0.A != 0) ((Dspec_l3Gcd n a0.A a0.B).bind fun v1 => (Dspec_l3Gcd n a0.C a0.D).bind fun v2 => (Dspec_l3Gcd n v1 v2).bind fun v3 => some (v3 == 1)) (frk (a0.B != 0) ((Dspec_l3Gcd n a0.A a0.B).bind fun v4 => (Dspec_l3Gcd n a0.C a0.D).bind fun v5 => (Dspec_l3Gcd n v4 v5).bind fun v6 => some (v6 == 1)) (frk (a0.C != 0) ((Dspec_l3Gcd n a0.A a0.B).bind fun v7 => (Dspec_l3Gcd n a0.C a0.D).bind fun v8 => (Dspec_l3Gcd n v7 v8).bind fun v9 => some (v9 == 1)) (some false)))) (some false)
theorem Tspec_PlaneOk (n : Nat) (a0 : Pl) (r : Bool) (h : Dspec_PlaneOk n a0 = some r) : Big Tryd.prog H YS (.call 29 [.agg [i64 a0.A, i64 a0.B, i64 a0.C, i64 a0.D]] (lk []) (bl r) (lk [])) := by
  unfold Dspec_PlaneOk at h
  refine x_call (fn := Tryd.f29) (c := bodyOf Tryd.f29) (bs0 := []) Tryd.func29 (by kernel_rfl) (by kernel_rfl) ?_
  obtain ⟨v0, hv0, h⟩ := bind_some h
  refine x_frk 10 [(3, .call [] [] (bl v0) [])] (ocons (Tspec_l3In a0 _ hv0) onil) h (by kernel_rfl) (fun h => ?_) (fun h => ?_)
  · refine x_frk 4 [] onil h (by kernel_rfl) (fun h => ?_) (fun h => ?_)
    · obtain ⟨v1, hv1, h⟩ := bind_some h
      obtain ⟨v2, hv2, h⟩ := bind_some h
      obtain ⟨v3, hv3, h⟩ := bind_some h
      replace h := Option.some.inj h; subst h
      exact x_end 26 [(15, .call [] [] (i64 v1) []), (4, .call [] [] (i64 v2) []), (0, .call [] [] (i64 v3) [])] [] (ocons (Tspec_l3Gcd n a0.A a0.B _ hv1) (ocons (Tspec_l3Gcd n a0.C a0.D _ hv2) (ocons (Tspec_l3Gcd n v1 v2 _ hv3) onil))) onil (by kernel_rfl)
    · refine x_frk 5 [] onil h (by kernel_rfl) (fun h => ?_) (fun h => ?_)
      · obtain ⟨v4, hv4, h⟩ := bind_some h
        obtain ⟨v5, hv5, h⟩ := bind_some h
        obtain ⟨v6, hv6, h⟩ := bind_some h
        replace h := Option.some.inj h; subst h
        exact x_end 21 [(10, .call [] [] (i64 v4) []), (4, .call [] [] (i64 v5) []), (0, .call [] [] (i64 v6) [])] [] (ocons (Tspec_l3Gcd n a0.A a0.B _ hv4) (ocons (Tspec_l3Gcd n a0.C a0.D _ hv5) (ocons (Tspec_l3Gcd n v4 v5 _ hv6) onil))) onil (by kernel_rfl)
      · refine x_frk 6 [] onil h (by kernel_rfl) (fun h => ?_) (fun h => ?_)
        · obtain ⟨v7, hv7, h⟩ := bind_some h
          obtain ⟨v8, hv8, h⟩ := bind_some h
          obtain ⟨v9, hv9, h⟩ := bind_some h
          replace h := Option.some.inj h; subst h
          exact x_end 15 [(4, .call [] [] (i64 v7) []), (4, .call [] [] (i64 v8) []), (0, .call [] [] (i64 v9) [])] [] (ocons (Tspec_l3Gcd n a0.A a0.B _ hv7) (ocons (Tspec_l3Gcd n a0.C a0.D _ hv8) (ocons (Tspec_l3Gcd n v7 v8 _ hv9) onil))) onil (by kernel_rfl)
        · replace h := Option.some.inj h; subst h
          exact x_end 15 [] [] onil onil (by kernel_rfl)
  · replace h := Option.some.inj h; subst h
    exact x_end 30 [] [] onil onil (by kernel_rfl)
/-! spec.l4Cross -/
def Dspec_l4Cross (a0 : Pl) (a1 : Pl) : Option (Int × Int × Int) :=
  some (w64 ((w64 (a0.B * a1.C)) - (w64 (a0.C * a1.B))), w64 ((w64 (a0.C * a1.A)) - (w64 (a0.A * a1.C))), w64 ((w64 (a0.A * a1.B)) - (w64 (a0.B * a1.A))))
theorem Tspec_l4Cross (a0 : Pl) (a1 : Pl) (r : (Int × Int × Int)) (h : Dspec_l4Cross a0 a1 = some r) : Big Tryd.prog H YS (.call 78 [.agg [i64 a0.A, i64 a0.B, i64 a0.C, i64 a0.D], .agg [i64 a1.A, i64 a1.B, i64 a1.C, i64 a1.D]] (lk []) (.agg [i64 r.1, i64 r.2.1, i64 r.2.2]) (lk [])) := by
  unfold Dspec_l4Cross at h
  refine x_call (fn := Tryd.f78) (c := bodyOf Tryd.f78) (bs0 := []) Tryd.func78 (by kernel_rfl) (by kernel_rfl) ?_
  replace h := Option.some.inj h; subst h
  exact x_end 44 [] [] onil onil (by kernel_rfl)
/-! spec.l3Sign -/
def Dspec_l3Sign (a0 : Int) : Option Int :=
  frk (decide (a0 > 0)) (some 1) (frk (decide (a0 < 0)) (some (-1)) (some 0))
theorem Tspec_l3Sign (a0 r : Int) (h : Dspec_l3Sign a0 = some r) : Big Tryd.prog H YS (.call 92 [i64 a0] (lk []) (i64 r) (lk [])) := by
  unfold Dspec_l3Sign at h
  refine x_call (fn := Tryd.f92) (c := bodyOf Tryd.f92) (bs0 := []) Tryd.func92 (by kernel_rfl) (by kernel_rfl) ?_
  refine x_frk 12 [] onil h (by kernel_rfl) (fun h => ?_) (fun h => ?_)
  · replace h := Option.some.inj h; subst h
    exact x_end 4 [] [] onil onil (by kernel_rfl)
  · refine x_frk 6 [] onil h (by kernel_rfl) (fun h => ?_) (fun h => ?_)
    · replace h := Option.some.inj h; subst h
      exact x_end 4 [] [] onil onil (by kernel_rfl)
    · replace h := Option.some.inj h; subst h
      exact x_end 6 [] [] onil onil (by kernel_rfl)
/-! spec.l4Parallel -/
def Dspec_l4Parallel (a0 : Pl) (a1 : Pl) : Option Int :=
  (Dspec_l4Cross a0 a1).bind fun v0 => frk (!(v0.1 == 0 && (v0.2.1 == 0 && (v0.2.2 == 0 && true)))) (some 0) ((Dspec_l3Sign (w64 ((w64 ((w64 (a0.A * a1.A)) + (w64 (a0.B * a1.B)))) + (w64 (a0.C * a1.C))))).bind fun v1 => some v1)
theorem Tspec_l4Parallel (a0 : Pl) (a1 : Pl) (r : Int) (h : Dspec_l4Parallel a0 a1 = some r) : Big Tryd.prog H YS (.call 76 [.agg [i64 a0.A, i64 a0.B, i64 a0.C, i64 a0.D], .agg [i64 a1.A, i64 a1.B, i64 a1.C, i64 a1.D]] (lk []) (i64 r) (lk [])) := by
  unfold Dspec_l4Parallel at h
  refine x_call (fn := Tryd.f76) (c := bodyOf Tryd.f76) (bs0 := []) Tryd.func76 (by kernel_rfl) (by kernel_rfl) ?_
  obtain ⟨v0, hv0, h⟩ := bind_some h
  refine x_frk 15 [(5, .call [] [] (.agg [i64 v0.1, i64 v0.2.1, i64 v0.2.2]) [])] (ocons (Tspec_l4Cross a0 a1 _ hv0) onil) h (by kernel_rfl) (fun h => ?_) (fun h => ?_)
  · replace h := Option.some.inj h; subst h
    exact x_end 4 [] [] onil onil (by kernel_rfl)
  · obtain ⟨v1, hv1, h⟩ := bind_some h
    replace h := Option.some.inj h; subst h
    exact x_end 23 [(17, .call [] [] (i64 v1) [])] [] (ocons (Tspec_l3Sign (w64 ((w64 ((w64 (a0.A * a1.A)) + (w64 (a0.B * a1.B)))) + (w64 (a0.C * a1.C)))) _ hv1) onil) onil (by kernel_rfl)
/-! spec.l6Clash2 -/
def Dspec_l6Clash2 (a0 : Pl) (a1 : Pl) : Option Bool :=
  (Dspec_l4Parallel a0 a1).bind fun v0 => frk (decide (v0 ≥ 0)) (some false) ((Dspec_l3Abs a1.A).bind fun v1 => (Dspec_l3Abs a1.B).bind fun v2 => (Dspec_l3Abs a1.C).bind fun v3 => (Dspec_l3Abs a0.A).bind fun v4 => (Dspec_l3Abs a0.B).bind fun v5 => (Dspec_l3Abs a0.C).bind fun v6 => some (decide ((w64 ((w64 ((w64 ((w64 (v1 + v2)) + v3)) * a0.D)) + (w64 ((w64 ((w64 (v4 + v5)) + v6)) * a1.D)))) ≤ 0)))
theorem Tspec_l6Clash2 (a0 : Pl) (a1 : Pl) (r : Bool) (h : Dspec_l6Clash2 a0 a1 = some r) : Big Tryd.prog H YS (.call 65 [.agg [i64 a0.A, i64 a0.B, i64 a0.C, i64 a0.D], .agg [i64 a1.A, i64 a1.B, i64 a1.C, i64 a1.D]] (lk []) (bl r) (lk [])) := by
  unfold Dspec_l6Clash2 at h
  refine x_call (fn := Tryd.f65) (c := bodyOf Tryd.f65) (bs0 := []) Tryd.func65 (by kernel_rfl) (by kernel_rfl) ?_
  obtain ⟨v0, hv0, h⟩ := bind_some h
  refine x_frk 14 [(5, .call [] [] (i64 v0) [])] (ocons (Tspec_l4Parallel a0 a1 _ hv0) onil) h (by kernel_rfl) (fun h => ?_) (fun h => ?_)
  · replace h := Option.some.inj h; subst h
    exact x_end 4 [] [] onil onil (by kernel_rfl)
  · obtain ⟨v1, hv1, h⟩ := bind_some h
    obtain ⟨v2, hv2, h⟩ := bind_some h
    obtain ⟨v3, hv3, h⟩ := bind_some h
    obtain ⟨v4, hv4, h⟩ := bind_some h
    obtain ⟨v5, hv5, h⟩ := bind_some h
    obtain ⟨v6, hv6, h⟩ := bind_some h
    replace h := Option.some.inj h; subst h
    exact x_end 45 [(2, .call [] [] (i64 v1) []), (2, .call [] [] (i64 v2) []), (3, .call [] [] (i64 v3) []), (4, .call [] [] (i64 v4) []), (2, .call [] [] (i64 v5) []), (3, .call [] [] (i64 v6) [])] [] (ocons (Tspec_l3Abs a1.A _ hv1) (ocons (Tspec_l3Abs a1.B _ hv2) (ocons (Tspec_l3Abs a1.C _ hv3) (ocons (Tspec_l3Abs a0.A _ hv4) (ocons (Tspec_l3Abs a0.B _ hv5) (ocons (Tspec_l3Abs a0.C _ hv6) onil)))))) onil (by kernel_rfl)
/-! spec.l4Det3 -/
def Dspec_l4Det3 (a0 : Pl) (a1 : Pl) (a2 : Pl) : Option Int :=
  (Dspec_l4Cross a1 a2).bind fun v0 => some (w64 ((w64 ((w64 (a0.A * v0.1)) + (w64 (a0.B * v0.2.1)))) + (w64 (a0.C * v0.2.2))))
theorem Tspec_l4Det3 (a0 : Pl) (a1 : Pl) (a2 : Pl) (r : Int) (h : Dspec_l4Det3 a0 a1 a2 = some r) : Big Tryd.prog H YS (.call 77 [.agg [i64 a0.A, i64 a0.B, i64 a0.C, i64 a0.D], .agg [i64 a1.A, i64 a1.B, i64 a1.C, i64 a1.D], .agg [i64 a2.A, i64 a2.B, i64 a2.C, i64 a2.D]] (lk []) (i64 r) (lk [])) := by
  unfold Dspec_l4Det3 at h
  refine x_call (fn := Tryd.f77) (c := bodyOf Tryd.f77) (bs0 := []) Tryd.func77 (by kernel_rfl) (by kernel_rfl) ?_
  obtain ⟨v0, hv0, h⟩ := bind_some h
  replace h := Option.some.inj h; subst h
  exact x_end 36 [(6, .call [] [] (.agg [i64 v0.1, i64 v0.2.1, i64 v0.2.2]) [])] [] (ocons (Tspec_l4Cross a1 a2 _ hv0) onil) onil (by kernel_rfl)
/-! spec.l6Sum -/
def Dspec_l6Sum_1 (_n : Nat) (rec0 : (Bool × Bool × Int × Int) → Option Bool) (t0 : List Int) (t1 : List Int) (t5 t6 : Bool) (t7 t8 : Int) : Option Bool :=
  (lget t0 t8).bind fun v2 => (Dspec_l3Abs v2).bind fun v3 => (lget t1 t8).bind fun v4 => rec0 (t5, t6, w64 (t7 + (w64 (v3 * v4))), w64 (t8 + 1))
theorem Tspec_l6Sum_1 (n : Nat) (rec0 : (Bool × Bool × Int × Int) → Option Bool) (t0 : List Int) (t1 : List Int) (hrec0 : ∀ (a : (Bool × Bool × Int × Int)) (r : Bool), rec0 a = some r → Wk Tryd.prog H YS 79 [.code (cp [1, 1, 1, 1, 0, 1, 0] (bodyOf Tryd.f79)), .blk 0, .code (cp [1, 1, 1, 1, 1] (bodyOf Tryd.f79))] (FinX Tryd.prog Tryd.f79 [] (bl r) []) ⟨[(0, .sl false 1 t0.length ((eInt).f t0)), (1, .sl false 1 t1.length ((eInt).f t1)), (5, bl a.1), (6, bl a.2.1), (7, i64 a.2.2.1), (8, i64 a.2.2.2)], []⟩) (t5 t6 : Bool) (t7 t8 : Int) (r : Bool) (h : Dspec_l6Sum_1 n rec0 t0 t1 t5 t6 t7 t8 = some r) : Wk Tryd.prog H YS 79 [.code (cp [1, 1, 1, 1, 0, 1, 0, 0, 1, 0, 0, 1, 1] (bodyOf Tryd.f79)), .blk 1, .code (cp [1, 1, 1, 1, 0, 1, 0, 0, 1, 1] (bodyOf Tryd.f79)), .lp (cp [1, 1, 1, 1, 0, 1, 0] (bodyOf Tryd.f79)), .blk 0, .code (cp [1, 1, 1, 1, 1] (bodyOf Tryd.f79))] (FinX Tryd.prog Tryd.f79 [] (bl r) []) ⟨[(0, .sl false 1 t0.length ((eInt).f t0)), (1, .sl false 1 t1.length ((eInt).f t1)), (5, bl t5), (6, bl t6), (7, i64 t7), (8, i64 t8)], []⟩ := by
  unfold Dspec_l6Sum_1 at h
  obtain ⟨v2, hv2, h⟩ := bind_some h
  obtain ⟨v3, hv3, h⟩ := bind_some h
  obtain ⟨v4, hv4, h⟩ := bind_some h
  exact x_to 22 [(3, .val (.cptr (eInt.c v2 ++ (eInt).f ((t0).drop (Int.toNat t8 + 1))))), (1, .call [] [] (i64 v3) []), (2, .val (.cptr (eInt.c v4 ++ (eInt).f ((t1).drop (Int.toNat t8 + 1)))))] (ocons (ix eInt hv2) (ocons (Tspec_l3Abs v2 _ hv3) (ocons (ix eInt hv4) onil))) (hrec0 (t5, t6, w64 (t7 + (w64 (v3 * v4))), w64 (t8 + 1)) r h) (by kernel_rfl)
def Dspec_l6Sum_0 (n : Nat) (rec0 : (Bool × Bool × Int × Int) → Option Bool) (t0 : List Int) (t1 : List Int) (t5 t6 : Bool) (t7 t8 : Int) : Option Bool :=
  frk t6 ((lget t0 t8).bind fun v1 => Dspec_l6Sum_1 n rec0 t0 t1 t5 (decide (v1 < 0)) t7 t8) (Dspec_l6Sum_1 n rec0 t0 t1 t5 false t7 t8)
theorem Tspec_l6Sum_0 (n : Nat) (rec0 : (Bool × Bool × Int × Int) → Option Bool) (t0 : List Int) (t1 : List Int) (hrec0 : ∀ (a : (Bool × Bool × Int × Int)) (r : Bool), rec0 a = some r → Wk Tryd.prog H YS 79 [.code (cp [1, 1, 1, 1, 0, 1, 0] (bodyOf Tryd.f79)), .blk 0, .code (cp [1, 1, 1, 1, 1] (bodyOf Tryd.f79))] (FinX Tryd.prog Tryd.f79 [] (bl r) []) ⟨[(0, .sl false 1 t0.length ((eInt).f t0)), (1, .sl false 1 t1.length ((eInt).f t1)), (5, bl a.1), (6, bl a.2.1), (7, i64 a.2.2.1), (8, i64 a.2.2.2)], []⟩) (t5 t6 : Bool) (t7 t8 : Int) (r : Bool) (h : Dspec_l6Sum_0 n rec0 t0 t1 t5 t6 t7 t8 = some r) : Wk Tryd.prog H YS 79 [.code (cp [1, 1, 1, 1, 0, 1, 0, 0, 1, 0, 0, 1, 0] (bodyOf Tryd.f79)), .code (cp [1, 1, 1, 1, 0, 1, 0, 0, 1, 0, 0, 1, 1] (bodyOf Tryd.f79)), .blk 1, .code (cp [1, 1, 1, 1, 0, 1, 0, 0, 1, 1] (bodyOf Tryd.f79)), .lp (cp [1, 1, 1, 1, 0, 1, 0] (bodyOf Tryd.f79)), .blk 0, .code (cp [1, 1, 1, 1, 1] (bodyOf Tryd.f79))] (FinX Tryd.prog Tryd.f79 [] (bl r) []) ⟨[(0, .sl false 1 t0.length ((eInt).f t0)), (1, .sl false 1 t1.length ((eInt).f t1)), (5, bl t5), (6, bl t6), (7, i64 t7), (8, i64 t8)], []⟩ := by
  unfold Dspec_l6Sum_0 at h
  refine x_frk 3 [] onil h (by kernel_rfl) (fun h => ?_) (fun h => ?_)
  · obtain ⟨v1, hv1, h⟩ := bind_some h
    exact x_to 8 [(2, .val (.cptr (eInt.c v1 ++ (eInt).f ((t0).drop (Int.toNat t8 + 1)))))] (ocons (ix eInt hv1) onil) (Tspec_l6Sum_1 n rec0 t0 t1 hrec0 t5 (decide (v1 < 0)) t7 t8 r h) (by kernel_rfl)
  · exact x_to 8 [] onil (Tspec_l6Sum_1 n rec0 t0 t1 hrec0 t5 false t7 t8 r h) (by kernel_rfl)
def Dspec_l6Sum_2 (_n : Nat) (t5 t6 : Bool) (t7 : Int) : Option Bool :=
  frk t5 (some (decide (t7 ≤ 0))) (frk t6 (some (decide (t7 ≤ 0))) (some false))
theorem Tspec_l6Sum_2 (n : Nat) (t5 t6 : Bool) (t7 : Int) (r : Bool) (h : Dspec_l6Sum_2 n t5 t6 t7 = some r) : Wk Tryd.prog H YS 79 [.code (cp [1, 1, 1, 1, 1, 0] (bodyOf Tryd.f79)), .code (cp [1, 1, 1, 1, 1, 1] (bodyOf Tryd.f79))] (FinX Tryd.prog Tryd.f79 [] (bl r) []) ⟨[(5, bl t5), (6, bl t6), (7, i64 t7)], []⟩ := by
  unfold Dspec_l6Sum_2 at h
  refine x_frk 3 [] onil h (by kernel_rfl) (fun h => ?_) (fun h => ?_)
  · replace h := Option.some.inj h; subst h
    exact x_end 8 [] [] onil onil (by kernel_rfl)
  · refine x_frk 3 [] onil h (by kernel_rfl) (fun h => ?_) (fun h => ?_)
    · replace h := Option.some.inj h; subst h
      exact x_end 5 [] [] onil onil (by kernel_rfl)
    · replace h := Option.some.inj h; subst h
      exact x_end 5 [] [] onil onil (by kernel_rfl)
def Dspec_l6Sum_3 (n : Nat) (t0 : List Int) (t1 : List Int) (rec0 : (Bool × Bool × Int × Int) → Option Bool) (a : (Bool × Bool × Int × Int)) : Option Bool :=
  match a with
  | (t5, t6, t7, t8) => frk (decide (t8 < (t0.length : Int))) (frk t5 ((lget t0 t8).bind fun v0 => Dspec_l6Sum_0 n rec0 t0 t1 (decide (v0 > 0)) t6 t7 t8) (Dspec_l6Sum_0 n rec0 t0 t1 false t6 t7 t8)) (Dspec_l6Sum_2 n t5 t6 t7)
theorem Tspec_l6Sum_3 (n : Nat) (t0 : List Int) (t1 : List Int) : ∀ (m : Nat) (a : (Bool × Bool × Int × Int)) (r : Bool), loopN (Dspec_l6Sum_3 n t0 t1) m a = some r → Wk Tryd.prog H YS 79 [.code (cp [1, 1, 1, 1, 0, 1, 0] (bodyOf Tryd.f79)), .blk 0, .code (cp [1, 1, 1, 1, 1] (bodyOf Tryd.f79))] (FinX Tryd.prog Tryd.f79 [] (bl r) []) ⟨[(0, .sl false 1 t0.length ((eInt).f t0)), (1, .sl false 1 t1.length ((eInt).f t1)), (5, bl a.1), (6, bl a.2.1), (7, i64 a.2.2.1), (8, i64 a.2.2.2)], []⟩ := by
  refine loopN_ind (fun rec0 hrec0 a r h => ?_)
  obtain ⟨t5, t6, t7, t8⟩ := a
  unfold Dspec_l6Sum_3 at h
  refine x_frk 9 [] onil h (by kernel_rfl) (fun h => ?_) (fun h => ?_)
  · refine x_frk 7 [] onil h (by kernel_rfl) (fun h => ?_) (fun h => ?_)
    · obtain ⟨v0, hv0, h⟩ := bind_some h
      exact x_to 9 [(2, .val (.cptr (eInt.c v0 ++ (eInt).f ((t0).drop (Int.toNat t8 + 1)))))] (ocons (ix eInt hv0) onil) (Tspec_l6Sum_0 n rec0 t0 t1 hrec0 (decide (v0 > 0)) t6 t7 t8 r h) (by kernel_rfl)
    · exact x_to 9 [] onil (Tspec_l6Sum_0 n rec0 t0 t1 hrec0 false t6 t7 t8 r h) (by kernel_rfl)
  · exact x_to 2 [] onil (Tspec_l6Sum_2 n t5 t6 t7 r h) (by kernel_rfl)
def Dspec_l6Sum (n : Nat) (a0 : (List Int)) (a1 : (List Int)) : Option Bool :=
  loopN (Dspec_l6Sum_3 n a0 a1) n (true, true, 0, 0)
theorem Tspec_l6Sum (n : Nat) (a0 : (List Int)) (a1 : (List Int)) (r : Bool) (h : Dspec_l6Sum n a0 a1 = some r) : Big Tryd.prog H YS (.call 79 [.sl false 1 a0.length ((eInt).f a0), .sl false 1 a1.length ((eInt).f a1)] (lk []) (bl r) (lk [])) := by
  unfold Dspec_l6Sum at h
  refine x_call (fn := Tryd.f79) (c := bodyOf Tryd.f79) (bs0 := []) Tryd.func79 (by kernel_rfl) (by kernel_rfl) ?_
  exact x_to 22 [] onil (Tspec_l6Sum_3 n a0 a1 n (true, true, 0, 0) r h) (by kernel_rfl)
/-! spec.l6Clash3 -/
def Dspec_l6Clash3_0 (n : Nat) (_b3_0 _b3_1 _b3_2 b3_3 _b4_0 _b4_1 _b4_2 b4_3 _b5_0 _b5_1 _b5_2 b5_3 b7_0 _b7_1 _b7_2 b8_0 _b8_1 _b8_2 b9_0 _b9_1 _b9_2 : Int) : Option Bool :=
  (Dspec_l6Sum n [b7_0, b8_0, b9_0] [b3_3, b4_3, b5_3]).bind fun v4 => some v4
theorem Tspec_l6Clash3_0 (n : Nat) (b3_0 b3_1 b3_2 b3_3 b4_0 b4_1 b4_2 b4_3 b5_0 b5_1 b5_2 b5_3 b7_0 b7_1 b7_2 b8_0 b8_1 b8_2 b9_0 b9_1 b9_2 : Int) (r : Bool) (h : Dspec_l6Clash3_0 n b3_0 b3_1 b3_2 b3_3 b4_0 b4_1 b4_2 b4_3 b5_0 b5_1 b5_2 b5_3 b7_0 b7_1 b7_2 b8_0 b8_1 b8_2 b9_0 b9_1 b9_2 = some r) : Wk Tryd.prog H YS 66 [.code (cp [1, 1, 1, 1, 1, 0, 1, 0, 0, 1, 0, 0, 1, 0, 0] (bodyOf Tryd.f66)), .code (cp [1, 1, 1, 1, 1, 0, 1, 0, 0, 1, 0, 0, 1, 0, 1] (bodyOf Tryd.f66)), .blk 1, .code (cp [1, 1, 1, 1, 1, 0, 1, 0, 0, 1, 1] (bodyOf Tryd.f66)), .lp (cp [1, 1, 1, 1, 1, 0, 1, 0] (bodyOf Tryd.f66)), .blk 0, .code (cp [1, 1, 1, 1, 1, 1] (bodyOf Tryd.f66))] (FinX Tryd.prog Tryd.f66 [] (bl r) []) ⟨[(3, .ptr 3 0), (4, .ptr 4 0), (5, .ptr 5 0), (7, .ptr 7 0), (8, .ptr 8 0), (9, .ptr 9 0), (10, i64 0)], [(3, ⟨true, 0, [i64 b3_0, i64 b3_1, i64 b3_2, i64 b3_3]⟩), (4, ⟨true, 0, [i64 b4_0, i64 b4_1, i64 b4_2, i64 b4_3]⟩), (5, ⟨true, 0, [i64 b5_0, i64 b5_1, i64 b5_2, i64 b5_3]⟩), (7, ⟨true, 0, [i64 b7_0, i64 b7_1, i64 b7_2]⟩), (8, ⟨true, 0, [i64 b8_0, i64 b8_1, i64 b8_2]⟩), (9, ⟨true, 0, [i64 b9_0, i64 b9_1, i64 b9_2]⟩)]⟩ := by
  unfold Dspec_l6Clash3_0 at h
  obtain ⟨v4, hv4, h⟩ := bind_some h
  replace h := Option.some.inj h; subst h
  exact x_end 21 [(17, .call [] [(eInt).f [b3_3, b4_3, b5_3], (eInt).f [b7_0, b8_0, b9_0]] (bl v4) [])] [] (ocons (Tspec_l6Sum n [b7_0, b8_0, b9_0] [b3_3, b4_3, b5_3] _ hv4) (ocons (len_row (L := [b7_0, b8_0, b9_0]) eInt) (ocons (Enc.share eInt eInt sInt [b7_0, b8_0, b9_0]) (ocons (len_row (L := [b3_3, b4_3, b5_3]) eInt) (ocons (Enc.share eInt eInt sInt [b3_3, b4_3, b5_3]) onil))))) onil (by kernel_rfl)
def Dspec_l6Clash3_2 (n : Nat) (_b3_0 _b3_1 _b3_2 b3_3 _b4_0 _b4_1 _b4_2 b4_3 _b5_0 _b5_1 _b5_2 b5_3 _b7_0 b7_1 _b7_2 _b8_0 b8_1 _b8_2 _b9_0 b9_1 _b9_2 : Int) : Option Bool :=
  (Dspec_l6Sum n [b7_1, b8_1, b9_1] [b3_3, b4_3, b5_3]).bind fun v6 => some v6
theorem Tspec_l6Clash3_2 (n : Nat) (b3_0 b3_1 b3_2 b3_3 b4_0 b4_1 b4_2 b4_3 b5_0 b5_1 b5_2 b5_3 b7_0 b7_1 b7_2 b8_0 b8_1 b8_2 b9_0 b9_1 b9_2 : Int) (r : Bool) (h : Dspec_l6Clash3_2 n b3_0 b3_1 b3_2 b3_3 b4_0 b4_1 b4_2 b4_3 b5_0 b5_1 b5_2 b5_3 b7_0 b7_1 b7_2 b8_0 b8_1 b8_2 b9_0 b9_1 b9_2 = some r) : Wk Tryd.prog H YS 66 [.code (cp [1, 1, 1, 1, 1, 0, 1, 0, 0, 1, 0, 0, 1, 0, 0] (bodyOf Tryd.f66)), .code (cp [1, 1, 1, 1, 1, 0, 1, 0, 0, 1, 0, 0, 1, 0, 1] (bodyOf Tryd.f66)), .blk 1, .code (cp [1, 1, 1, 1, 1, 0, 1, 0, 0, 1, 1] (bodyOf Tryd.f66)), .lp (cp [1, 1, 1, 1, 1, 0, 1, 0] (bodyOf Tryd.f66)), .blk 0, .code (cp [1, 1, 1, 1, 1, 1] (bodyOf Tryd.f66))] (FinX Tryd.prog Tryd.f66 [] (bl r) []) ⟨[(3, .ptr 3 0), (4, .ptr 4 0), (5, .ptr 5 0), (7, .ptr 7 0), (8, .ptr 8 0), (9, .ptr 9 0), (10, i64 1)], [(3, ⟨true, 0, [i64 b3_0, i64 b3_1, i64 b3_2, i64 b3_3]⟩), (4, ⟨true, 0, [i64 b4_0, i64 b4_1, i64 b4_2, i64 b4_3]⟩), (5, ⟨true, 0, [i64 b5_0, i64 b5_1, i64 b5_2, i64 b5_3]⟩), (7, ⟨true, 0, [i64 b7_0, i64 b7_1, i64 b7_2]⟩), (8, ⟨true, 0, [i64 b8_0, i64 b8_1, i64 b8_2]⟩), (9, ⟨true, 0, [i64 b9_0, i64 b9_1, i64 b9_2]⟩)]⟩ := by
  unfold Dspec_l6Clash3_2 at h
  obtain ⟨v6, hv6, h⟩ := bind_some h
  replace h := Option.some.inj h; subst h
  exact x_end 21 [(17, .call [] [(eInt).f [b3_3, b4_3, b5_3], (eInt).f [b7_1, b8_1, b9_1]] (bl v6) [])] [] (ocons (Tspec_l6Sum n [b7_1, b8_1, b9_1] [b3_3, b4_3, b5_3] _ hv6) (ocons (len_row (L := [b7_1, b8_1, b9_1]) eInt) (ocons (Enc.share eInt eInt sInt [b7_1, b8_1, b9_1]) (ocons (len_row (L := [b3_3, b4_3, b5_3]) eInt) (ocons (Enc.share eInt eInt sInt [b3_3, b4_3, b5_3]) onil))))) onil (by kernel_rfl)
def Dspec_l6Clash3_4 (n : Nat) (_b3_0 _b3_1 _b3_2 b3_3 _b4_0 _b4_1 _b4_2 b4_3 _b5_0 _b5_1 _b5_2 b5_3 _b7_0 _b7_1 b7_2 _b8_0 _b8_1 b8_2 _b9_0 _b9_1 b9_2 : Int) : Option Bool :=
  (Dspec_l6Sum n [b7_2, b8_2, b9_2] [b3_3, b4_3, b5_3]).bind fun v8 => some v8
theorem Tspec_l6Clash3_4 (n : Nat) (b3_0 b3_1 b3_2 b3_3 b4_0 b4_1 b4_2 b4_3 b5_0 b5_1 b5_2 b5_3 b7_0 b7_1 b7_2 b8_0 b8_1 b8_2 b9_0 b9_1 b9_2 : Int) (r : Bool) (h : Dspec_l6Clash3_4 n b3_0 b3_1 b3_2 b3_3 b4_0 b4_1 b4_2 b4_3 b5_0 b5_1 b5_2 b5_3 b7_0 b7_1 b7_2 b8_0 b8_1 b8_2 b9_0 b9_1 b9_2 = some r) : Wk Tryd.prog H YS 66 [.code (cp [1, 1, 1, 1, 1, 0, 1, 0, 0, 1, 0, 0, 1, 0, 0] (bodyOf Tryd.f66)), .code (cp [1, 1, 1, 1, 1, 0, 1, 0, 0, 1, 0, 0, 1, 0, 1] (bodyOf Tryd.f66)), .blk 1, .code (cp [1, 1, 1, 1, 1, 0, 1, 0, 0, 1, 1] (bodyOf Tryd.f66)), .lp (cp [1, 1, 1, 1, 1, 0, 1, 0] (bodyOf Tryd.f66)), .blk 0, .code (cp [1, 1, 1, 1, 1, 1] (bodyOf Tryd.f66))] (FinX Tryd.prog Tryd.f66 [] (bl r) []) ⟨[(3, .ptr 3 0), (4, .ptr 4 0), (5, .ptr 5 0), (7, .ptr 7 0), (8, .ptr 8 0), (9, .ptr 9 0), (10, i64 2)], [(3, ⟨true, 0, [i64 b3_0, i64 b3_1, i64 b3_2, i64 b3_3]⟩), (4, ⟨true, 0, [i64 b4_0, i64 b4_1, i64 b4_2, i64 b4_3]⟩), (5, ⟨true, 0, [i64 b5_0, i64 b5_1, i64 b5_2, i64 b5_3]⟩), (7, ⟨true, 0, [i64 b7_0, i64 b7_1, i64 b7_2]⟩), (8, ⟨true, 0, [i64 b8_0, i64 b8_1, i64 b8_2]⟩), (9, ⟨true, 0, [i64 b9_0, i64 b9_1, i64 b9_2]⟩)]⟩ := by
  unfold Dspec_l6Clash3_4 at h
  obtain ⟨v8, hv8, h⟩ := bind_some h
  replace h := Option.some.inj h; subst h
  exact x_end 21 [(17, .call [] [(eInt).f [b3_3, b4_3, b5_3], (eInt).f [b7_2, b8_2, b9_2]] (bl v8) [])] [] (ocons (Tspec_l6Sum n [b7_2, b8_2, b9_2] [b3_3, b4_3, b5_3] _ hv8) (ocons (len_row (L := [b7_2, b8_2, b9_2]) eInt) (ocons (Enc.share eInt eInt sInt [b7_2, b8_2, b9_2]) (ocons (len_row (L := [b3_3, b4_3, b5_3]) eInt) (ocons (Enc.share eInt eInt sInt [b3_3, b4_3, b5_3]) onil))))) onil (by kernel_rfl)
def Dspec_l6Clash3_5 (n : Nat) (t44 : Bool) (_b3_0 _b3_1 _b3_2 b3_3 _b4_0 _b4_1 _b4_2 b4_3 _b5_0 _b5_1 _b5_2 b5_3 _b7_0 _b7_1 b7_2 _b8_0 _b8_1 b8_2 _b9_0 _b9_1 b9_2 : Int) : Option Bool :=
  frk t44 ((Dspec_l6Sum n [b7_2, b8_2, b9_2] [b3_3, b4_3, b5_3]).bind fun v9 => some v9) (some false)
theorem Tspec_l6Clash3_5 (n : Nat) (t44 : Bool) (b3_0 b3_1 b3_2 b3_3 b4_0 b4_1 b4_2 b4_3 b5_0 b5_1 b5_2 b5_3 b7_0 b7_1 b7_2 b8_0 b8_1 b8_2 b9_0 b9_1 b9_2 : Int) (r : Bool) (h : Dspec_l6Clash3_5 n t44 b3_0 b3_1 b3_2 b3_3 b4_0 b4_1 b4_2 b4_3 b5_0 b5_1 b5_2 b5_3 b7_0 b7_1 b7_2 b8_0 b8_1 b8_2 b9_0 b9_1 b9_2 = some r) : Wk Tryd.prog H YS 66 [.code (cp [1, 1, 1, 1, 1, 0, 1, 0, 0, 1, 0, 0, 1] (bodyOf Tryd.f66)), .blk 1, .code (cp [1, 1, 1, 1, 1, 0, 1, 0, 0, 1, 1] (bodyOf Tryd.f66)), .lp (cp [1, 1, 1, 1, 1, 0, 1, 0] (bodyOf Tryd.f66)), .blk 0, .code (cp [1, 1, 1, 1, 1, 1] (bodyOf Tryd.f66))] (FinX Tryd.prog Tryd.f66 [] (bl r) []) ⟨[(3, .ptr 3 0), (4, .ptr 4 0), (5, .ptr 5 0), (7, .ptr 7 0), (8, .ptr 8 0), (9, .ptr 9 0), (10, i64 2), (44, bl t44)], [(3, ⟨true, 0, [i64 b3_0, i64 b3_1, i64 b3_2, i64 b3_3]⟩), (4, ⟨true, 0, [i64 b4_0, i64 b4_1, i64 b4_2, i64 b4_3]⟩), (5, ⟨true, 0, [i64 b5_0, i64 b5_1, i64 b5_2, i64 b5_3]⟩), (7, ⟨true, 0, [i64 b7_0, i64 b7_1, i64 b7_2]⟩), (8, ⟨true, 0, [i64 b8_0, i64 b8_1, i64 b8_2]⟩), (9, ⟨true, 0, [i64 b9_0, i64 b9_1, i64 b9_2]⟩)]⟩ := by
  unfold Dspec_l6Clash3_5 at h
  refine x_frk 0 [] onil h (by kernel_rfl) (fun h => ?_) (fun h => ?_)
  · obtain ⟨v9, hv9, h⟩ := bind_some h
    replace h := Option.some.inj h; subst h
    exact x_end 22 [(17, .call [] [(eInt).f [b3_3, b4_3, b5_3], (eInt).f [b7_2, b8_2, b9_2]] (bl v9) [])] [] (ocons (Tspec_l6Sum n [b7_2, b8_2, b9_2] [b3_3, b4_3, b5_3] _ hv9) (ocons (len_row (L := [b7_2, b8_2, b9_2]) eInt) (ocons (Enc.share eInt eInt sInt [b7_2, b8_2, b9_2]) (ocons (len_row (L := [b3_3, b4_3, b5_3]) eInt) (ocons (Enc.share eInt eInt sInt [b3_3, b4_3, b5_3]) onil))))) onil (by kernel_rfl)
  · replace h := Option.some.inj h; subst h
    exact x_end 21 [] [] onil onil (by kernel_rfl)
def Dspec_l6Clash3_3 (n : Nat) (t44 : Bool) (b3_0 b3_1 b3_2 b3_3 b4_0 b4_1 b4_2 b4_3 b5_0 b5_1 b5_2 b5_3 b7_0 b7_1 b7_2 b8_0 b8_1 b8_2 b9_0 b9_1 b9_2 : Int) : Option Bool :=
  frk t44 ((Dspec_l6Sum n [b7_1, b8_1, b9_1] [b3_3, b4_3, b5_3]).bind fun v7 => some v7) (frk (b7_2 != 0) (Dspec_l6Clash3_4 n b3_0 b3_1 b3_2 b3_3 b4_0 b4_1 b4_2 b4_3 b5_0 b5_1 b5_2 b5_3 b7_0 b7_1 b7_2 b8_0 b8_1 b8_2 b9_0 b9_1 b9_2) (frk (b8_2 != 0) (Dspec_l6Clash3_4 n b3_0 b3_1 b3_2 b3_3 b4_0 b4_1 b4_2 b4_3 b5_0 b5_1 b5_2 b5_3 b7_0 b7_1 b7_2 b8_0 b8_1 b8_2 b9_0 b9_1 b9_2) (Dspec_l6Clash3_5 n (b9_2 != 0) b3_0 b3_1 b3_2 b3_3 b4_0 b4_1 b4_2 b4_3 b5_0 b5_1 b5_2 b5_3 b7_0 b7_1 b7_2 b8_0 b8_1 b8_2 b9_0 b9_1 b9_2)))
theorem Tspec_l6Clash3_3 (n : Nat) (t44 : Bool) (b3_0 b3_1 b3_2 b3_3 b4_0 b4_1 b4_2 b4_3 b5_0 b5_1 b5_2 b5_3 b7_0 b7_1 b7_2 b8_0 b8_1 b8_2 b9_0 b9_1 b9_2 : Int) (r : Bool) (h : Dspec_l6Clash3_3 n t44 b3_0 b3_1 b3_2 b3_3 b4_0 b4_1 b4_2 b4_3 b5_0 b5_1 b5_2 b5_3 b7_0 b7_1 b7_2 b8_0 b8_1 b8_2 b9_0 b9_1 b9_2 = some r) : Wk Tryd.prog H YS 66 [.code (cp [1, 1, 1, 1, 1, 0, 1, 0, 0, 1, 0, 0, 1] (bodyOf Tryd.f66)), .blk 1, .code (cp [1, 1, 1, 1, 1, 0, 1, 0, 0, 1, 1] (bodyOf Tryd.f66)), .lp (cp [1, 1, 1, 1, 1, 0, 1, 0] (bodyOf Tryd.f66)), .blk 0, .code (cp [1, 1, 1, 1, 1, 1] (bodyOf Tryd.f66))] (FinX Tryd.prog Tryd.f66 [] (bl r) []) ⟨[(3, .ptr 3 0), (4, .ptr 4 0), (5, .ptr 5 0), (7, .ptr 7 0), (8, .ptr 8 0), (9, .ptr 9 0), (10, i64 1), (44, bl t44)], [(3, ⟨true, 0, [i64 b3_0, i64 b3_1, i64 b3_2, i64 b3_3]⟩), (4, ⟨true, 0, [i64 b4_0, i64 b4_1, i64 b4_2, i64 b4_3]⟩), (5, ⟨true, 0, [i64 b5_0, i64 b5_1, i64 b5_2, i64 b5_3]⟩), (7, ⟨true, 0, [i64 b7_0, i64 b7_1, i64 b7_2]⟩), (8, ⟨true, 0, [i64 b8_0, i64 b8_1, i64 b8_2]⟩), (9, ⟨true, 0, [i64 b9_0, i64 b9_1, i64 b9_2]⟩)]⟩ := by
  unfold Dspec_l6Clash3_3 at h
  refine x_frk 0 [] onil h (by kernel_rfl) (fun h => ?_) (fun h => ?_)
  · obtain ⟨v7, hv7, h⟩ := bind_some h
    replace h := Option.some.inj h; subst h
    exact x_end 22 [(17, .call [] [(eInt).f [b3_3, b4_3, b5_3], (eInt).f [b7_1, b8_1, b9_1]] (bl v7) [])] [] (ocons (Tspec_l6Sum n [b7_1, b8_1, b9_1] [b3_3, b4_3, b5_3] _ hv7) (ocons (len_row (L := [b7_1, b8_1, b9_1]) eInt) (ocons (Enc.share eInt eInt sInt [b7_1, b8_1, b9_1]) (ocons (len_row (L := [b3_3, b4_3, b5_3]) eInt) (ocons (Enc.share eInt eInt sInt [b3_3, b4_3, b5_3]) onil))))) onil (by kernel_rfl)
  · refine x_frk 26 [] onil h (by kernel_rfl) (fun h => ?_) (fun h => ?_)
    · exact x_to 14 [] onil (Tspec_l6Clash3_4 n b3_0 b3_1 b3_2 b3_3 b4_0 b4_1 b4_2 b4_3 b5_0 b5_1 b5_2 b5_3 b7_0 b7_1 b7_2 b8_0 b8_1 b8_2 b9_0 b9_1 b9_2 r h) (by kernel_rfl)
    · refine x_frk 6 [] onil h (by kernel_rfl) (fun h => ?_) (fun h => ?_)
      · exact x_to 8 [] onil (Tspec_l6Clash3_4 n b3_0 b3_1 b3_2 b3_3 b4_0 b4_1 b4_2 b4_3 b5_0 b5_1 b5_2 b5_3 b7_0 b7_1 b7_2 b8_0 b8_1 b8_2 b9_0 b9_1 b9_2 r h) (by kernel_rfl)
      · exact x_to 6 [] onil (Tspec_l6Clash3_5 n (b9_2 != 0) b3_0 b3_1 b3_2 b3_3 b4_0 b4_1 b4_2 b4_3 b5_0 b5_1 b5_2 b5_3 b7_0 b7_1 b7_2 b8_0 b8_1 b8_2 b9_0 b9_1 b9_2 r h) (by kernel_rfl)
def Dspec_l6Clash3_1 (n : Nat) (t44 : Bool) (b3_0 b3_1 b3_2 b3_3 b4_0 b4_1 b4_2 b4_3 b5_0 b5_1 b5_2 b5_3 b7_0 b7_1 b7_2 b8_0 b8_1 b8_2 b9_0 b9_1 b9_2 : Int) : Option Bool :=
  frk t44 ((Dspec_l6Sum n [b7_0, b8_0, b9_0] [b3_3, b4_3, b5_3]).bind fun v5 => some v5) (frk (b7_1 != 0) (Dspec_l6Clash3_2 n b3_0 b3_1 b3_2 b3_3 b4_0 b4_1 b4_2 b4_3 b5_0 b5_1 b5_2 b5_3 b7_0 b7_1 b7_2 b8_0 b8_1 b8_2 b9_0 b9_1 b9_2) (frk (b8_1 != 0) (Dspec_l6Clash3_2 n b3_0 b3_1 b3_2 b3_3 b4_0 b4_1 b4_2 b4_3 b5_0 b5_1 b5_2 b5_3 b7_0 b7_1 b7_2 b8_0 b8_1 b8_2 b9_0 b9_1 b9_2) (Dspec_l6Clash3_3 n (b9_1 != 0) b3_0 b3_1 b3_2 b3_3 b4_0 b4_1 b4_2 b4_3 b5_0 b5_1 b5_2 b5_3 b7_0 b7_1 b7_2 b8_0 b8_1 b8_2 b9_0 b9_1 b9_2)))
theorem Tspec_l6Clash3_1 (n : Nat) (t44 : Bool) (b3_0 b3_1 b3_2 b3_3 b4_0 b4_1 b4_2 b4_3 b5_0 b5_1 b5_2 b5_3 b7_0 b7_1 b7_2 b8_0 b8_1 b8_2 b9_0 b9_1 b9_2 : Int) (r : Bool) (h : Dspec_l6Clash3_1 n t44 b3_0 b3_1 b3_2 b3_3 b4_0 b4_1 b4_2 b4_3 b5_0 b5_1 b5_2 b5_3 b7_0 b7_1 b7_2 b8_0 b8_1 b8_2 b9_0 b9_1 b9_2 = some r) : Wk Tryd.prog H YS 66 [.code (cp [1, 1, 1, 1, 1, 0, 1, 0, 0, 1, 0, 0, 1] (bodyOf Tryd.f66)), .blk 1, .code (cp [1, 1, 1, 1, 1, 0, 1, 0, 0, 1, 1] (bodyOf Tryd.f66)), .lp (cp [1, 1, 1, 1, 1, 0, 1, 0] (bodyOf Tryd.f66)), .blk 0, .code (cp [1, 1, 1, 1, 1, 1] (bodyOf Tryd.f66))] (FinX Tryd.prog Tryd.f66 [] (bl r) []) ⟨[(3, .ptr 3 0), (4, .ptr 4 0), (5, .ptr 5 0), (7, .ptr 7 0), (8, .ptr 8 0), (9, .ptr 9 0), (10, i64 0), (44, bl t44)], [(3, ⟨true, 0, [i64 b3_0, i64 b3_1, i64 b3_2, i64 b3_3]⟩), (4, ⟨true, 0, [i64 b4_0, i64 b4_1, i64 b4_2, i64 b4_3]⟩), (5, ⟨true, 0, [i64 b5_0, i64 b5_1, i64 b5_2, i64 b5_3]⟩), (7, ⟨true, 0, [i64 b7_0, i64 b7_1, i64 b7_2]⟩), (8, ⟨true, 0, [i64 b8_0, i64 b8_1, i64 b8_2]⟩), (9, ⟨true, 0, [i64 b9_0, i64 b9_1, i64 b9_2]⟩)]⟩ := by
  unfold Dspec_l6Clash3_1 at h
  refine x_frk 0 [] onil h (by kernel_rfl) (fun h => ?_) (fun h => ?_)
  · obtain ⟨v5, hv5, h⟩ := bind_some h
    replace h := Option.some.inj h; subst h
    exact x_end 22 [(17, .call [] [(eInt).f [b3_3, b4_3, b5_3], (eInt).f [b7_0, b8_0, b9_0]] (bl v5) [])] [] (ocons (Tspec_l6Sum n [b7_0, b8_0, b9_0] [b3_3, b4_3, b5_3] _ hv5) (ocons (len_row (L := [b7_0, b8_0, b9_0]) eInt) (ocons (Enc.share eInt eInt sInt [b7_0, b8_0, b9_0]) (ocons (len_row (L := [b3_3, b4_3, b5_3]) eInt) (ocons (Enc.share eInt eInt sInt [b3_3, b4_3, b5_3]) onil))))) onil (by kernel_rfl)
  · refine x_frk 26 [] onil h (by kernel_rfl) (fun h => ?_) (fun h => ?_)
    · exact x_to 14 [] onil (Tspec_l6Clash3_2 n b3_0 b3_1 b3_2 b3_3 b4_0 b4_1 b4_2 b4_3 b5_0 b5_1 b5_2 b5_3 b7_0 b7_1 b7_2 b8_0 b8_1 b8_2 b9_0 b9_1 b9_2 r h) (by kernel_rfl)
    · refine x_frk 6 [] onil h (by kernel_rfl) (fun h => ?_) (fun h => ?_)
      · exact x_to 8 [] onil (Tspec_l6Clash3_2 n b3_0 b3_1 b3_2 b3_3 b4_0 b4_1 b4_2 b4_3 b5_0 b5_1 b5_2 b5_3 b7_0 b7_1 b7_2 b8_0 b8_1 b8_2 b9_0 b9_1 b9_2 r h) (by kernel_rfl)
      · exact x_to 6 [] onil (Tspec_l6Clash3_3 n (b9_1 != 0) b3_0 b3_1 b3_2 b3_3 b4_0 b4_1 b4_2 b4_3 b5_0 b5_1 b5_2 b5_3 b7_0 b7_1 b7_2 b8_0 b8_1 b8_2 b9_0 b9_1 b9_2 r h) (by kernel_rfl)
def Dspec_l6Clash3 (n : Nat) (a0 : Pl) (a1 : Pl) (a2 : Pl) : Option Bool :=
  (Dspec_l4Det3 a0 a1 a2).bind fun v0 => frk (v0 != 0) (some false) ((Dspec_l4Cross a1 a2).bind fun v1 => (Dspec_l4Cross a2 a0).bind fun v2 => (Dspec_l4Cross a0 a1).bind fun v3 => frk (v1.1 != 0) (Dspec_l6Clash3_0 n a0.A a0.B a0.C a0.D a1.A a1.B a1.C a1.D a2.A a2.B a2.C a2.D v1.1 v1.2.1 v1.2.2 v2.1 v2.2.1 v2.2.2 v3.1 v3.2.1 v3.2.2) (frk (v2.1 != 0) (Dspec_l6Clash3_0 n a0.A a0.B a0.C a0.D a1.A a1.B a1.C a1.D a2.A a2.B a2.C a2.D v1.1 v1.2.1 v1.2.2 v2.1 v2.2.1 v2.2.2 v3.1 v3.2.1 v3.2.2) (Dspec_l6Clash3_1 n (v3.1 != 0) a0.A a0.B a0.C a0.D a1.A a1.B a1.C a1.D a2.A a2.B a2.C a2.D v1.1 v1.2.1 v1.2.2 v2.1 v2.2.1 v2.2.2 v3.1 v3.2.1 v3.2.2)))
theorem Tspec_l6Clash3 (n : Nat) (a0 : Pl) (a1 : Pl) (a2 : Pl) (r : Bool) (h : Dspec_l6Clash3 n a0 a1 a2 = some r) : Big Tryd.prog H YS (.call 66 [.agg [i64 a0.A, i64 a0.B, i64 a0.C, i64 a0.D], .agg [i64 a1.A, i64 a1.B, i64 a1.C, i64 a1.D], .agg [i64 a2.A, i64 a2.B, i64 a2.C, i64 a2.D]] (lk []) (bl r) (lk [])) := by
  unfold Dspec_l6Clash3 at h
  refine x_call (fn := Tryd.f66) (c := bodyOf Tryd.f66) (bs0 := []) Tryd.func66 (by kernel_rfl) (by kernel_rfl) ?_
  obtain ⟨v0, hv0, h⟩ := bind_some h
  refine x_frk 16 [(7, .call [] [] (i64 v0) [])] (ocons (Tspec_l4Det3 a0 a1 a2 _ hv0) onil) h (by kernel_rfl) (fun h => ?_) (fun h => ?_)
  · replace h := Option.some.inj h; subst h
    exact x_end 4 [] [] onil onil (by kernel_rfl)
  · obtain ⟨v1, hv1, h⟩ := bind_some h
    obtain ⟨v2, hv2, h⟩ := bind_some h
    obtain ⟨v3, hv3, h⟩ := bind_some h
    refine x_frk 49 [(2, .call [] [] (.agg [i64 v1.1, i64 v1.2.1, i64 v1.2.2]) []), (4, .call [] [] (.agg [i64 v2.1, i64 v2.2.1, i64 v2.2.2]) []), (4, .call [] [] (.agg [i64 v3.1, i64 v3.2.1, i64 v3.2.2]) [])] (ocons (Tspec_l4Cross a1 a2 _ hv1) (ocons (Tspec_l4Cross a2 a0 _ hv2) (ocons (Tspec_l4Cross a0 a1 _ hv3) onil))) h (by kernel_rfl) (fun h => ?_) (fun h => ?_)
    · exact x_to 14 [] onil (Tspec_l6Clash3_0 n a0.A a0.B a0.C a0.D a1.A a1.B a1.C a1.D a2.A a2.B a2.C a2.D v1.1 v1.2.1 v1.2.2 v2.1 v2.2.1 v2.2.2 v3.1 v3.2.1 v3.2.2 r h) (by kernel_rfl)
    · refine x_frk 6 [] onil h (by kernel_rfl) (fun h => ?_) (fun h => ?_)
      · exact x_to 8 [] onil (Tspec_l6Clash3_0 n a0.A a0.B a0.C a0.D a1.A a1.B a1.C a1.D a2.A a2.B a2.C a2.D v1.1 v1.2.1 v1.2.2 v2.1 v2.2.1 v2.2.2 v3.1 v3.2.1 v3.2.2 r h) (by kernel_rfl)
      · exact x_to 6 [] onil (Tspec_l6Clash3_1 n (v3.1 != 0) a0.A a0.B a0.C a0.D a1.A a1.B a1.C a1.D a2.A a2.B a2.C a2.D v1.1 v1.2.1 v1.2.2 v2.1 v2.2.1 v2.2.2 v3.1 v3.2.1 v3.2.2 r h) (by kernel_rfl)
/-! spec.l6Clash4 -/
def Dspec_l6Clash4 (n : Nat) (a0 : Pl) (a1 : Pl) (a2 : Pl) (a3 : Pl) : Option Bool :=
  (Dspec_l4Det3 a1 a2 a3).bind fun v0 => (Dspec_l4Det3 a0 a2 a3).bind fun v1 => (Dspec_l4Det3 a0 a1 a3).bind fun v2 => (Dspec_l4Det3 a0 a1 a2).bind fun v3 => (Dspec_l6Sum n [v0, w64 (0 - v1), v2, w64 (0 - v3)] [a0.D, a1.D, a2.D, a3.D]).bind fun v4 => some v4
theorem Tspec_l6Clash4 (n : Nat) (a0 : Pl) (a1 : Pl) (a2 : Pl) (a3 : Pl) (r : Bool) (h : Dspec_l6Clash4 n a0 a1 a2 a3 = some r) : Big Tryd.prog H YS (.call 67 [.agg [i64 a0.A, i64 a0.B, i64 a0.C, i64 a0.D], .agg [i64 a1.A, i64 a1.B, i64 a1.C, i64 a1.D], .agg [i64 a2.A, i64 a2.B, i64 a2.C, i64 a2.D], .agg [i64 a3.A, i64 a3.B, i64 a3.C, i64 a3.D]] (lk []) (bl r) (lk [])) := by
  unfold Dspec_l6Clash4 at h
  refine x_call (fn := Tryd.f67) (c := bodyOf Tryd.f67) (bs0 := []) Tryd.func67 (by kernel_rfl) (by kernel_rfl) ?_
  obtain ⟨v0, hv0, h⟩ := bind_some h
  obtain ⟨v1, hv1, h⟩ := bind_some h
  obtain ⟨v2, hv2, h⟩ := bind_some h
  obtain ⟨v3, hv3, h⟩ := bind_some h
  obtain ⟨v4, hv4, h⟩ := bind_some h
  replace h := Option.some.inj h; subst h
  exact x_end 46 [(8, .call [] [] (i64 v0) []), (3, .call [] [] (i64 v1) []), (4, .call [] [] (i64 v2) []), (3, .call [] [] (i64 v3) []), (13, .call [] [(eInt).f [a0.D, a1.D, a2.D, a3.D], (eInt).f [v0, w64 (0 - v1), v2, w64 (0 - v3)]] (bl v4) [])] [] (ocons (Tspec_l4Det3 a1 a2 a3 _ hv0) (ocons (Tspec_l4Det3 a0 a2 a3 _ hv1) (ocons (Tspec_l4Det3 a0 a1 a3 _ hv2) (ocons (Tspec_l4Det3 a0 a1 a2 _ hv3) (ocons (Tspec_l6Sum n [v0, w64 (0 - v1), v2, w64 (0 - v3)] [a0.D, a1.D, a2.D, a3.D] _ hv4) (ocons (len_row (L := [v0, w64 (0 - v1), v2, w64 (0 - v3)]) eInt) (ocons (Enc.share eInt eInt sInt [v0, w64 (0 - v1), v2, w64 (0 - v3)]) (ocons (len_row (L := [a0.D, a1.D, a2.D, a3.D]) eInt) (ocons (Enc.share eInt eInt sInt [a0.D, a1.D, a2.D, a3.D]) onil))))))))) onil (by kernel_rfl)
/-! spec.l6With -/
def Dspec_l6With_0 (n : Nat) (rec1 : Int → Option Bool) (_rec0 : Int → Option Bool) (t6 : Int) (t0 : List Pl) (t5 b3_0 b3_1 b3_2 b3_3 t7 : Int) (rec2 : Int → Option Bool) (a : Int) : Option Bool :=
  match a with
  | t8 => frk (decide (t8 < t5)) ((lget t0 t6).bind fun v5 => (lget t0 t7).bind fun v6 => (lget t0 t8).bind fun v7 => (Dspec_l6Clash4 n v5 v6 v7 (Pl.mk b3_0 b3_1 b3_2 b3_3)).bind fun v8 => frk v8 (some true) (rec2 (w64 (t8 + 1)))) (rec1 (w64 (t7 + 1)))
theorem Tspec_l6With_0 (n : Nat) (rec1 : Int → Option Bool) (rec0 : Int → Option Bool) (t6 : Int) (t0 : List Pl) (t5 b3_0 b3_1 b3_2 b3_3 : Int) (hrec1 : ∀ (a : Int) (r : Bool), rec1 a = some r → Wk Tryd.prog H YS 50 [.code (cp [1, 1, 0, 1, 0, 0, 1, 0, 0, 1, 1, 0] (bodyOf Tryd.f50)), .blk 2, .blk 1, .code (cp [1, 1, 0, 1, 0, 0, 1, 1] (bodyOf Tryd.f50)), .lp (cp [1, 1, 0, 1, 0] (bodyOf Tryd.f50)), .blk 0, .code (cp [1, 1, 1] (bodyOf Tryd.f50))] (FinX Tryd.prog Tryd.f50 [] (bl r) []) ⟨[(0, .sl false 4 t0.length ((ePl).f t0)), (3, .ptr 3 0), (5, i64 t5), (6, i64 t6), (7, i64 a)], [(3, ⟨true, 0, [i64 b3_0, i64 b3_1, i64 b3_2, i64 b3_3]⟩)]⟩) (_hrec0 : ∀ (a : Int) (r : Bool), rec0 a = some r → Wk Tryd.prog H YS 50 [.code (cp [1, 1, 0, 1, 0] (bodyOf Tryd.f50)), .blk 0, .code (cp [1, 1, 1] (bodyOf Tryd.f50))] (FinX Tryd.prog Tryd.f50 [] (bl r) []) ⟨[(0, .sl false 4 t0.length ((ePl).f t0)), (3, .ptr 3 0), (5, i64 t5), (6, i64 a)], [(3, ⟨true, 0, [i64 b3_0, i64 b3_1, i64 b3_2, i64 b3_3]⟩)]⟩) (t7 : Int) : ∀ (m : Nat) (a : Int) (r : Bool), loopN (Dspec_l6With_0 n rec1 rec0 t6 t0 t5 b3_0 b3_1 b3_2 b3_3 t7) m a = some r → Wk Tryd.prog H YS 50 [.code (cp [1, 1, 0, 1, 0, 0, 1, 0, 0, 1, 1, 0, 0, 1, 0, 0, 1, 1, 0] (bodyOf Tryd.f50)), .blk 4, .blk 3, .code (cp [1, 1, 0, 1, 0, 0, 1, 0, 0, 1, 1, 0, 0, 1, 1] (bodyOf Tryd.f50)), .lp (cp [1, 1, 0, 1, 0, 0, 1, 0, 0, 1, 1, 0] (bodyOf Tryd.f50)), .blk 2, .blk 1, .code (cp [1, 1, 0, 1, 0, 0, 1, 1] (bodyOf Tryd.f50)), .lp (cp [1, 1, 0, 1, 0] (bodyOf Tryd.f50)), .blk 0, .code (cp [1, 1, 1] (bodyOf Tryd.f50))] (FinX Tryd.prog Tryd.f50 [] (bl r) []) ⟨[(0, .sl false 4 t0.length ((ePl).f t0)), (3, .ptr 3 0), (5, i64 t5), (6, i64 t6), (7, i64 t7), (8, i64 a)], [(3, ⟨true, 0, [i64 b3_0, i64 b3_1, i64 b3_2, i64 b3_3]⟩)]⟩ := by
  refine loopN_ind (fun _rec2 hrec2 a r h => ?_)
  obtain ⟨t8, rfl⟩ : ∃ x, x = a := ⟨a, rfl⟩
  unfold Dspec_l6With_0 at h
  refine x_frk 8 [] onil h (by kernel_rfl) (fun h => ?_) (fun h => ?_)
  · obtain ⟨v5, hv5, h⟩ := bind_some h
    obtain ⟨v6, hv6, h⟩ := bind_some h
    obtain ⟨v7, hv7, h⟩ := bind_some h
    obtain ⟨v8, hv8, h⟩ := bind_some h
    refine x_frk 20 [(2, .val (.cptr (ePl.c v5 ++ (ePl).f ((t0).drop (Int.toNat t6 + 1))))), (3, .val (.cptr (ePl.c v6 ++ (ePl).f ((t0).drop (Int.toNat t7 + 1))))), (3, .val (.cptr (ePl.c v7 ++ (ePl).f ((t0).drop (Int.toNat t8 + 1))))), (2, .call [] [] (bl v8) [])] (ocons (ix ePl hv5) (ocons (ix ePl hv6) (ocons (ix ePl hv7) (ocons (Tspec_l6Clash4 n v5 v6 v7 (Pl.mk b3_0 b3_1 b3_2 b3_3) _ hv8) onil)))) h (by kernel_rfl) (fun h => ?_) (fun h => ?_)
    · replace h := Option.some.inj h; subst h
      exact x_end 4 [] [] onil onil (by kernel_rfl)
    · exact x_to 8 [] onil (hrec2 (w64 (t8 + 1)) r h) (by kernel_rfl)
  · exact x_to 8 [] onil (hrec1 (w64 (t7 + 1)) r h) (by kernel_rfl)
def Dspec_l6With_1 (n : Nat) (rec0 : Int → Option Bool) (t0 : List Pl) (t5 b3_0 b3_1 b3_2 b3_3 t6 : Int) (rec1 : Int → Option Bool) (a : Int) : Option Bool :=
  match a with
  | t7 => frk (decide (t7 < t5)) ((lget t0 t6).bind fun v2 => (lget t0 t7).bind fun v3 => (Dspec_l6Clash3 n v2 v3 (Pl.mk b3_0 b3_1 b3_2 b3_3)).bind fun v4 => frk v4 (some true) (loopN (Dspec_l6With_0 n rec1 rec0 t6 t0 t5 b3_0 b3_1 b3_2 b3_3 t7) n (w64 (t7 + 1)))) (rec0 (w64 (t6 + 1)))
theorem Tspec_l6With_1 (n : Nat) (rec0 : Int → Option Bool) (t0 : List Pl) (t5 b3_0 b3_1 b3_2 b3_3 : Int) (hrec0 : ∀ (a : Int) (r : Bool), rec0 a = some r → Wk Tryd.prog H YS 50 [.code (cp [1, 1, 0, 1, 0] (bodyOf Tryd.f50)), .blk 0, .code (cp [1, 1, 1] (bodyOf Tryd.f50))] (FinX Tryd.prog Tryd.f50 [] (bl r) []) ⟨[(0, .sl false 4 t0.length ((ePl).f t0)), (3, .ptr 3 0), (5, i64 t5), (6, i64 a)], [(3, ⟨true, 0, [i64 b3_0, i64 b3_1, i64 b3_2, i64 b3_3]⟩)]⟩) (t6 : Int) : ∀ (m : Nat) (a : Int) (r : Bool), loopN (Dspec_l6With_1 n rec0 t0 t5 b3_0 b3_1 b3_2 b3_3 t6) m a = some r → Wk Tryd.prog H YS 50 [.code (cp [1, 1, 0, 1, 0, 0, 1, 0, 0, 1, 1, 0] (bodyOf Tryd.f50)), .blk 2, .blk 1, .code (cp [1, 1, 0, 1, 0, 0, 1, 1] (bodyOf Tryd.f50)), .lp (cp [1, 1, 0, 1, 0] (bodyOf Tryd.f50)), .blk 0, .code (cp [1, 1, 1] (bodyOf Tryd.f50))] (FinX Tryd.prog Tryd.f50 [] (bl r) []) ⟨[(0, .sl false 4 t0.length ((ePl).f t0)), (3, .ptr 3 0), (5, i64 t5), (6, i64 t6), (7, i64 a)], [(3, ⟨true, 0, [i64 b3_0, i64 b3_1, i64 b3_2, i64 b3_3]⟩)]⟩ := by
  refine loopN_ind (fun rec1 hrec1 a r h => ?_)
  obtain ⟨t7, rfl⟩ : ∃ x, x = a := ⟨a, rfl⟩
  unfold Dspec_l6With_1 at h
  refine x_frk 8 [] onil h (by kernel_rfl) (fun h => ?_) (fun h => ?_)
  · obtain ⟨v2, hv2, h⟩ := bind_some h
    obtain ⟨v3, hv3, h⟩ := bind_some h
    obtain ⟨v4, hv4, h⟩ := bind_some h
    refine x_frk 17 [(2, .val (.cptr (ePl.c v2 ++ (ePl).f ((t0).drop (Int.toNat t6 + 1))))), (3, .val (.cptr (ePl.c v3 ++ (ePl).f ((t0).drop (Int.toNat t7 + 1))))), (2, .call [] [] (bl v4) [])] (ocons (ix ePl hv2) (ocons (ix ePl hv3) (ocons (Tspec_l6Clash3 n v2 v3 (Pl.mk b3_0 b3_1 b3_2 b3_3) _ hv4) onil))) h (by kernel_rfl) (fun h => ?_) (fun h => ?_)
    · replace h := Option.some.inj h; subst h
      exact x_end 4 [] [] onil onil (by kernel_rfl)
    · exact x_to 8 [] onil (Tspec_l6With_0 n rec1 rec0 t6 t0 t5 b3_0 b3_1 b3_2 b3_3 hrec1 hrec0 t7 n (w64 (t7 + 1)) r h) (by kernel_rfl)
  · exact x_to 8 [] onil (hrec0 (w64 (t6 + 1)) r h) (by kernel_rfl)
def Dspec_l6With_2 (n : Nat) (t0 : List Pl) (t5 b3_0 b3_1 b3_2 b3_3 : Int) (rec0 : Int → Option Bool) (a : Int) : Option Bool :=
  match a with
  | t6 => frk (decide (t6 < t5)) ((lget t0 t6).bind fun v0 => (Dspec_l6Clash2 v0 (Pl.mk b3_0 b3_1 b3_2 b3_3)).bind fun v1 => frk v1 (some true) (loopN (Dspec_l6With_1 n rec0 t0 t5 b3_0 b3_1 b3_2 b3_3 t6) n (w64 (t6 + 1)))) (some false)
theorem Tspec_l6With_2 (n : Nat) (t0 : List Pl) (t5 b3_0 b3_1 b3_2 b3_3 : Int) : ∀ (m : Nat) (a : Int) (r : Bool), loopN (Dspec_l6With_2 n t0 t5 b3_0 b3_1 b3_2 b3_3) m a = some r → Wk Tryd.prog H YS 50 [.code (cp [1, 1, 0, 1, 0] (bodyOf Tryd.f50)), .blk 0, .code (cp [1, 1, 1] (bodyOf Tryd.f50))] (FinX Tryd.prog Tryd.f50 [] (bl r) []) ⟨[(0, .sl false 4 t0.length ((ePl).f t0)), (3, .ptr 3 0), (5, i64 t5), (6, i64 a)], [(3, ⟨true, 0, [i64 b3_0, i64 b3_1, i64 b3_2, i64 b3_3]⟩)]⟩ := by
  refine loopN_ind (fun rec0 hrec0 a r h => ?_)
  obtain ⟨t6, rfl⟩ : ∃ x, x = a := ⟨a, rfl⟩
  unfold Dspec_l6With_2 at h
  refine x_frk 8 [] onil h (by kernel_rfl) (fun h => ?_) (fun h => ?_)
  · obtain ⟨v0, hv0, h⟩ := bind_some h
    obtain ⟨v1, hv1, h⟩ := bind_some h
    refine x_frk 13 [(2, .val (.cptr (ePl.c v0 ++ (ePl).f ((t0).drop (Int.toNat t6 + 1))))), (2, .call [] [] (bl v1) [])] (ocons (ix ePl hv0) (ocons (Tspec_l6Clash2 v0 (Pl.mk b3_0 b3_1 b3_2 b3_3) _ hv1) onil)) h (by kernel_rfl) (fun h => ?_) (fun h => ?_)
    · replace h := Option.some.inj h; subst h
      exact x_end 4 [] [] onil onil (by kernel_rfl)
    · exact x_to 8 [] onil (Tspec_l6With_1 n rec0 t0 t5 b3_0 b3_1 b3_2 b3_3 hrec0 t6 n (w64 (t6 + 1)) r h) (by kernel_rfl)
  · replace h := Option.some.inj h; subst h
    exact x_end 5 [] [] onil onil (by kernel_rfl)
def Dspec_l6With (n : Nat) (a0 : (List Pl)) (a1 : Pl) : Option Bool :=
  loopN (Dspec_l6With_2 n a0 (a0.length : Int) a1.A a1.B a1.C a1.D) n 0
theorem Tspec_l6With (n : Nat) (a0 : (List Pl)) (a1 : Pl) (r : Bool) (h : Dspec_l6With n a0 a1 = some r) : Big Tryd.prog H YS (.call 50 [.sl false 4 a0.length ((ePl).f a0), .agg [i64 a1.A, i64 a1.B, i64 a1.C, i64 a1.D]] (lk []) (bl r) (lk [])) := by
  unfold Dspec_l6With at h
  refine x_call (fn := Tryd.f50) (c := bodyOf Tryd.f50) (bs0 := []) Tryd.func50 (by kernel_rfl) (by kernel_rfl) ?_
  exact x_to 17 [] onil (Tspec_l6With_2 n a0 (a0.length : Int) a1.A a1.B a1.C a1.D n 0 r h) (by kernel_rfl)
/-! spec.l3Flip -/
def Dspec_l3Flip (a0 : Pl) : Option Pl :=
  some (Pl.mk (w64 (0 - a0.A)) (w64 (0 - a0.B)) (w64 (0 - a0.C)) (w64 (0 - a0.D)))
theorem Tspec_l3Flip (a0 : Pl) (r : Pl) (h : Dspec_l3Flip a0 = some r) : Big Tryd.prog H YS (.call 51 [.agg [i64 a0.A, i64 a0.B, i64 a0.C, i64 a0.D]] (lk []) (.agg [i64 r.A, i64 r.B, i64 r.C, i64 r.D]) (lk [])) := by
  unfold Dspec_l3Flip at h
  refine x_call (fn := Tryd.f51) (c := bodyOf Tryd.f51) (bs0 := []) Tryd.func51 (by kernel_rfl) (by kernel_rfl) ?_
  replace h := Option.some.inj h; subst h
  exact x_end 22 [] [] onil onil (by kernel_rfl)
/-! spec.l8Path -/
def Dspec_l8Path (a0 : (List Pl)) (a1 : Pl) : Option (List Pl) :=
  chk (apB 32 (0 + a0.length)) (chk (apB 32 (([] ++ a0).length + 1)) (some (([] ++ a0) ++ [a1])))
theorem Tspec_l8Path (a0 : (List Pl)) (a1 : Pl) (r : (List Pl)) (h : Dspec_l8Path a0 a1 = some r) : Big Tryd.prog H YS (.call 52 [.sl false 4 a0.length ((ePl).f a0), .agg [i64 a1.A, i64 a1.B, i64 a1.C, i64 a1.D]] (lk []) (.sl true 4 r.length ((ePl).f r)) (lk [])) := by
  unfold Dspec_l8Path at h
  refine x_call (fn := Tryd.f52) (c := bodyOf Tryd.f52) (bs0 := []) Tryd.func52 (by kernel_rfl) (by kernel_rfl) ?_
  obtain ⟨c0, h⟩ := chk_some h
  obtain ⟨c1, h⟩ := chk_some h
  replace h := Option.some.inj h; subst h
  exact x_end 15 [(4, .app false (List.length ([] ++ a0)) ((ePl).f ([] ++ a0))), (2, .app false (List.length (([] ++ a0) ++ [a1])) ((ePl).f (([] ++ a0) ++ [a1])))] [] (ocons (len_row' (L := []) ePl) (ocons (app_one (L := []) (M := a0) ePl c0) (ocons (app_new (L := []) (M := a0) ePl) (ocons (app_m (L := []) (M := a0) ePl rfl) (ocons (len_row' (L := a0) ePl) (ocons (len_row' (L := ([] ++ a0)) ePl) (ocons (app_one (L := ([] ++ a0)) (M := [a1]) ePl c1) (ocons (app_new (L := ([] ++ a0)) (M := [a1]) ePl) (ocons (app_m (L := ([] ++ a0)) (M := [a1]) ePl rfl) (ocons (len_row' (L := [a1]) ePl) (ocons (Enc.noOwn ePl (fun _ => rfl) [a1]) onil))))))))))) (ocons (len_row (L := (([] ++ a0) ++ [a1])) ePl) onil) (by kernel_rfl)
/-! spec.l8Look -/
def Dspec_l8Look_0 (_n : Nat) (self : (Sol × (List Pl)) → Option Bool) (t1 : List Pl) (t42 _b2_0 : Bool) (b2_1 b2_2 b2_3 b2_4 : Int) (b2_5 : List Sol) : Option Bool :=
  frk t42 (some false) ((lget b2_5 0).bind fun v5 => (Dspec_l8Path t1 (Pl.mk b2_1 b2_2 b2_3 b2_4)).bind fun v6 => (self (v5, v6)).bind fun v7 => frk v7 ((lget b2_5 1).bind fun v8 => (Dspec_l3Flip (Pl.mk b2_1 b2_2 b2_3 b2_4)).bind fun v9 => (Dspec_l8Path t1 v9).bind fun v10 => (self (v8, v10)).bind fun v11 => some v11) (some false))
theorem Tspec_l8Look_0 (n : Nat) (self : (Sol × (List Pl)) → Option Bool) (hself : ∀ (a : (Sol × (List Pl))) (r : Bool), self a = some r → Big Tryd.prog H YS (.call 37 [.agg [bl a.1.inn, i64 a.1.pl.A, i64 a.1.pl.B, i64 a.1.pl.C, i64 a.1.pl.D, .sl false 6 a.1.kids.length ((eSol false).f a.1.kids)], .sl false 4 a.2.length ((ePl).f a.2)] (lk []) (bl r) (lk []))) (t1 : List Pl) (t42 b2_0 : Bool) (b2_1 b2_2 b2_3 b2_4 : Int) (b2_5 : List Sol) (r : Bool) (h : Dspec_l8Look_0 n self t1 t42 b2_0 b2_1 b2_2 b2_3 b2_4 b2_5 = some r) : Wk Tryd.prog H YS 37 [.code (cp [1, 1, 0, 1] (bodyOf Tryd.f37)), .code (cp [1, 1, 1] (bodyOf Tryd.f37))] (FinX Tryd.prog Tryd.f37 [] (bl r) []) ⟨[(1, .sl false 4 t1.length ((ePl).f t1)), (2, .ptr 2 0), (42, bl t42)], [(2, ⟨true, 0, [bl b2_0, i64 b2_1, i64 b2_2, i64 b2_3, i64 b2_4, .sl false 6 b2_5.length ((eSol false).f b2_5)]⟩)]⟩ := by
  unfold Dspec_l8Look_0 at h
  refine x_frk 0 [] onil h (by kernel_rfl) (fun h => ?_) (fun h => ?_)
  · replace h := Option.some.inj h; subst h
    exact x_end 4 [] [] onil onil (by kernel_rfl)
  · obtain ⟨v5, hv5, h⟩ := bind_some h
    obtain ⟨v6, hv6, h⟩ := bind_some h
    obtain ⟨v7, hv7, h⟩ := bind_some h
    refine x_frk 13 [(2, .val (.cptr ((eSol false).c v5 ++ (eSol false).f ((b2_5).drop (Int.toNat 0 + 1))))), (4, .call [] [] (.sl false 4 v6.length ((ePl).f v6)) []), (0, .call [] [] (bl v7) [])] (ocons (ix (eSol false) hv5) (ocons (shSl (L := v6) ePl ePl sPl (Tspec_l8Path t1 (Pl.mk b2_1 b2_2 b2_3 b2_4) _ hv6)) (ocons (hself (v5, v6) _ hv7) onil))) h (by kernel_rfl) (fun h => ?_) (fun h => ?_)
    · obtain ⟨v8, hv8, h⟩ := bind_some h
      obtain ⟨v9, hv9, h⟩ := bind_some h
      obtain ⟨v10, hv10, h⟩ := bind_some h
      obtain ⟨v11, hv11, h⟩ := bind_some h
      replace h := Option.some.inj h; subst h
      exact x_end 13 [(2, .val (.cptr ((eSol false).c v8 ++ (eSol false).f ((b2_5).drop (Int.toNat 1 + 1))))), (4, .call [] [] (.agg [i64 v9.A, i64 v9.B, i64 v9.C, i64 v9.D]) []), (0, .call [] [] (.sl false 4 v10.length ((ePl).f v10)) []), (0, .call [] [] (bl v11) [])] [] (ocons (ix (eSol false) hv8) (ocons (Tspec_l3Flip (Pl.mk b2_1 b2_2 b2_3 b2_4) _ hv9) (ocons (shSl (L := v10) ePl ePl sPl (Tspec_l8Path t1 v9 _ hv10)) (ocons (hself (v8, v10) _ hv11) onil)))) onil (by kernel_rfl)
    · replace h := Option.some.inj h; subst h
      exact x_end 13 [] [] onil onil (by kernel_rfl)
def Dspec_l8Look_b (n : Nat) (self : (Sol × (List Pl)) → Option Bool) (a : (Sol × (List Pl))) : Option Bool :=
  match a with
  | (a0, a1) => (Dspec_l8Leaf a0).bind fun v0 => frk v0 (some (a0.pl.A == 0 && (a0.pl.B == 0 && (a0.pl.C == 0 && (a0.pl.D == 0 && true))))) (frk ((a0.kids.length : Int) != 2) (some false) (frk a0.inn (some false) ((Dspec_PlaneOk n a0.pl).bind fun v1 => frk (!v1) (some false) (frk ((a1.length : Int) == 24) (some false) ((Dspec_l6With n a1 a0.pl).bind fun v2 => frk v2 (some false) ((Dspec_l3Flip a0.pl).bind fun v3 => (Dspec_l6With n a1 v3).bind fun v4 => Dspec_l8Look_0 n self a1 v4 a0.inn a0.pl.A a0.pl.B a0.pl.C a0.pl.D a0.kids))))))
def Dspec_l8Look (n : Nat) (a0 : Sol) (a1 : (List Pl)) : Option Bool := loopN (Dspec_l8Look_b n) n (a0, a1)
theorem Tspec_l8Look_b (n : Nat) : ∀ (m : Nat) (a : (Sol × (List Pl))) (r : Bool), loopN (Dspec_l8Look_b n) m a = some r → ∀ (_ : Unit), Big Tryd.prog H YS (.call 37 [.agg [bl a.1.inn, i64 a.1.pl.A, i64 a.1.pl.B, i64 a.1.pl.C, i64 a.1.pl.D, .sl false 6 a.1.kids.length ((eSol false).f a.1.kids)], .sl false 4 a.2.length ((ePl).f a.2)] (lk []) (bl r) (lk [])) := by
  refine loopN_ind (fun self hs a r h => ?_)
  have hself : ∀ (a : (Sol × (List Pl))) (r : Bool), self a = some r → Big Tryd.prog H YS (.call 37 [.agg [bl a.1.inn, i64 a.1.pl.A, i64 a.1.pl.B, i64 a.1.pl.C, i64 a.1.pl.D, .sl false 6 a.1.kids.length ((eSol false).f a.1.kids)], .sl false 4 a.2.length ((ePl).f a.2)] (lk []) (bl r) (lk [])) := fun a r h => hs a r h ()
  intro _
  obtain ⟨a0, a1⟩ := a
  unfold Dspec_l8Look_b at h
  refine x_call (fn := Tryd.f37) (c := bodyOf Tryd.f37) (bs0 := []) Tryd.func37 (by kernel_rfl) (by kernel_rfl) ?_
  obtain ⟨v0, hv0, h⟩ := bind_some h
  refine x_frk 11 [(3, .call [] [] (bl v0) [])] (ocons (Tspec_l8Leaf a0 _ hv0) onil) h (by kernel_rfl) (fun h => ?_) (fun h => ?_)
  · replace h := Option.some.inj h; subst h
    exact x_end 8 [] [] onil onil (by kernel_rfl)
  · refine x_frk 9 [] onil h (by kernel_rfl) (fun h => ?_) (fun h => ?_)
    · replace h := Option.some.inj h; subst h
      exact x_end 33 [] [] onil onil (by kernel_rfl)
    · refine x_frk 4 [] onil h (by kernel_rfl) (fun h => ?_) (fun h => ?_)
      · replace h := Option.some.inj h; subst h
        exact x_end 29 [] [] onil onil (by kernel_rfl)
      · obtain ⟨v1, hv1, h⟩ := bind_some h
        refine x_frk 6 [(2, .call [] [] (bl v1) [])] (ocons (Tspec_PlaneOk n a0.pl _ hv1) onil) h (by kernel_rfl) (fun h => ?_) (fun h => ?_)
        · replace h := Option.some.inj h; subst h
          exact x_end 23 [] [] onil onil (by kernel_rfl)
        · refine x_frk 5 [] onil h (by kernel_rfl) (fun h => ?_) (fun h => ?_)
          · replace h := Option.some.inj h; subst h
            exact x_end 18 [] [] onil onil (by kernel_rfl)
          · obtain ⟨v2, hv2, h⟩ := bind_some h
            refine x_frk 6 [(3, .call [] [] (bl v2) [])] (ocons (Tspec_l6With n a1 a0.pl _ hv2) onil) h (by kernel_rfl) (fun h => ?_) (fun h => ?_)
            · replace h := Option.some.inj h; subst h
              exact x_end 12 [] [] onil onil (by kernel_rfl)
            · obtain ⟨v3, hv3, h⟩ := bind_some h
              obtain ⟨v4, hv4, h⟩ := bind_some h
              exact x_to 7 [(3, .call [] [] (.agg [i64 v3.A, i64 v3.B, i64 v3.C, i64 v3.D]) []), (0, .call [] [] (bl v4) [])] (ocons (Tspec_l3Flip a0.pl _ hv3) (ocons (Tspec_l6With n a1 v3 _ hv4) onil)) (Tspec_l8Look_0 n self hself a1 v4 a0.inn a0.pl.A a0.pl.B a0.pl.C a0.pl.D a0.kids r h) (by kernel_rfl)
theorem Tspec_l8Look (n : Nat) (a0 : Sol) (a1 : (List Pl)) (r : Bool) (h : Dspec_l8Look n a0 a1 = some r) : Big Tryd.prog H YS (.call 37 [.agg [bl a0.inn, i64 a0.pl.A, i64 a0.pl.B, i64 a0.pl.C, i64 a0.pl.D, .sl false 6 a0.kids.length ((eSol false).f a0.kids)], .sl false 4 a1.length ((ePl).f a1)] (lk []) (bl r) (lk [])) := Tspec_l8Look_b n n (a0, a1) r h ()
/-! spec.SolidOk -/
def Dspec_SolidOk (n : Nat) (a0 : Sol) : Option Bool :=
  (Dspec_l8Count n a0 301).bind fun v0 => frk (decide (v0 ≤ 300)) ((Dspec_l8Look n a0 []).bind fun v1 => some v1) (some false)
theorem Tspec_SolidOk (n : Nat) (a0 : Sol) (r : Bool) (h : Dspec_SolidOk n a0 = some r) : Big Tryd.prog H YS (.call 23 [.agg [bl a0.inn, i64 a0.pl.A, i64 a0.pl.B, i64 a0.pl.C, i64 a0.pl.D, .sl false 6 a0.kids.length ((eSol false).f a0.kids)]] (lk []) (bl r) (lk [])) := by
  unfold Dspec_SolidOk at h
  refine x_call (fn := Tryd.f23) (c := bodyOf Tryd.f23) (bs0 := []) Tryd.func23 (by kernel_rfl) (by kernel_rfl) ?_
  obtain ⟨v0, hv0, h⟩ := bind_some h
  refine x_frk 11 [(3, .call [] [] (i64 v0) [])] (ocons (Tspec_l8Count n a0 301 _ hv0) onil) h (by kernel_rfl) (fun h => ?_) (fun h => ?_)
  · obtain ⟨v1, hv1, h⟩ := bind_some h
    replace h := Option.some.inj h; subst h
    exact x_end 6 [(2, .call [] [(ePl).f []] (bl v1) [])] [] (ocons (Tspec_l8Look n a0 [] _ hv1) (ocons (len_row (L := []) ePl) (ocons (Enc.share ePl ePl sPl []) onil))) onil (by kernel_rfl)
  · replace h := Option.some.inj h; subst h
    exact x_end 6 [] [] onil onil (by kernel_rfl)
/-! spec.l1Num -/
def Dspec_l1Num_1 (_n : Nat) (t0 : Bool) (t1 : List Int) (t5 : Int) (_b4_0 : Bool) : Option Num :=
  frk t0 ((lsl t1 0 t5).bind fun v1 => chk (apB 8 (0 + v1.length)) (some (Num.mk (decide (t5 > 0)) ([] ++ v1)))) ((lsl t1 0 t5).bind fun v3 => chk (apB 8 (0 + v3.length)) (some (Num.mk false ([] ++ v3))))
theorem Tspec_l1Num_1 (n : Nat) (t0 : Bool) (t1 : List Int) (t5 : Int) (b4_0 : Bool) (r : Num) (h : Dspec_l1Num_1 n t0 t1 t5 b4_0 = some r) : Wk Tryd.prog H YS 60 [.code (cp [1, 1, 1, 0] (bodyOf Tryd.f60)), .code (cp [1, 1, 1, 1] (bodyOf Tryd.f60))] (FinX Tryd.prog Tryd.f60 [] (.agg [bl r.Neg, .sl true 1 r.D.length ((eInt).f r.D)]) []) ⟨[(0, bl t0), (1, .sl false 1 t1.length ((eInt).f t1)), (4, .ptr 4 0), (5, i64 t5)], [(4, ⟨true, 0, [bl b4_0, .nil]⟩)]⟩ := by
  unfold Dspec_l1Num_1 at h
  refine x_frk 3 [] onil h (by kernel_rfl) (fun h => ?_) (fun h => ?_)
  · obtain ⟨v1, hv1, h⟩ := bind_some h
    obtain ⟨c2, h⟩ := chk_some h
    replace h := Option.some.inj h; subst h
    exact x_end 11 [(6, .val (.sl false 1 v1.length ((eInt).f v1))), (0, .app false (List.length ([] ++ v1)) ((eInt).f ([] ++ v1)))] [] (ocons (slF eInt hv1) (ocons (len_row' (L := []) eInt) (ocons (app_one (L := []) (M := v1) eInt c2) (ocons (app_new (L := []) (M := v1) eInt) (ocons (app_m (L := []) (M := v1) eInt rfl) (ocons (len_row' (L := v1) eInt) onil)))))) (ocons (len_row (L := ([] ++ v1)) eInt) onil) (by kernel_rfl)
  · obtain ⟨v3, hv3, h⟩ := bind_some h
    obtain ⟨c4, h⟩ := chk_some h
    replace h := Option.some.inj h; subst h
    exact x_end 11 [(6, .val (.sl false 1 v3.length ((eInt).f v3))), (0, .app false (List.length ([] ++ v3)) ((eInt).f ([] ++ v3)))] [] (ocons (slF eInt hv3) (ocons (len_row' (L := []) eInt) (ocons (app_one (L := []) (M := v3) eInt c4) (ocons (app_new (L := []) (M := v3) eInt) (ocons (app_m (L := []) (M := v3) eInt rfl) (ocons (len_row' (L := v3) eInt) onil)))))) (ocons (len_row (L := ([] ++ v3)) eInt) onil) (by kernel_rfl)
def Dspec_l1Num_0 (n : Nat) (rec0 : Int → Option Num) (t0 : Bool) (t1 : List Int) (b4_0 : Bool) (t5 : Int) (t17 : Bool) : Option Num :=
  frk t17 (rec0 (w64 (t5 - 1))) (Dspec_l1Num_1 n t0 t1 t5 b4_0)
theorem Tspec_l1Num_0 (n : Nat) (rec0 : Int → Option Num) (t0 : Bool) (t1 : List Int) (b4_0 : Bool) (hrec0 : ∀ (a : Int) (r : Num), rec0 a = some r → Wk Tryd.prog H YS 60 [.code (cp [1, 1, 0, 0] (bodyOf Tryd.f60)), .blk 0, .code (cp [1, 1, 1] (bodyOf Tryd.f60))] (FinX Tryd.prog Tryd.f60 [] (.agg [bl r.Neg, .sl true 1 r.D.length ((eInt).f r.D)]) []) ⟨[(0, bl t0), (1, .sl false 1 t1.length ((eInt).f t1)), (4, .ptr 4 0), (5, i64 a)], [(4, ⟨true, 0, [bl b4_0, .nil]⟩)]⟩) (t5 : Int) (t17 : Bool) (r : Num) (h : Dspec_l1Num_0 n rec0 t0 t1 b4_0 t5 t17 = some r) : Wk Tryd.prog H YS 60 [.code (cp [1, 1, 0, 0, 0, 0, 1] (bodyOf Tryd.f60)), .code (cp [1, 1, 0, 0, 0, 1] (bodyOf Tryd.f60)), .lp (cp [1, 1, 0, 0] (bodyOf Tryd.f60)), .blk 0, .code (cp [1, 1, 1] (bodyOf Tryd.f60))] (FinX Tryd.prog Tryd.f60 [] (.agg [bl r.Neg, .sl true 1 r.D.length ((eInt).f r.D)]) []) ⟨[(0, bl t0), (1, .sl false 1 t1.length ((eInt).f t1)), (4, .ptr 4 0), (5, i64 t5), (17, bl t17)], [(4, ⟨true, 0, [bl b4_0, .nil]⟩)]⟩ := by
  unfold Dspec_l1Num_0 at h
  refine x_frk 0 [] onil h (by kernel_rfl) (fun h => ?_) (fun h => ?_)
  · exact x_to 9 [] onil (hrec0 (w64 (t5 - 1)) r h) (by kernel_rfl)
  · exact x_to 2 [] onil (Tspec_l1Num_1 n t0 t1 t5 b4_0 r h) (by kernel_rfl)
def Dspec_l1Num_2 (n : Nat) (t0 : Bool) (t1 : List Int) (b4_0 : Bool) (rec0 : Int → Option Num) (a : Int) : Option Num :=
  match a with
  | t5 => frk (decide (t5 > 0)) ((lget t1 (w64 (t5 - 1))).bind fun v0 => Dspec_l1Num_0 n rec0 t0 t1 b4_0 t5 (v0 == 0)) (Dspec_l1Num_1 n t0 t1 t5 b4_0)
theorem Tspec_l1Num_2 (n : Nat) (t0 : Bool) (t1 : List Int) (b4_0 : Bool) : ∀ (m : Nat) (a : Int) (r : Num), loopN (Dspec_l1Num_2 n t0 t1 b4_0) m a = some r → Wk Tryd.prog H YS 60 [.code (cp [1, 1, 0, 0] (bodyOf Tryd.f60)), .blk 0, .code (cp [1, 1, 1] (bodyOf Tryd.f60))] (FinX Tryd.prog Tryd.f60 [] (.agg [bl r.Neg, .sl true 1 r.D.length ((eInt).f r.D)]) []) ⟨[(0, bl t0), (1, .sl false 1 t1.length ((eInt).f t1)), (4, .ptr 4 0), (5, i64 a)], [(4, ⟨true, 0, [bl b4_0, .nil]⟩)]⟩ := by
  refine loopN_ind (fun rec0 hrec0 a r h => ?_)
  obtain ⟨t5, rfl⟩ : ∃ x, x = a := ⟨a, rfl⟩
  unfold Dspec_l1Num_2 at h
  refine x_frk 7 [] onil h (by kernel_rfl) (fun h => ?_) (fun h => ?_)
  · obtain ⟨v0, hv0, h⟩ := bind_some h
    exact x_to 8 [(3, .val (.cptr (eInt.c v0 ++ (eInt).f ((t1).drop (Int.toNat (w64 (t5 - 1)) + 1)))))] (ocons (ix eInt hv0) onil) (Tspec_l1Num_0 n rec0 t0 t1 b4_0 hrec0 t5 (v0 == 0) r h) (by kernel_rfl)
  · exact x_to 11 [] onil (Tspec_l1Num_1 n t0 t1 t5 b4_0 r h) (by kernel_rfl)
def Dspec_l1Num (n : Nat) (a0 : Bool) (a1 : (List Int)) : Option Num :=
  loopN (Dspec_l1Num_2 n a0 a1 false) n (a1.length : Int)
theorem Tspec_l1Num (n : Nat) (a0 : Bool) (a1 : (List Int)) (r : Num) (h : Dspec_l1Num n a0 a1 = some r) : Big Tryd.prog H YS (.call 60 [bl a0, .sl false 1 a1.length ((eInt).f a1)] (lk []) (.agg [bl r.Neg, .sl true 1 r.D.length ((eInt).f r.D)]) (lk [])) := by
  unfold Dspec_l1Num at h
  refine x_call (fn := Tryd.f60) (c := bodyOf Tryd.f60) (bs0 := []) Tryd.func60 (by kernel_rfl) (by kernel_rfl) ?_
  exact x_to 12 [] onil (Tspec_l1Num_2 n a0 a1 false n (a1.length : Int) r h) (by kernel_rfl)
/-! spec.Of -/
def Dspec_Of_1 (n : Nat) (t0 : Int) (_b2_0 : Bool) (l14 : List Int) : Option Num :=
  (Dspec_l1Num n (decide (t0 < 0)) l14).bind fun v1 => some v1
theorem Tspec_Of_1 (n : Nat) (t0 : Int) (b2_0 : Bool) (l14 : List Int) (r : Num) (h : Dspec_Of_1 n t0 b2_0 l14 = some r) : Wk Tryd.prog H YS 44 [.code (cp [1, 1, 1, 1, 1, 0] (bodyOf Tryd.f44)), .code (cp [1, 1, 1, 1, 1, 1] (bodyOf Tryd.f44))] (FinX Tryd.prog Tryd.f44 [] (.agg [bl r.Neg, .sl true 1 r.D.length ((eInt).f r.D)]) []) ⟨[(0, i64 t0), (2, .ptr 2 0), (4, .msl 14 l14.length)], [(2, ⟨true, 0, [bl b2_0, .nil]⟩), (14, ⟨true, 1, (eInt).f l14⟩)]⟩ := by
  unfold Dspec_Of_1 at h
  obtain ⟨v1, hv1, h⟩ := bind_some h
  replace h := Option.some.inj h; subst h
  exact x_end 7 [(3, .call [] [(eInt).f l14] (.agg [bl v1.Neg, .sl true 1 v1.D.length ((eInt).f v1.D)]) [])] [] (ocons (Tspec_l1Num n (decide (t0 < 0)) l14 _ hv1) (ocons (len_row (L := l14) eInt) (ocons (Enc.share eInt eInt sInt l14) (ocons (show hasSh (.agg [bl v1.Neg, .sl true 1 v1.D.length ((eInt).f v1.D)]) = false by simp [hasSh, hasShL, nSh, nShI, nShB, nShP, nShT, nShN, nShPs]) onil)))) onil (by kernel_rfl)
def Dspec_Of_2 (n : Nat) (t0 : Int) (b2_0 : Bool) (rec0 : (Int × List Int) → Option Num) (a : (Int × List Int)) : Option Num :=
  match a with
  | (t3, l14) => frk (decide (t3 > 0)) (chk (apB 8 (l14.length + 1)) (rec0 (IntKind.u64.wrap (Int.tdiv t3 10000), (l14 ++ [w64 (Int.tmod t3 10000)])))) (Dspec_Of_1 n t0 b2_0 l14)
theorem Tspec_Of_2 (n : Nat) (t0 : Int) (b2_0 : Bool) : ∀ (m : Nat) (a : (Int × List Int)) (r : Num), loopN (Dspec_Of_2 n t0 b2_0) m a = some r → Wk Tryd.prog H YS 44 [.code (cp [1, 1, 1, 1, 0, 0] (bodyOf Tryd.f44)), .blk 0, .code (cp [1, 1, 1, 1, 1] (bodyOf Tryd.f44))] (FinX Tryd.prog Tryd.f44 [] (.agg [bl r.Neg, .sl true 1 r.D.length ((eInt).f r.D)]) []) ⟨[(0, i64 t0), (2, .ptr 2 0), (3, .lit (.int .u64 a.1)), (4, .msl 14 a.2.length)], [(2, ⟨true, 0, [bl b2_0, .nil]⟩), (14, ⟨true, 1, (eInt).f a.2⟩)]⟩ := by
  refine loopN_ind (fun _rec0 hrec0 a r h => ?_)
  obtain ⟨t3, l14⟩ := a
  unfold Dspec_Of_2 at h
  refine x_frk 7 [] onil h (by kernel_rfl) (fun h => ?_) (fun h => ?_)
  · obtain ⟨c0, h⟩ := chk_some h
    exact x_to 20 [(5, .app false (List.length (l14 ++ [w64 (Int.tmod t3 10000)])) ((eInt).f (l14 ++ [w64 (Int.tmod t3 10000)]))), (4, .ren 22 14)] (ocons (len_row' (L := l14) eInt) (ocons (app_one (L := l14) (M := [w64 (Int.tmod t3 10000)]) eInt c0) (ocons (app_new (L := l14) (M := [w64 (Int.tmod t3 10000)]) eInt) (ocons (app_m (L := l14) (M := [w64 (Int.tmod t3 10000)]) eInt rfl) (ocons (len_row' (L := [w64 (Int.tmod t3 10000)]) eInt) (ocons (Enc.noOwn eInt (fun _ => rfl) [w64 (Int.tmod t3 10000)]) (ocons (show 22 < 1000 ∧ 14 < 1000 by decide) onil))))))) (hrec0 (IntKind.u64.wrap (Int.tdiv t3 10000), (l14 ++ [w64 (Int.tmod t3 10000)])) r h) (by kernel_rfl)
  · exact x_to 2 [] onil (Tspec_Of_1 n t0 b2_0 l14 r h) (by kernel_rfl)
def Dspec_Of_0 (n : Nat) (t0 t3 : Int) (b2_0 : Bool) (l14 : List Int) : Option Num :=
  loopN (Dspec_Of_2 n t0 b2_0) n (t3, l14)
theorem Tspec_Of_0 (n : Nat) (t0 t3 : Int) (b2_0 : Bool) (l14 : List Int) (r : Num) (h : Dspec_Of_0 n t0 t3 b2_0 l14 = some r) : Wk Tryd.prog H YS 44 [.code (cp [1, 1, 1, 1, 0, 0] (bodyOf Tryd.f44)), .blk 0, .code (cp [1, 1, 1, 1, 1] (bodyOf Tryd.f44))] (FinX Tryd.prog Tryd.f44 [] (.agg [bl r.Neg, .sl true 1 r.D.length ((eInt).f r.D)]) []) ⟨[(0, i64 t0), (2, .ptr 2 0), (3, .lit (.int .u64 t3)), (4, .msl 14 l14.length)], [(2, ⟨true, 0, [bl b2_0, .nil]⟩), (14, ⟨true, 1, (eInt).f l14⟩)]⟩ := by
  unfold Dspec_Of_0 at h
  exact x_to 0 [] onil (Tspec_Of_2 n t0 b2_0 n (t3, l14) r h) (by kernel_rfl)
def Dspec_Of (n : Nat) (a0 : Int) : Option Num :=
  frk (decide (a0 < 0)) (Dspec_Of_0 n a0 (IntKind.u64.wrap ((IntKind.u64.wrap (w64 (0 - (w64 (a0 + 1))))) + 1)) false []) (Dspec_Of_0 n a0 (IntKind.u64.wrap a0) false [])
theorem Tspec_Of (n : Nat) (a0 : Int) (r : Num) (h : Dspec_Of n a0 = some r) : Big Tryd.prog H YS (.call 44 [i64 a0] (lk []) (.agg [bl r.Neg, .sl true 1 r.D.length ((eInt).f r.D)]) (lk [])) := by
  unfold Dspec_Of at h
  refine x_call (fn := Tryd.f44) (c := bodyOf Tryd.f44) (bs0 := []) Tryd.func44 (by kernel_rfl) (by kernel_rfl) ?_
  refine x_frk 16 [] onil h (by kernel_rfl) (fun h => ?_) (fun h => ?_)
  · exact x_to 15 [] onil (Tspec_Of_0 n a0 (IntKind.u64.wrap ((IntKind.u64.wrap (w64 (0 - (w64 (a0 + 1))))) + 1)) false [] r h) (by kernel_rfl)
  · exact x_to 8 [] onil (Tspec_Of_0 n a0 (IntKind.u64.wrap a0) false [] r h) (by kernel_rfl)
/-! spec.NumOk -/
def Dspec_NumOk_1 (_n : Nat) (t3 : Int) (b1_0 : Bool) (b1_1 : List Int) : Option Bool :=
  frk (decide (t3 ≤ 120)) (frk (t3 == 0) (frk (!b1_0) (some true) (frk (decide (t3 > 0)) ((lget b1_1 (w64 (t3 - 1))).bind fun v2 => some (v2 != 0)) (some false))) (frk (decide (t3 > 0)) ((lget b1_1 (w64 (t3 - 1))).bind fun v3 => some (v3 != 0)) (some false))) (some false)
theorem Tspec_NumOk_1 (n : Nat) (t3 : Int) (b1_0 : Bool) (b1_1 : List Int) (r : Bool) (h : Dspec_NumOk_1 n t3 b1_0 b1_1 = some r) : Wk Tryd.prog H YS 71 [.code (cp [1, 1, 1, 0] (bodyOf Tryd.f71)), .code (cp [1, 1, 1, 1] (bodyOf Tryd.f71))] (FinX Tryd.prog Tryd.f71 [] (bl r) []) ⟨[(1, .ptr 1 0), (3, i64 t3)], [(1, ⟨true, 0, [bl b1_0, .sl false 1 b1_1.length ((eInt).f b1_1)]⟩)]⟩ := by
  unfold Dspec_NumOk_1 at h
  refine x_frk 4 [] onil h (by kernel_rfl) (fun h => ?_) (fun h => ?_)
  · refine x_frk 3 [] onil h (by kernel_rfl) (fun h => ?_) (fun h => ?_)
    · refine x_frk 5 [] onil h (by kernel_rfl) (fun h => ?_) (fun h => ?_)
      · replace h := Option.some.inj h; subst h
        exact x_end 15 [] [] onil onil (by kernel_rfl)
      · refine x_frk 3 [] onil h (by kernel_rfl) (fun h => ?_) (fun h => ?_)
        · obtain ⟨v2, hv2, h⟩ := bind_some h
          replace h := Option.some.inj h; subst h
          exact x_end 12 [(4, .val (.cptr (eInt.c v2 ++ (eInt).f ((b1_1).drop (Int.toNat (w64 (t3 - 1)) + 1)))))] [] (ocons (ix eInt hv2) onil) onil (by kernel_rfl)
        · replace h := Option.some.inj h; subst h
          exact x_end 12 [] [] onil onil (by kernel_rfl)
    · refine x_frk 8 [] onil h (by kernel_rfl) (fun h => ?_) (fun h => ?_)
      · obtain ⟨v3, hv3, h⟩ := bind_some h
        replace h := Option.some.inj h; subst h
        exact x_end 12 [(4, .val (.cptr (eInt.c v3 ++ (eInt).f ((b1_1).drop (Int.toNat (w64 (t3 - 1)) + 1)))))] [] (ocons (ix eInt hv3) onil) onil (by kernel_rfl)
      · replace h := Option.some.inj h; subst h
        exact x_end 12 [] [] onil onil (by kernel_rfl)
  · replace h := Option.some.inj h; subst h
    exact x_end 23 [] [] onil onil (by kernel_rfl)
def Dspec_NumOk_0 (n : Nat) (rec0 : Int → Option Bool) (t3 : Int) (b1_0 : Bool) (b1_1 : List Int) (t4 : Int) (t14 : Bool) : Option Bool :=
  frk t14 ((lget b1_1 t4).bind fun v0 => (Dspec_l1In v0 0 9999).bind fun v1 => frk (!v1) (some false) (rec0 (w64 (t4 + 1)))) (Dspec_NumOk_1 n t3 b1_0 b1_1)
theorem Tspec_NumOk_0 (n : Nat) (rec0 : Int → Option Bool) (t3 : Int) (b1_0 : Bool) (b1_1 : List Int) (hrec0 : ∀ (a : Int) (r : Bool), rec0 a = some r → Wk Tryd.prog H YS 71 [.code (cp [1, 1, 0, 1, 0] (bodyOf Tryd.f71)), .blk 0, .code (cp [1, 1, 1] (bodyOf Tryd.f71))] (FinX Tryd.prog Tryd.f71 [] (bl r) []) ⟨[(1, .ptr 1 0), (3, i64 t3), (4, i64 a)], [(1, ⟨true, 0, [bl b1_0, .sl false 1 b1_1.length ((eInt).f b1_1)]⟩)]⟩) (t4 : Int) (t14 r : Bool) (h : Dspec_NumOk_0 n rec0 t3 b1_0 b1_1 t4 t14 = some r) : Wk Tryd.prog H YS 71 [.code (cp [1, 1, 0, 1, 0, 0, 0, 1] (bodyOf Tryd.f71)), .code (cp [1, 1, 0, 1, 0, 0, 1] (bodyOf Tryd.f71)), .lp (cp [1, 1, 0, 1, 0] (bodyOf Tryd.f71)), .blk 0, .code (cp [1, 1, 1] (bodyOf Tryd.f71))] (FinX Tryd.prog Tryd.f71 [] (bl r) []) ⟨[(1, .ptr 1 0), (3, i64 t3), (4, i64 t4), (14, bl t14)], [(1, ⟨true, 0, [bl b1_0, .sl false 1 b1_1.length ((eInt).f b1_1)]⟩)]⟩ := by
  unfold Dspec_NumOk_0 at h
  refine x_frk 0 [] onil h (by kernel_rfl) (fun h => ?_) (fun h => ?_)
  · obtain ⟨v0, hv0, h⟩ := bind_some h
    obtain ⟨v1, hv1, h⟩ := bind_some h
    refine x_frk 13 [(3, .val (.cptr (eInt.c v0 ++ (eInt).f ((b1_1).drop (Int.toNat t4 + 1))))), (1, .call [] [] (bl v1) [])] (ocons (ix eInt hv0) (ocons (Tspec_l1In v0 0 9999 _ hv1) onil)) h (by kernel_rfl) (fun h => ?_) (fun h => ?_)
    · replace h := Option.some.inj h; subst h
      exact x_end 4 [] [] onil onil (by kernel_rfl)
    · exact x_to 8 [] onil (hrec0 (w64 (t4 + 1)) r h) (by kernel_rfl)
  · exact x_to 2 [] onil (Tspec_NumOk_1 n t3 b1_0 b1_1 r h) (by kernel_rfl)
def Dspec_NumOk_2 (n : Nat) (t3 : Int) (b1_0 : Bool) (b1_1 : List Int) (rec0 : Int → Option Bool) (a : Int) : Option Bool :=
  match a with
  | t4 => frk (decide (t4 < t3)) (Dspec_NumOk_0 n rec0 t3 b1_0 b1_1 t4 (decide (t4 ≤ 120))) (Dspec_NumOk_1 n t3 b1_0 b1_1)
theorem Tspec_NumOk_2 (n : Nat) (t3 : Int) (b1_0 : Bool) (b1_1 : List Int) : ∀ (m : Nat) (a : Int) (r : Bool), loopN (Dspec_NumOk_2 n t3 b1_0 b1_1) m a = some r → Wk Tryd.prog H YS 71 [.code (cp [1, 1, 0, 1, 0] (bodyOf Tryd.f71)), .blk 0, .code (cp [1, 1, 1] (bodyOf Tryd.f71))] (FinX Tryd.prog Tryd.f71 [] (bl r) []) ⟨[(1, .ptr 1 0), (3, i64 t3), (4, i64 a)], [(1, ⟨true, 0, [bl b1_0, .sl false 1 b1_1.length ((eInt).f b1_1)]⟩)]⟩ := by
  refine loopN_ind (fun rec0 hrec0 a r h => ?_)
  obtain ⟨t4, rfl⟩ : ∃ x, x = a := ⟨a, rfl⟩
  unfold Dspec_NumOk_2 at h
  refine x_frk 8 [] onil h (by kernel_rfl) (fun h => ?_) (fun h => ?_)
  · exact x_to 4 [] onil (Tspec_NumOk_0 n rec0 t3 b1_0 b1_1 hrec0 t4 (decide (t4 ≤ 120)) r h) (by kernel_rfl)
  · exact x_to 7 [] onil (Tspec_NumOk_1 n t3 b1_0 b1_1 r h) (by kernel_rfl)
def Dspec_NumOk (n : Nat) (a0 : Num) : Option Bool :=
  loopN (Dspec_NumOk_2 n (a0.D.length : Int) a0.Neg a0.D) n 0
theorem Tspec_NumOk (n : Nat) (a0 : Num) (r : Bool) (h : Dspec_NumOk n a0 = some r) : Big Tryd.prog H YS (.call 71 [.agg [bl a0.Neg, .sl false 1 a0.D.length ((eInt).f a0.D)]] (lk []) (bl r) (lk [])) := by
  unfold Dspec_NumOk at h
  refine x_call (fn := Tryd.f71) (c := bodyOf Tryd.f71) (bs0 := []) Tryd.func71 (by kernel_rfl) (by kernel_rfl) ?_
  exact x_to 18 [] onil (Tspec_NumOk_2 n (a0.D.length : Int) a0.Neg a0.D n 0 r h) (by kernel_rfl)
/-! spec.l1Mag -/
def Dspec_l1Mag (n : Nat) (a0 : Num) : Option (List Int) :=
  (Dspec_NumOk n a0).bind fun v0 => frk (!v0) (some []) (some a0.D)
theorem Tspec_l1Mag (n : Nat) (a0 : Num) (r : (List Int)) (h : Dspec_l1Mag n a0 = some r) : Big Tryd.prog H YS (.call 58 [.agg [bl a0.Neg, .sl false 1 a0.D.length ((eInt).f a0.D)]] (lk []) (.sl false 1 r.length ((eInt).f r)) (lk [])) := by
  unfold Dspec_l1Mag at h
  refine x_call (fn := Tryd.f58) (c := bodyOf Tryd.f58) (bs0 := []) Tryd.func58 (by kernel_rfl) (by kernel_rfl) ?_
  obtain ⟨v0, hv0, h⟩ := bind_some h
  refine x_frk 12 [(3, .call [] [] (bl v0) [])] (ocons (Tspec_NumOk n a0 _ hv0) onil) h (by kernel_rfl) (fun h => ?_) (fun h => ?_)
  · replace h := Option.some.inj h; subst h
    exact x_endS 5 [] onil (ocons (len_row (L := []) eInt) onil) (wkShare (L := []) eInt eInt sInt) (by kernel_rfl)
  · replace h := Option.some.inj h; subst h
    exact x_end 7 [] [] onil onil (by kernel_rfl)
/-! spec.l1Four -/
def Dspec_l1Four (a0 : Int) : Option ByteArray :=
  (some (strOfNums [IntKind.u8.wrap (w64 (48 + (w64 (Int.tdiv a0 1000)))), IntKind.u8.wrap (w64 (48 + (Int.tmod (w64 (Int.tdiv a0 100)) 10))), IntKind.u8.wrap (w64 (48 + (Int.tmod (w64 (Int.tdiv a0 10)) 10))), IntKind.u8.wrap (w64 (48 + (Int.tmod a0 10)))])).bind fun v0 => some v0
theorem Tspec_l1Four (a0 : Int) (r : ByteArray) (h : Dspec_l1Four a0 = some r) : Big Tryd.prog H YS (.call 59 [i64 a0] (lk []) (.lit (.string r)) (lk [])) := by
  unfold Dspec_l1Four at h
  refine x_call (fn := Tryd.f59) (c := bodyOf Tryd.f59) (bs0 := []) Tryd.func59 (by kernel_rfl) (by kernel_rfl) ?_
  obtain ⟨v0, hv0, h⟩ := bind_some h
  replace h := Option.some.inj h; subst h
  exact x_end 28 [(20, .val (.lit (.string v0)))] [] (ocons (strL [IntKind.u8.wrap (w64 (48 + (w64 (Int.tdiv a0 1000)))), IntKind.u8.wrap (w64 (48 + (Int.tmod (w64 (Int.tdiv a0 100)) 10))), IntKind.u8.wrap (w64 (48 + (Int.tmod (w64 (Int.tdiv a0 10)) 10))), IntKind.u8.wrap (w64 (48 + (Int.tmod a0 10)))] hv0) onil) onil (by kernel_rfl)
/-! spec.NumText -/
def Dspec_NumText_1 (_n : Nat) (t4 : ByteArray) (t31 : Bool) : Option ByteArray :=
  frk t31 ((scat (ByteArray.mk #[45]) t4).bind fun v6 => some v6) (some t4)
theorem Tspec_NumText_1 (n : Nat) (t4 : ByteArray) (t31 : Bool) (r : ByteArray) (h : Dspec_NumText_1 n t4 t31 = some r) : Wk Tryd.prog H YS 43 [.code (cp [1, 1, 1, 1, 1, 1, 0, 1] (bodyOf Tryd.f43)), .code (cp [1, 1, 1, 1, 1, 1, 1] (bodyOf Tryd.f43))] (FinX Tryd.prog Tryd.f43 [] (.lit (.string r)) []) ⟨[(4, .lit (.string t4)), (31, bl t31)], []⟩ := by
  unfold Dspec_NumText_1 at h
  refine x_frk 0 [] onil h (by kernel_rfl) (fun h => ?_) (fun h => ?_)
  · obtain ⟨v6, hv6, h⟩ := bind_some h
    replace h := Option.some.inj h; subst h
    exact x_end 6 [(1, .val (.lit (.string v6)))] [] (ocons (catOk hv6) onil) onil (by kernel_rfl)
  · replace h := Option.some.inj h; subst h
    exact x_end 6 [] [] onil onil (by kernel_rfl)
def Dspec_NumText_2 (n : Nat) (b1_0 : Bool) (_b1_1 : List Int) (rec1 : ByteArray → Option ByteArray) (a : ByteArray) : Option ByteArray :=
  match a with
  | t4 => (sget t4 0).bind fun v4 => frk (v4 == 48) ((ssl t4 1 (t4.size : Int)).bind fun v5 => rec1 v5) (Dspec_NumText_1 n t4 b1_0)
theorem Tspec_NumText_2 (n : Nat) (b1_0 : Bool) (b1_1 : List Int) : ∀ (m : Nat) (a : ByteArray) (r : ByteArray), loopN (Dspec_NumText_2 n b1_0 b1_1) m a = some r → Wk Tryd.prog H YS 43 [.code (cp [1, 1, 1, 1, 1, 0, 0] (bodyOf Tryd.f43)), .blk 2, .code (cp [1, 1, 1, 1, 1, 1] (bodyOf Tryd.f43))] (FinX Tryd.prog Tryd.f43 [] (.lit (.string r)) []) ⟨[(1, .ptr 1 0), (4, .lit (.string a))], [(1, ⟨true, 0, [bl b1_0, .sl false 1 b1_1.length ((eInt).f b1_1)]⟩)]⟩ := by
  refine loopN_ind (fun _rec1 hrec1 a r h => ?_)
  obtain ⟨t4, rfl⟩ : ∃ x, x = a := ⟨a, rfl⟩
  unfold Dspec_NumText_2 at h
  obtain ⟨v4, hv4, h⟩ := bind_some h
  refine x_frk 8 [(1, .val (.lit (.int .u8 v4)))] (ocons (strIx hv4) onil) h (by kernel_rfl) (fun h => ?_) (fun h => ?_)
  · obtain ⟨v5, hv5, h⟩ := bind_some h
    exact x_to 9 [(1, .val (.lit (.string v5)))] (ocons (strSl hv5) onil) (hrec1 v5 r h) (by kernel_rfl)
  · exact x_to 7 [] onil (Tspec_NumText_1 n t4 b1_0 r h) (by kernel_rfl)
def Dspec_NumText_0 (n : Nat) (t4 : ByteArray) (b1_0 : Bool) (b1_1 : List Int) : Option ByteArray :=
  loopN (Dspec_NumText_2 n b1_0 b1_1) n t4
theorem Tspec_NumText_0 (n : Nat) (t4 : ByteArray) (b1_0 : Bool) (b1_1 : List Int) (r : ByteArray) (h : Dspec_NumText_0 n t4 b1_0 b1_1 = some r) : Wk Tryd.prog H YS 43 [.code (cp [1, 1, 1, 1, 1, 0, 0] (bodyOf Tryd.f43)), .blk 2, .code (cp [1, 1, 1, 1, 1, 1] (bodyOf Tryd.f43))] (FinX Tryd.prog Tryd.f43 [] (.lit (.string r)) []) ⟨[(1, .ptr 1 0), (4, .lit (.string t4))], [(1, ⟨true, 0, [bl b1_0, .sl false 1 b1_1.length ((eInt).f b1_1)]⟩)]⟩ := by
  unfold Dspec_NumText_0 at h
  exact x_to 0 [] onil (Tspec_NumText_2 n b1_0 b1_1 n t4 r h) (by kernel_rfl)
def Dspec_NumText_3 (n : Nat) (t3 : List Int) (b1_0 : Bool) (b1_1 : List Int) (rec0 : (ByteArray × Int) → Option ByteArray) (a : (ByteArray × Int)) : Option ByteArray :=
  match a with
  | (t4, t5) => frk (decide (t5 ≥ 0)) ((lget t3 t5).bind fun v1 => (Dspec_l1Four v1).bind fun v2 => (scat t4 v2).bind fun v3 => rec0 (v3, w64 (t5 - 1))) (Dspec_NumText_0 n t4 b1_0 b1_1)
theorem Tspec_NumText_3 (n : Nat) (t3 : List Int) (b1_0 : Bool) (b1_1 : List Int) : ∀ (m : Nat) (a : (ByteArray × Int)) (r : ByteArray), loopN (Dspec_NumText_3 n t3 b1_0 b1_1) m a = some r → Wk Tryd.prog H YS 43 [.code (cp [1, 1, 1, 1, 0, 1, 0] (bodyOf Tryd.f43)), .blk 0, .code (cp [1, 1, 1, 1, 1] (bodyOf Tryd.f43))] (FinX Tryd.prog Tryd.f43 [] (.lit (.string r)) []) ⟨[(1, .ptr 1 0), (3, .sl false 1 t3.length ((eInt).f t3)), (4, .lit (.string a.1)), (5, i64 a.2)], [(1, ⟨true, 0, [bl b1_0, .sl false 1 b1_1.length ((eInt).f b1_1)]⟩)]⟩ := by
  refine loopN_ind (fun _rec0 hrec0 a r h => ?_)
  obtain ⟨t4, t5⟩ := a
  unfold Dspec_NumText_3 at h
  refine x_frk 7 [] onil h (by kernel_rfl) (fun h => ?_) (fun h => ?_)
  · obtain ⟨v1, hv1, h⟩ := bind_some h
    obtain ⟨v2, hv2, h⟩ := bind_some h
    obtain ⟨v3, hv3, h⟩ := bind_some h
    exact x_to 20 [(3, .val (.cptr (eInt.c v1 ++ (eInt).f ((t3).drop (Int.toNat t5 + 1))))), (1, .call [] [] (.lit (.string v2)) []), (0, .val (.lit (.string v3)))] (ocons (ix eInt hv1) (ocons (Tspec_l1Four v1 _ hv2) (ocons (catOk hv3) onil))) (hrec0 (v3, w64 (t5 - 1)) r h) (by kernel_rfl)
  · exact x_to 3 [] onil (Tspec_NumText_0 n t4 b1_0 b1_1 r h) (by kernel_rfl)
def Dspec_NumText (n : Nat) (a0 : Num) : Option ByteArray :=
  (Dspec_l1Mag n a0).bind fun v0 => frk ((v0.length : Int) == 0) (some (ByteArray.mk #[48])) (loopN (Dspec_NumText_3 n v0 a0.Neg a0.D) n ((ByteArray.mk #[]), w64 ((v0.length : Int) - 1)))
theorem Tspec_NumText (n : Nat) (a0 : Num) (r : ByteArray) (h : Dspec_NumText n a0 = some r) : Big Tryd.prog H YS (.call 43 [.agg [bl a0.Neg, .sl false 1 a0.D.length ((eInt).f a0.D)]] (lk []) (.lit (.string r)) (lk [])) := by
  unfold Dspec_NumText at h
  refine x_call (fn := Tryd.f43) (c := bodyOf Tryd.f43) (bs0 := []) Tryd.func43 (by kernel_rfl) (by kernel_rfl) ?_
  obtain ⟨v0, hv0, h⟩ := bind_some h
  refine x_frk 18 [(3, .call [] [] (.sl false 1 v0.length ((eInt).f v0)) [])] (ocons (Tspec_l1Mag n a0 _ hv0) onil) h (by kernel_rfl) (fun h => ?_) (fun h => ?_)
  · replace h := Option.some.inj h; subst h
    exact x_end 4 [] [] onil onil (by kernel_rfl)
  · exact x_to 14 [] onil (Tspec_NumText_3 n v0 a0.Neg a0.D n ((ByteArray.mk #[]), w64 ((v0.length : Int) - 1)) r h) (by kernel_rfl)
/-! spec.l3Text -/
def Dspec_l3Text (n : Nat) (a0 : Int) : Option ByteArray :=
  (Dspec_Of n a0).bind fun v0 => (Dspec_NumText n v0).bind fun v1 => some v1
theorem Tspec_l3Text (n : Nat) (a0 : Int) (r : ByteArray) (h : Dspec_l3Text n a0 = some r) : Big Tryd.prog H YS (.call 30 [i64 a0] (lk []) (.lit (.string r)) (lk [])) := by
  unfold Dspec_l3Text at h
  refine x_call (fn := Tryd.f30) (c := bodyOf Tryd.f30) (bs0 := []) Tryd.func30 (by kernel_rfl) (by kernel_rfl) ?_
  obtain ⟨v0, hv0, h⟩ := bind_some h
  obtain ⟨v1, hv1, h⟩ := bind_some h
  replace h := Option.some.inj h; subst h
  exact x_end 11 [(2, .call [] [] (.agg [bl v0.Neg, .sl true 1 v0.D.length ((eInt).f v0.D)]) []), (0, .call [] [(eInt).f v0.D] (.lit (.string v1)) [])] [] (ocons (Tspec_Of n a0 _ hv0) (ocons (Tspec_NumText n v0 _ hv1) (ocons (Enc.share eInt eInt sInt v0.D) onil))) onil (by kernel_rfl)
/-! spec.PlaneText -/
def Dspec_PlaneText (n : Nat) (a0 : Pl) : Option ByteArray :=
  (Dspec_PlaneOk n a0).bind fun v0 => frk (!v0) (some (ByteArray.mk #[])) ((Dspec_l3Text n a0.A).bind fun v1 => (scat v1 (ByteArray.mk #[32])).bind fun v2 => (Dspec_l3Text n a0.B).bind fun v3 => (scat v2 v3).bind fun v4 => (scat v4 (ByteArray.mk #[32])).bind fun v5 => (Dspec_l3Text n a0.C).bind fun v6 => (scat v5 v6).bind fun v7 => (scat v7 (ByteArray.mk #[32])).bind fun v8 => (Dspec_l3Text n a0.D).bind fun v9 => (scat v8 v9).bind fun v10 => some v10)
theorem Tspec_PlaneText (n : Nat) (a0 : Pl) (r : ByteArray) (h : Dspec_PlaneText n a0 = some r) : Big Tryd.prog H YS (.call 16 [.agg [i64 a0.A, i64 a0.B, i64 a0.C, i64 a0.D]] (lk []) (.lit (.string r)) (lk [])) := by
  unfold Dspec_PlaneText at h
  refine x_call (fn := Tryd.f16) (c := bodyOf Tryd.f16) (bs0 := []) Tryd.func16 (by kernel_rfl) (by kernel_rfl) ?_
  obtain ⟨v0, hv0, h⟩ := bind_some h
  refine x_frk 12 [(3, .call [] [] (bl v0) [])] (ocons (Tspec_PlaneOk n a0 _ hv0) onil) h (by kernel_rfl) (fun h => ?_) (fun h => ?_)
  · replace h := Option.some.inj h; subst h
    exact x_end 4 [] [] onil onil (by kernel_rfl)
  · obtain ⟨v1, hv1, h⟩ := bind_some h
    obtain ⟨v2, hv2, h⟩ := bind_some h
    obtain ⟨v3, hv3, h⟩ := bind_some h
    obtain ⟨v4, hv4, h⟩ := bind_some h
    obtain ⟨v5, hv5, h⟩ := bind_some h
    obtain ⟨v6, hv6, h⟩ := bind_some h
    obtain ⟨v7, hv7, h⟩ := bind_some h
    obtain ⟨v8, hv8, h⟩ := bind_some h
    obtain ⟨v9, hv9, h⟩ := bind_some h
    obtain ⟨v10, hv10, h⟩ := bind_some h
    replace h := Option.some.inj h; subst h
    exact x_end 23 [(2, .call [] [] (.lit (.string v1)) []), (0, .val (.lit (.string v2))), (2, .call [] [] (.lit (.string v3)) []), (0, .val (.lit (.string v4))), (0, .val (.lit (.string v5))), (2, .call [] [] (.lit (.string v6)) []), (0, .val (.lit (.string v7))), (0, .val (.lit (.string v8))), (2, .call [] [] (.lit (.string v9)) []), (0, .val (.lit (.string v10)))] [] (ocons (Tspec_l3Text n a0.A _ hv1) (ocons (catOk hv2) (ocons (Tspec_l3Text n a0.B _ hv3) (ocons (catOk hv4) (ocons (catOk hv5) (ocons (Tspec_l3Text n a0.C _ hv6) (ocons (catOk hv7) (ocons (catOk hv8) (ocons (Tspec_l3Text n a0.D _ hv9) (ocons (catOk hv10) onil)))))))))) onil (by kernel_rfl)
/-! spec.l19Tree -/
def Dspec_l19Tree_b (n : Nat) (self : Sol → Option ByteArray) (a : Sol) : Option ByteArray :=
  match a with
  | a0 => (Dspec_l8Leaf a0).bind fun v0 => frk v0 (frk a0.inn (some (ByteArray.mk #[35])) (some (ByteArray.mk #[46]))) ((Dspec_PlaneText n a0.pl).bind fun v1 => (scat (ByteArray.mk #[40]) v1).bind fun v2 => (scat v2 (ByteArray.mk #[32])).bind fun v3 => (lget a0.kids 0).bind fun v4 => (self v4).bind fun v5 => (scat v3 v5).bind fun v6 => (scat v6 (ByteArray.mk #[32])).bind fun v7 => (lget a0.kids 1).bind fun v8 => (self v8).bind fun v9 => (scat v7 v9).bind fun v10 => (scat v10 (ByteArray.mk #[41])).bind fun v11 => some v11)
def Dspec_l19Tree (n : Nat) (a0 : Sol) : Option ByteArray := loopN (Dspec_l19Tree_b n) n a0
theorem Tspec_l19Tree_b (n : Nat) : ∀ (m : Nat) (a : Sol) (r : ByteArray), loopN (Dspec_l19Tree_b n) m a = some r → ∀ (_ : Unit), Big Tryd.prog H YS (.call 24 [.agg [bl a.inn, i64 a.pl.A, i64 a.pl.B, i64 a.pl.C, i64 a.pl.D, .sl false 6 a.kids.length ((eSol false).f a.kids)]] (lk []) (.lit (.string r)) (lk [])) := by
  refine loopN_ind (fun self hs a r h => ?_)
  have hself : ∀ (a : Sol) (r : ByteArray), self a = some r → Big Tryd.prog H YS (.call 24 [.agg [bl a.inn, i64 a.pl.A, i64 a.pl.B, i64 a.pl.C, i64 a.pl.D, .sl false 6 a.kids.length ((eSol false).f a.kids)]] (lk []) (.lit (.string r)) (lk [])) := fun a r h => hs a r h ()
  intro _
  obtain ⟨a0, rfl⟩ : ∃ x, x = a := ⟨a, rfl⟩
  unfold Dspec_l19Tree_b at h
  refine x_call (fn := Tryd.f24) (c := bodyOf Tryd.f24) (bs0 := []) Tryd.func24 (by kernel_rfl) (by kernel_rfl) ?_
  obtain ⟨v0, hv0, h⟩ := bind_some h
  refine x_frk 11 [(3, .call [] [] (bl v0) [])] (ocons (Tspec_l8Leaf a0 _ hv0) onil) h (by kernel_rfl) (fun h => ?_) (fun h => ?_)
  · refine x_frk 6 [] onil h (by kernel_rfl) (fun h => ?_) (fun h => ?_)
    · replace h := Option.some.inj h; subst h
      exact x_end 4 [] [] onil onil (by kernel_rfl)
    · replace h := Option.some.inj h; subst h
      exact x_end 5 [] [] onil onil (by kernel_rfl)
  · obtain ⟨v1, hv1, h⟩ := bind_some h
    obtain ⟨v2, hv2, h⟩ := bind_some h
    obtain ⟨v3, hv3, h⟩ := bind_some h
    obtain ⟨v4, hv4, h⟩ := bind_some h
    obtain ⟨v5, hv5, h⟩ := bind_some h
    obtain ⟨v6, hv6, h⟩ := bind_some h
    obtain ⟨v7, hv7, h⟩ := bind_some h
    obtain ⟨v8, hv8, h⟩ := bind_some h
    obtain ⟨v9, hv9, h⟩ := bind_some h
    obtain ⟨v10, hv10, h⟩ := bind_some h
    obtain ⟨v11, hv11, h⟩ := bind_some h
    replace h := Option.some.inj h; subst h
    exact x_end 24 [(2, .call [] [] (.lit (.string v1)) []), (0, .val (.lit (.string v2))), (0, .val (.lit (.string v3))), (2, .val (.cptr ((eSol false).c v4 ++ (eSol false).f ((a0.kids).drop (Int.toNat 0 + 1))))), (1, .call [] [] (.lit (.string v5)) []), (0, .val (.lit (.string v6))), (0, .val (.lit (.string v7))), (2, .val (.cptr ((eSol false).c v8 ++ (eSol false).f ((a0.kids).drop (Int.toNat 1 + 1))))), (1, .call [] [] (.lit (.string v9)) []), (0, .val (.lit (.string v10))), (0, .val (.lit (.string v11)))] [] (ocons (Tspec_PlaneText n a0.pl _ hv1) (ocons (catOk hv2) (ocons (catOk hv3) (ocons (ix (eSol false) hv4) (ocons (hself v4 _ hv5) (ocons (catOk hv6) (ocons (catOk hv7) (ocons (ix (eSol false) hv8) (ocons (hself v8 _ hv9) (ocons (catOk hv10) (ocons (catOk hv11) onil))))))))))) onil (by kernel_rfl)
theorem Tspec_l19Tree (n : Nat) (a0 : Sol) (r : ByteArray) (h : Dspec_l19Tree n a0 = some r) : Big Tryd.prog H YS (.call 24 [.agg [bl a0.inn, i64 a0.pl.A, i64 a0.pl.B, i64 a0.pl.C, i64 a0.pl.D, .sl false 6 a0.kids.length ((eSol false).f a0.kids)]] (lk []) (.lit (.string r)) (lk [])) := Tspec_l19Tree_b n n a0 r h ()
/-! spec.SolidText -/
def Dspec_SolidText (n : Nat) (a0 : Sol) : Option ByteArray :=
  (Dspec_SolidOk n a0).bind fun v0 => frk (!v0) (some (ByteArray.mk #[])) ((Dspec_l19Tree n a0).bind fun v1 => some v1)
theorem Tspec_SolidText (n : Nat) (a0 : Sol) (r : ByteArray) (h : Dspec_SolidText n a0 = some r) : Big Tryd.prog H YS (.call 11 [.agg [bl a0.inn, i64 a0.pl.A, i64 a0.pl.B, i64 a0.pl.C, i64 a0.pl.D, .sl false 6 a0.kids.length ((eSol false).f a0.kids)]] (lk []) (.lit (.string r)) (lk [])) := by
  unfold Dspec_SolidText at h
  refine x_call (fn := Tryd.f11) (c := bodyOf Tryd.f11) (bs0 := []) Tryd.func11 (by kernel_rfl) (by kernel_rfl) ?_
  obtain ⟨v0, hv0, h⟩ := bind_some h
  refine x_frk 12 [(3, .call [] [] (bl v0) [])] (ocons (Tspec_SolidOk n a0 _ hv0) onil) h (by kernel_rfl) (fun h => ?_) (fun h => ?_)
  · replace h := Option.some.inj h; subst h
    exact x_end 4 [] [] onil onil (by kernel_rfl)
  · obtain ⟨v1, hv1, h⟩ := bind_some h
    replace h := Option.some.inj h; subst h
    exact x_end 7 [(1, .call [] [] (.lit (.string v1)) [])] [] (ocons (Tspec_l19Tree n a0 _ hv1) onil) onil (by kernel_rfl)
/-! impl.Solid).isLeaf -/
def Dimpl_Solid_isLeaf (a0 : Sol) : Option Bool :=
  some ((a0.kids.length : Int) == 0)
theorem Timpl_Solid_isLeaf (a0 : Sol) (q0 : List AV) (r : Bool) (h : Dimpl_Solid_isLeaf a0 = some r) : Big Tryd.prog H YS (.call 40 [.cptr ([bl a0.inn, i64 a0.pl.A, i64 a0.pl.B, i64 a0.pl.C, i64 a0.pl.D, .sl false 6 a0.kids.length ((eSol false).f a0.kids)] ++ q0)] (lk []) (bl r) (lk [])) := by
  unfold Dimpl_Solid_isLeaf at h
  refine x_call (fn := Tryd.f40) (c := bodyOf Tryd.f40) (bs0 := []) Tryd.func40 (by kernel_rfl) (by kernel_rfl) ?_
  replace h := Option.some.inj h; subst h
  exact x_end 14 [] [] onil onil (by kernel_rfl)
/-! impl.inRange -/
def Dimpl_inRange (a0 a1 a2 : Int) : Option Bool :=
  frk (decide (a0 ≥ a1)) (some (decide (a0 ≤ a2))) (some false)
theorem Timpl_inRange (a0 a1 a2 : Int) (r : Bool) (h : Dimpl_inRange a0 a1 a2 = some r) : Big Tryd.prog H YS (.call 61 [i64 a0, i64 a1, i64 a2] (lk []) (bl r) (lk [])) := by
  unfold Dimpl_inRange at h
  refine x_call (fn := Tryd.f61) (c := bodyOf Tryd.f61) (bs0 := []) Tryd.func61 (by kernel_rfl) (by kernel_rfl) ?_
  refine x_frk 10 [] onil h (by kernel_rfl) (fun h => ?_) (fun h => ?_)
  · replace h := Option.some.inj h; subst h
    exact x_end 6 [] [] onil onil (by kernel_rfl)
  · replace h := Option.some.inj h; subst h
    exact x_end 6 [] [] onil onil (by kernel_rfl)
/-! impl.isCoef -/
def Dimpl_isCoef (a0 : Int) : Option Bool :=
  (Dimpl_inRange a0 (-500) 500).bind fun v0 => some v0
theorem Timpl_isCoef (a0 : Int) (r : Bool) (h : Dimpl_isCoef a0 = some r) : Big Tryd.prog H YS (.call 45 [i64 a0] (lk []) (bl r) (lk [])) := by
  unfold Dimpl_isCoef at h
  refine x_call (fn := Tryd.f45) (c := bodyOf Tryd.f45) (bs0 := []) Tryd.func45 (by kernel_rfl) (by kernel_rfl) ?_
  obtain ⟨v0, hv0, h⟩ := bind_some h
  replace h := Option.some.inj h; subst h
  exact x_end 10 [(2, .call [] [] (bl v0) [])] [] (ocons (Timpl_inRange a0 (-500) 500 _ hv0) onil) onil (by kernel_rfl)
/-! impl.divisor -/
def Dimpl_divisor_0 (_n : Nat) (rec0 : (Int × Int) → Option Int) (_t6 : List Int) (_t7 t8 : Int) (rec1 : (Int × Int) → Option Int) (a : (Int × Int)) : Option Int :=
  match a with
  | (t3, t5) => frk (t5 != 0) ((rm .i64 t3 t5).bind fun v1 => rec1 (t5, v1)) (rec0 (t3, w64 (t8 + 1)))
theorem Timpl_divisor_0 (n : Nat) (rec0 : (Int × Int) → Option Int) (t6 : List Int) (t7 : Int) (hrec0 : ∀ (a : (Int × Int)) (r : Int), rec0 a = some r → Wk Tryd.prog H YS 46 [.code (cp [1, 1, 0, 1, 0] (bodyOf Tryd.f46)), .blk 0, .code (cp [1, 1, 1] (bodyOf Tryd.f46))] (FinX Tryd.prog Tryd.f46 [] (i64 r) []) ⟨[(3, i64 a.1), (6, .sl false 1 t6.length ((eInt).f t6)), (7, i64 t7), (8, i64 a.2)], []⟩) (t8 : Int) : ∀ (m : Nat) (a : (Int × Int)) (r : Int), loopN (Dimpl_divisor_0 n rec0 t6 t7 t8) m a = some r → Wk Tryd.prog H YS 46 [.code (cp [1, 1, 0, 1, 0, 0, 1, 1, 0, 0, 1, 1, 0] (bodyOf Tryd.f46)), .blk 2, .blk 1, .code (cp [1, 1, 0, 1, 0, 0, 1, 1, 1] (bodyOf Tryd.f46)), .lp (cp [1, 1, 0, 1, 0] (bodyOf Tryd.f46)), .blk 0, .code (cp [1, 1, 1] (bodyOf Tryd.f46))] (FinX Tryd.prog Tryd.f46 [] (i64 r) []) ⟨[(3, i64 a.1), (5, i64 a.2), (6, .sl false 1 t6.length ((eInt).f t6)), (7, i64 t7), (8, i64 t8)], []⟩ := by
  refine loopN_ind (fun _rec1 hrec1 a r h => ?_)
  obtain ⟨t3, t5⟩ := a
  unfold Dimpl_divisor_0 at h
  refine x_frk 7 [] onil h (by kernel_rfl) (fun h => ?_) (fun h => ?_)
  · obtain ⟨v1, hv1, h⟩ := bind_some h
    exact x_to 12 [(3, .val (i64 v1))] (ocons (rmOk hv1) onil) (hrec1 (t5, v1) r h) (by kernel_rfl)
  · exact x_to 7 [] onil (hrec0 (t3, w64 (t8 + 1)) r h) (by kernel_rfl)
def Dimpl_divisor_1 (n : Nat) (t6 : List Int) (t7 : Int) (rec0 : (Int × Int) → Option Int) (a : (Int × Int)) : Option Int :=
  match a with
  | (t3, t8) => frk (decide (t8 < t7)) ((lget t6 t8).bind fun v0 => loopN (Dimpl_divisor_0 n rec0 t6 t7 t8) n (t3, maxN v0 [w64 (0 - v0)])) (some t3)
theorem Timpl_divisor_1 (n : Nat) (t6 : List Int) (t7 : Int) : ∀ (m : Nat) (a : (Int × Int)) (r : Int), loopN (Dimpl_divisor_1 n t6 t7) m a = some r → Wk Tryd.prog H YS 46 [.code (cp [1, 1, 0, 1, 0] (bodyOf Tryd.f46)), .blk 0, .code (cp [1, 1, 1] (bodyOf Tryd.f46))] (FinX Tryd.prog Tryd.f46 [] (i64 r) []) ⟨[(3, i64 a.1), (6, .sl false 1 t6.length ((eInt).f t6)), (7, i64 t7), (8, i64 a.2)], []⟩ := by
  refine loopN_ind (fun rec0 hrec0 a r h => ?_)
  obtain ⟨t3, t8⟩ := a
  unfold Dimpl_divisor_1 at h
  refine x_frk 6 [] onil h (by kernel_rfl) (fun h => ?_) (fun h => ?_)
  · obtain ⟨v0, hv0, h⟩ := bind_some h
    exact x_to 18 [(0, .val (.cptr (eInt.c v0 ++ (eInt).f ((t6).drop (Int.toNat t8 + 1))))), (5, .val (.lit (.int .i64 (maxN v0 [w64 (0 - v0)]))))] (ocons (ix eInt hv0) (ocons (maxNok .i64 [w64 (0 - v0)] v0) onil)) (Timpl_divisor_0 n rec0 t6 t7 hrec0 t8 n (t3, maxN v0 [w64 (0 - v0)]) r h) (by kernel_rfl)
  · replace h := Option.some.inj h; subst h
    exact x_end 6 [] [] onil onil (by kernel_rfl)
def Dimpl_divisor (n : Nat) (a0 : (List Int)) : Option Int :=
  loopN (Dimpl_divisor_1 n a0 (a0.length : Int)) n (0, 0)
theorem Timpl_divisor (n : Nat) (a0 : (List Int)) (r : Int) (h : Dimpl_divisor n a0 = some r) : Big Tryd.prog H YS (.call 46 [.sl false 1 a0.length ((eInt).f a0)] (lk []) (i64 r) (lk [])) := by
  unfold Dimpl_divisor at h
  refine x_call (fn := Tryd.f46) (c := bodyOf Tryd.f46) (bs0 := []) Tryd.func46 (by kernel_rfl) (by kernel_rfl) ?_
  exact x_to 16 [] onil (Timpl_divisor_1 n a0 (a0.length : Int) n (0, 0) r h) (by kernel_rfl)
/-! impl.PlaneOk -/
def Dimpl_PlaneOk_0 (n : Nat) (t24 : Bool) (b1_0 b1_1 b1_2 b1_3 : Int) : Option Bool :=
  frk t24 (some false) (frk (b1_0 != 0) ((Dimpl_divisor n [b1_0, b1_1, b1_2, b1_3]).bind fun v4 => some (v4 == 1)) (frk (b1_1 != 0) ((Dimpl_divisor n [b1_0, b1_1, b1_2, b1_3]).bind fun v5 => some (v5 == 1)) (frk (b1_2 != 0) ((Dimpl_divisor n [b1_0, b1_1, b1_2, b1_3]).bind fun v6 => some (v6 == 1)) (some false))))
theorem Timpl_PlaneOk_0 (n : Nat) (t24 : Bool) (b1_0 b1_1 b1_2 b1_3 : Int) (r : Bool) (h : Dimpl_PlaneOk_0 n t24 b1_0 b1_1 b1_2 b1_3 = some r) : Wk Tryd.prog H YS 31 [.code (cp [1, 0, 1] (bodyOf Tryd.f31)), .code (cp [1, 1] (bodyOf Tryd.f31))] (FinX Tryd.prog Tryd.f31 [] (bl r) []) ⟨[(1, .ptr 1 0), (24, bl t24)], [(1, ⟨true, 0, [i64 b1_0, i64 b1_1, i64 b1_2, i64 b1_3]⟩)]⟩ := by
  unfold Dimpl_PlaneOk_0 at h
  refine x_frk 0 [] onil h (by kernel_rfl) (fun h => ?_) (fun h => ?_)
  · replace h := Option.some.inj h; subst h
    exact x_end 4 [] [] onil onil (by kernel_rfl)
  · refine x_frk 7 [] onil h (by kernel_rfl) (fun h => ?_) (fun h => ?_)
    · obtain ⟨v4, hv4, h⟩ := bind_some h
      replace h := Option.some.inj h; subst h
      exact x_end 24 [(19, .call [] [(eInt).f [b1_0, b1_1, b1_2, b1_3]] (i64 v4) [])] [] (ocons (Timpl_divisor n [b1_0, b1_1, b1_2, b1_3] _ hv4) (ocons (len_row (L := [b1_0, b1_1, b1_2, b1_3]) eInt) (ocons (Enc.share eInt eInt sInt [b1_0, b1_1, b1_2, b1_3]) onil))) onil (by kernel_rfl)
    · refine x_frk 5 [] onil h (by kernel_rfl) (fun h => ?_) (fun h => ?_)
      · obtain ⟨v5, hv5, h⟩ := bind_some h
        replace h := Option.some.inj h; subst h
        exact x_end 19 [(14, .call [] [(eInt).f [b1_0, b1_1, b1_2, b1_3]] (i64 v5) [])] [] (ocons (Timpl_divisor n [b1_0, b1_1, b1_2, b1_3] _ hv5) (ocons (len_row (L := [b1_0, b1_1, b1_2, b1_3]) eInt) (ocons (Enc.share eInt eInt sInt [b1_0, b1_1, b1_2, b1_3]) onil))) onil (by kernel_rfl)
      · refine x_frk 5 [] onil h (by kernel_rfl) (fun h => ?_) (fun h => ?_)
        · obtain ⟨v6, hv6, h⟩ := bind_some h
          replace h := Option.some.inj h; subst h
          exact x_end 14 [(9, .call [] [(eInt).f [b1_0, b1_1, b1_2, b1_3]] (i64 v6) [])] [] (ocons (Timpl_divisor n [b1_0, b1_1, b1_2, b1_3] _ hv6) (ocons (len_row (L := [b1_0, b1_1, b1_2, b1_3]) eInt) (ocons (Enc.share eInt eInt sInt [b1_0, b1_1, b1_2, b1_3]) onil))) onil (by kernel_rfl)
        · replace h := Option.some.inj h; subst h
          exact x_end 14 [] [] onil onil (by kernel_rfl)
def Dimpl_PlaneOk (n : Nat) (a0 : Pl) : Option Bool :=
  (Dimpl_isCoef a0.A).bind fun v0 => frk (!v0) (some false) ((Dimpl_isCoef a0.B).bind fun v1 => frk (!v1) (some false) ((Dimpl_isCoef a0.C).bind fun v2 => frk (!v2) (some false) ((Dimpl_isCoef a0.D).bind fun v3 => Dimpl_PlaneOk_0 n (!v3) a0.A a0.B a0.C a0.D)))
theorem Timpl_PlaneOk (n : Nat) (a0 : Pl) (r : Bool) (h : Dimpl_PlaneOk n a0 = some r) : Big Tryd.prog H YS (.call 31 [.agg [i64 a0.A, i64 a0.B, i64 a0.C, i64 a0.D]] (lk []) (bl r) (lk [])) := by
  unfold Dimpl_PlaneOk at h
  refine x_call (fn := Tryd.f31) (c := bodyOf Tryd.f31) (bs0 := []) Tryd.func31 (by kernel_rfl) (by kernel_rfl) ?_
  obtain ⟨v0, hv0, h⟩ := bind_some h
  refine x_frk 13 [(4, .call [] [] (bl v0) [])] (ocons (Timpl_isCoef a0.A _ hv0) onil) h (by kernel_rfl) (fun h => ?_) (fun h => ?_)
  · replace h := Option.some.inj h; subst h
    exact x_end 23 [] [] onil onil (by kernel_rfl)
  · obtain ⟨v1, hv1, h⟩ := bind_some h
    refine x_frk 6 [(2, .call [] [] (bl v1) [])] (ocons (Timpl_isCoef a0.B _ hv1) onil) h (by kernel_rfl) (fun h => ?_) (fun h => ?_)
    · replace h := Option.some.inj h; subst h
      exact x_end 17 [] [] onil onil (by kernel_rfl)
    · obtain ⟨v2, hv2, h⟩ := bind_some h
      refine x_frk 6 [(2, .call [] [] (bl v2) [])] (ocons (Timpl_isCoef a0.C _ hv2) onil) h (by kernel_rfl) (fun h => ?_) (fun h => ?_)
      · replace h := Option.some.inj h; subst h
        exact x_end 11 [] [] onil onil (by kernel_rfl)
      · obtain ⟨v3, hv3, h⟩ := bind_some h
        exact x_to 6 [(2, .call [] [] (bl v3) [])] (ocons (Timpl_isCoef a0.D _ hv3) onil) (Timpl_PlaneOk_0 n (!v3) a0.A a0.B a0.C a0.D r h) (by kernel_rfl)
/-! impl.flip -/
def Dimpl_flip (a0 : Pl) : Option Pl :=
  some (Pl.mk (w64 (0 - a0.A)) (w64 (0 - a0.B)) (w64 (0 - a0.C)) (w64 (0 - a0.D)))
theorem Timpl_flip (a0 : Pl) (r : Pl) (h : Dimpl_flip a0 = some r) : Big Tryd.prog H YS (.call 53 [.agg [i64 a0.A, i64 a0.B, i64 a0.C, i64 a0.D]] (lk []) (.agg [i64 r.A, i64 r.B, i64 r.C, i64 r.D]) (lk [])) := by
  unfold Dimpl_flip at h
  refine x_call (fn := Tryd.f53) (c := bodyOf Tryd.f53) (bs0 := []) Tryd.func53 (by kernel_rfl) (by kernel_rfl) ?_
  replace h := Option.some.inj h; subst h
  exact x_end 22 [] [] onil onil (by kernel_rfl)
/-! impl.normal -/
def Dimpl_normal (a0 : Pl) : Option (Int × Int × Int) :=
  some (a0.A, a0.B, a0.C)
theorem Timpl_normal (a0 : Pl) (r : (Int × Int × Int)) (h : Dimpl_normal a0 = some r) : Big Tryd.prog H YS (.call 81 [.agg [i64 a0.A, i64 a0.B, i64 a0.C, i64 a0.D]] (lk []) (.agg [i64 r.1, i64 r.2.1, i64 r.2.2]) (lk [])) := by
  unfold Dimpl_normal at h
  refine x_call (fn := Tryd.f81) (c := bodyOf Tryd.f81) (bs0 := []) Tryd.func81 (by kernel_rfl) (by kernel_rfl) ?_
  replace h := Option.some.inj h; subst h
  exact x_end 16 [] [] onil onil (by kernel_rfl)
/-! impl.crossOf -/
def Dimpl_crossOf (a0 : (Int × Int × Int)) (a1 : (Int × Int × Int)) : Option (Int × Int × Int) :=
  some (w64 ((w64 (a0.2.1 * a1.2.2)) - (w64 (a0.2.2 * a1.2.1))), w64 ((w64 (a0.2.2 * a1.1)) - (w64 (a0.1 * a1.2.2))), w64 ((w64 (a0.1 * a1.2.1)) - (w64 (a0.2.1 * a1.1))))
theorem Timpl_crossOf (a0 : (Int × Int × Int)) (a1 : (Int × Int × Int)) (r : (Int × Int × Int)) (h : Dimpl_crossOf a0 a1 = some r) : Big Tryd.prog H YS (.call 83 [.agg [i64 a0.1, i64 a0.2.1, i64 a0.2.2], .agg [i64 a1.1, i64 a1.2.1, i64 a1.2.2]] (lk []) (.agg [i64 r.1, i64 r.2.1, i64 r.2.2]) (lk [])) := by
  unfold Dimpl_crossOf at h
  refine x_call (fn := Tryd.f83) (c := bodyOf Tryd.f83) (bs0 := []) Tryd.func83 (by kernel_rfl) (by kernel_rfl) ?_
  replace h := Option.some.inj h; subst h
  exact x_end 44 [] [] onil onil (by kernel_rfl)
/-! impl.dot -/
def Dimpl_dot (a0 : (Int × Int × Int)) (a1 : (Int × Int × Int)) : Option Int :=
  some (w64 ((w64 ((w64 (a0.1 * a1.1)) + (w64 (a0.2.1 * a1.2.1)))) + (w64 (a0.2.2 * a1.2.2))))
theorem Timpl_dot (a0 : (Int × Int × Int)) (a1 : (Int × Int × Int)) (r : Int) (h : Dimpl_dot a0 a1 = some r) : Big Tryd.prog H YS (.call 85 [.agg [i64 a0.1, i64 a0.2.1, i64 a0.2.2], .agg [i64 a1.1, i64 a1.2.1, i64 a1.2.2]] (lk []) (i64 r) (lk [])) := by
  unfold Dimpl_dot at h
  refine x_call (fn := Tryd.f85) (c := bodyOf Tryd.f85) (bs0 := []) Tryd.func85 (by kernel_rfl) (by kernel_rfl) ?_
  replace h := Option.some.inj h; subst h
  exact x_end 27 [] [] onil onil (by kernel_rfl)
/-! cmp.isNaN[int] -/
def Dcmp_isNaN (a0 : Int) : Option Bool :=
  some (a0 != a0)
theorem Tcmp_isNaN (a0 : Int) (r : Bool) (h : Dcmp_isNaN a0 = some r) : Big Tryd.prog H YS (.call 97 [i64 a0] (lk []) (bl r) (lk [])) := by
  unfold Dcmp_isNaN at h
  refine x_call (fn := Tryd.f97) (c := bodyOf Tryd.f97) (bs0 := []) Tryd.func97 (by kernel_rfl) (by kernel_rfl) ?_
  replace h := Option.some.inj h; subst h
  exact x_end 11 [] [] onil onil (by kernel_rfl)
/-! cmp.Compare[int] -/
def Dcmp_Compare (a0 a1 : Int) : Option Int :=
  (Dcmp_isNaN a0).bind fun v0 => (Dcmp_isNaN a1).bind fun v1 => frk v0 (frk v1 (some 0) (some (-1))) (frk v1 (some 1) (frk (decide (a0 < a1)) (some (-1)) (frk (decide (a0 > a1)) (some 1) (some 0))))
theorem Tcmp_Compare (a0 a1 r : Int) (h : Dcmp_Compare a0 a1 = some r) : Big Tryd.prog H YS (.call 96 [i64 a0, i64 a1] (lk []) (i64 r) (lk [])) := by
  unfold Dcmp_Compare at h
  refine x_call (fn := Tryd.f96) (c := bodyOf Tryd.f96) (bs0 := []) Tryd.func96 (by kernel_rfl) (by kernel_rfl) ?_
  obtain ⟨v0, hv0, h⟩ := bind_some h
  obtain ⟨v1, hv1, h⟩ := bind_some h
  refine x_frk 21 [(2, .call [] [] (bl v0) []), (2, .call [] [] (bl v1) [])] (ocons (Tcmp_isNaN a0 _ hv0) (ocons (Tcmp_isNaN a1 _ hv1) onil)) h (by kernel_rfl) (fun h => ?_) (fun h => ?_)
  · refine x_frk 5 [] onil h (by kernel_rfl) (fun h => ?_) (fun h => ?_)
    · replace h := Option.some.inj h; subst h
      exact x_end 4 [] [] onil onil (by kernel_rfl)
    · replace h := Option.some.inj h; subst h
      exact x_end 5 [] [] onil onil (by kernel_rfl)
  · refine x_frk 6 [] onil h (by kernel_rfl) (fun h => ?_) (fun h => ?_)
    · replace h := Option.some.inj h; subst h
      exact x_end 4 [] [] onil onil (by kernel_rfl)
    · refine x_frk 8 [] onil h (by kernel_rfl) (fun h => ?_) (fun h => ?_)
      · replace h := Option.some.inj h; subst h
        exact x_end 4 [] [] onil onil (by kernel_rfl)
      · refine x_frk 8 [] onil h (by kernel_rfl) (fun h => ?_) (fun h => ?_)
        · replace h := Option.some.inj h; subst h
          exact x_end 4 [] [] onil onil (by kernel_rfl)
        · replace h := Option.some.inj h; subst h
          exact x_end 5 [] [] onil onil (by kernel_rfl)
/-! impl.sign -/
def Dimpl_sign (a0 : Int) : Option Int :=
  (Dcmp_Compare a0 0).bind fun v0 => some v0
theorem Timpl_sign (a0 r : Int) (h : Dimpl_sign a0 = some r) : Big Tryd.prog H YS (.call 93 [i64 a0] (lk []) (i64 r) (lk [])) := by
  unfold Dimpl_sign at h
  refine x_call (fn := Tryd.f93) (c := bodyOf Tryd.f93) (bs0 := []) Tryd.func93 (by kernel_rfl) (by kernel_rfl) ?_
  obtain ⟨v0, hv0, h⟩ := bind_some h
  replace h := Option.some.inj h; subst h
  exact x_end 10 [(2, .call [] [] (i64 v0) [])] [] (ocons (Tcmp_Compare a0 0 _ hv0) onil) onil (by kernel_rfl)
/-! impl.parallel -/
def Dimpl_parallel (a0 : Pl) (a1 : Pl) : Option Int :=
  (Dimpl_normal a0).bind fun v0 => (Dimpl_normal a1).bind fun v1 => (Dimpl_crossOf v0 v1).bind fun v2 => frk (!(v2.1 == 0 && (v2.2.1 == 0 && (v2.2.2 == 0 && true)))) (some 0) ((Dimpl_normal a0).bind fun v3 => (Dimpl_normal a1).bind fun v4 => (Dimpl_dot v3 v4).bind fun v5 => (Dimpl_sign v5).bind fun v6 => some v6)
theorem Timpl_parallel (a0 : Pl) (a1 : Pl) (r : Int) (h : Dimpl_parallel a0 a1 = some r) : Big Tryd.prog H YS (.call 80 [.agg [i64 a0.A, i64 a0.B, i64 a0.C, i64 a0.D], .agg [i64 a1.A, i64 a1.B, i64 a1.C, i64 a1.D]] (lk []) (i64 r) (lk [])) := by
  unfold Dimpl_parallel at h
  refine x_call (fn := Tryd.f80) (c := bodyOf Tryd.f80) (bs0 := []) Tryd.func80 (by kernel_rfl) (by kernel_rfl) ?_
  obtain ⟨v0, hv0, h⟩ := bind_some h
  obtain ⟨v1, hv1, h⟩ := bind_some h
  obtain ⟨v2, hv2, h⟩ := bind_some h
  refine x_frk 17 [(4, .call [] [] (.agg [i64 v0.1, i64 v0.2.1, i64 v0.2.2]) []), (1, .call [] [] (.agg [i64 v1.1, i64 v1.2.1, i64 v1.2.2]) []), (0, .call [] [] (.agg [i64 v2.1, i64 v2.2.1, i64 v2.2.2]) [])] (ocons (Timpl_normal a0 _ hv0) (ocons (Timpl_normal a1 _ hv1) (ocons (Timpl_crossOf v0 v1 _ hv2) onil))) h (by kernel_rfl) (fun h => ?_) (fun h => ?_)
  · replace h := Option.some.inj h; subst h
    exact x_end 4 [] [] onil onil (by kernel_rfl)
  · obtain ⟨v3, hv3, h⟩ := bind_some h
    obtain ⟨v4, hv4, h⟩ := bind_some h
    obtain ⟨v5, hv5, h⟩ := bind_some h
    obtain ⟨v6, hv6, h⟩ := bind_some h
    replace h := Option.some.inj h; subst h
    exact x_end 11 [(1, .call [] [] (.agg [i64 v3.1, i64 v3.2.1, i64 v3.2.2]) []), (1, .call [] [] (.agg [i64 v4.1, i64 v4.2.1, i64 v4.2.2]) []), (0, .call [] [] (i64 v5) []), (0, .call [] [] (i64 v6) [])] [] (ocons (Timpl_normal a0 _ hv3) (ocons (Timpl_normal a1 _ hv4) (ocons (Timpl_dot v3 v4 _ hv5) (ocons (Timpl_sign v5 _ hv6) onil)))) onil (by kernel_rfl)
/-! impl.clash2 -/
def Dimpl_clash2 (_n : Nat) (a0 : Pl) (a1 : Pl) : Option Bool :=
  (Dimpl_parallel a0 a1).bind fun v0 => frk (decide (v0 ≥ 0)) (some false) ((Dimpl_normal a0).bind fun v1 => (Dimpl_normal a1).bind fun v2 => frk (v1.1 != 0) (some (decide ((w64 ((w64 (a0.D * (maxN v2.1 [w64 (0 - v2.1)]))) + (w64 (a1.D * (maxN v1.1 [w64 (0 - v1.1)]))))) ≤ 0))) (frk (v1.2.1 != 0) (some (decide ((w64 ((w64 (a0.D * (maxN v2.2.1 [w64 (0 - v2.2.1)]))) + (w64 (a1.D * (maxN v1.2.1 [w64 (0 - v1.2.1)]))))) ≤ 0))) (frk (v1.2.2 != 0) (some (decide ((w64 ((w64 (a0.D * (maxN v2.2.2 [w64 (0 - v2.2.2)]))) + (w64 (a1.D * (maxN v1.2.2 [w64 (0 - v1.2.2)]))))) ≤ 0))) (some false))))
theorem Timpl_clash2 (n : Nat) (a0 : Pl) (a1 : Pl) (r : Bool) (h : Dimpl_clash2 n a0 a1 = some r) : Big Tryd.prog H YS (.call 68 [.agg [i64 a0.A, i64 a0.B, i64 a0.C, i64 a0.D], .agg [i64 a1.A, i64 a1.B, i64 a1.C, i64 a1.D]] (lk []) (bl r) (lk [])) := by
  unfold Dimpl_clash2 at h
  refine x_call (fn := Tryd.f68) (c := bodyOf Tryd.f68) (bs0 := []) Tryd.func68 (by kernel_rfl) (by kernel_rfl) ?_
  obtain ⟨v0, hv0, h⟩ := bind_some h
  refine x_frk 14 [(5, .call [] [] (i64 v0) [])] (ocons (Timpl_parallel a0 a1 _ hv0) onil) h (by kernel_rfl) (fun h => ?_) (fun h => ?_)
  · replace h := Option.some.inj h; subst h
    exact x_end 4 [] [] onil onil (by kernel_rfl)
  · obtain ⟨v1, hv1, h⟩ := bind_some h
    obtain ⟨v2, hv2, h⟩ := bind_some h
    refine x_frk 40 [(1, .call [] [] (.agg [i64 v1.1, i64 v1.2.1, i64 v1.2.2]) []), (1, .call [] [] (.agg [i64 v2.1, i64 v2.2.1, i64 v2.2.2]) [])] (ocons (Timpl_normal a0 _ hv1) (ocons (Timpl_normal a1 _ hv2) onil)) h (by kernel_rfl) (fun h => ?_) (fun h => ?_)
    · replace h := Option.some.inj h; subst h
      exact x_end 28 [(9, .val (.lit (.int .i64 (maxN v2.1 [w64 (0 - v2.1)])))), (10, .val (.lit (.int .i64 (maxN v1.1 [w64 (0 - v1.1)]))))] [] (ocons (maxNok .i64 [w64 (0 - v2.1)] v2.1) (ocons (maxNok .i64 [w64 (0 - v1.1)] v1.1) onil)) onil (by kernel_rfl)
    · refine x_frk 29 [] onil h (by kernel_rfl) (fun h => ?_) (fun h => ?_)
      · replace h := Option.some.inj h; subst h
        exact x_end 28 [(9, .val (.lit (.int .i64 (maxN v2.2.1 [w64 (0 - v2.2.1)])))), (10, .val (.lit (.int .i64 (maxN v1.2.1 [w64 (0 - v1.2.1)]))))] [] (ocons (maxNok .i64 [w64 (0 - v2.2.1)] v2.2.1) (ocons (maxNok .i64 [w64 (0 - v1.2.1)] v1.2.1) onil)) onil (by kernel_rfl)
      · refine x_frk 29 [] onil h (by kernel_rfl) (fun h => ?_) (fun h => ?_)
        · replace h := Option.some.inj h; subst h
          exact x_end 28 [(9, .val (.lit (.int .i64 (maxN v2.2.2 [w64 (0 - v2.2.2)])))), (10, .val (.lit (.int .i64 (maxN v1.2.2 [w64 (0 - v1.2.2)]))))] [] (ocons (maxNok .i64 [w64 (0 - v2.2.2)] v2.2.2) (ocons (maxNok .i64 [w64 (0 - v1.2.2)] v1.2.2) onil)) onil (by kernel_rfl)
        · replace h := Option.some.inj h; subst h
          exact x_end 19 [] [] onil onil (by kernel_rfl)
/-! impl.det -/
def Dimpl_det (a0 : (Int × Int × Int)) (a1 : (Int × Int × Int)) (a2 : (Int × Int × Int)) : Option Int :=
  (Dimpl_crossOf a1 a2).bind fun v0 => (Dimpl_dot a0 v0).bind fun v1 => some v1
theorem Timpl_det (a0 : (Int × Int × Int)) (a1 : (Int × Int × Int)) (a2 : (Int × Int × Int)) (r : Int) (h : Dimpl_det a0 a1 a2 = some r) : Big Tryd.prog H YS (.call 82 [.agg [i64 a0.1, i64 a0.2.1, i64 a0.2.2], .agg [i64 a1.1, i64 a1.2.1, i64 a1.2.2], .agg [i64 a2.1, i64 a2.2.1, i64 a2.2.2]] (lk []) (i64 r) (lk [])) := by
  unfold Dimpl_det at h
  refine x_call (fn := Tryd.f82) (c := bodyOf Tryd.f82) (bs0 := []) Tryd.func82 (by kernel_rfl) (by kernel_rfl) ?_
  obtain ⟨v0, hv0, h⟩ := bind_some h
  obtain ⟨v1, hv1, h⟩ := bind_some h
  replace h := Option.some.inj h; subst h
  exact x_end 16 [(7, .call [] [] (.agg [i64 v0.1, i64 v0.2.1, i64 v0.2.2]) []), (0, .call [] [] (i64 v1) [])] [] (ocons (Timpl_crossOf a1 a2 _ hv0) (ocons (Timpl_dot a0 v0 _ hv1) onil)) onil (by kernel_rfl)
/-! impl.weighs -/
def Dimpl_weighs_0 (_n : Nat) (rec0 : (Int × Int) → Option Bool) (t1 : List Int) (_t5 : Int) (_t13 : List Int) (_t14 t6 t7 t8 t15 : Int) (t27 : Bool) : Option Bool :=
  frk t27 (some false) ((lget t1 t7).bind fun v4 => rec0 (w64 (t6 + (w64 (t8 * v4))), w64 (t15 + 1)))
theorem Timpl_weighs_0 (n : Nat) (rec0 : (Int × Int) → Option Bool) (t1 : List Int) (t5 : Int) (t13 : List Int) (t14 : Int) (hrec0 : ∀ (a : (Int × Int)) (r : Bool), rec0 a = some r → Wk Tryd.prog H YS 84 [.code (cp [1, 1, 1, 0, 1, 0] (bodyOf Tryd.f84)), .blk 0, .code (cp [1, 1, 1, 1] (bodyOf Tryd.f84))] (FinX Tryd.prog Tryd.f84 [] (bl r) []) ⟨[(1, .sl false 1 t1.length ((eInt).f t1)), (5, i64 t5), (6, i64 a.1), (13, .sl false 1 t13.length ((eInt).f t13)), (14, i64 t14), (15, i64 a.2)], []⟩) (t6 t7 t8 t15 : Int) (t27 r : Bool) (h : Dimpl_weighs_0 n rec0 t1 t5 t13 t14 t6 t7 t8 t15 t27 = some r) : Wk Tryd.prog H YS 84 [.code (cp [1, 1, 1, 0, 1, 0, 0, 1, 1, 0, 0, 1, 0, 1] (bodyOf Tryd.f84)), .code (cp [1, 1, 1, 0, 1, 0, 0, 1, 1, 0, 0, 1, 1] (bodyOf Tryd.f84)), .blk 1, .code (cp [1, 1, 1, 0, 1, 0, 0, 1, 1, 1] (bodyOf Tryd.f84)), .lp (cp [1, 1, 1, 0, 1, 0] (bodyOf Tryd.f84)), .blk 0, .code (cp [1, 1, 1, 1] (bodyOf Tryd.f84))] (FinX Tryd.prog Tryd.f84 [] (bl r) []) ⟨[(1, .sl false 1 t1.length ((eInt).f t1)), (5, i64 t5), (6, i64 t6), (7, i64 t7), (8, i64 t8), (13, .sl false 1 t13.length ((eInt).f t13)), (14, i64 t14), (15, i64 t15), (27, bl t27)], []⟩ := by
  unfold Dimpl_weighs_0 at h
  refine x_frk 0 [] onil h (by kernel_rfl) (fun h => ?_) (fun h => ?_)
  · replace h := Option.some.inj h; subst h
    exact x_end 4 [] [] onil onil (by kernel_rfl)
  · obtain ⟨v4, hv4, h⟩ := bind_some h
    exact x_to 18 [(4, .val (.cptr (eInt.c v4 ++ (eInt).f ((t1).drop (Int.toNat t7 + 1)))))] (ocons (ix eInt hv4) onil) (hrec0 (w64 (t6 + (w64 (t8 * v4))), w64 (t15 + 1)) r h) (by kernel_rfl)
def Dimpl_weighs_1 (n : Nat) (t1 : List Int) (t5 : Int) (t13 : List Int) (t14 : Int) (rec0 : (Int × Int) → Option Bool) (a : (Int × Int)) : Option Bool :=
  match a with
  | (t6, t15) => frk (decide (t15 < t14)) ((lget t13 t15).bind fun v2 => frk (t5 == 0) (some false) ((Dimpl_sign v2).bind fun v3 => Dimpl_weighs_0 n rec0 t1 t5 t13 t14 t6 t15 v2 t15 (v3 != t5))) (some (decide ((w64 (t6 * t5)) ≤ 0)))
theorem Timpl_weighs_1 (n : Nat) (t1 : List Int) (t5 : Int) (t13 : List Int) (t14 : Int) : ∀ (m : Nat) (a : (Int × Int)) (r : Bool), loopN (Dimpl_weighs_1 n t1 t5 t13 t14) m a = some r → Wk Tryd.prog H YS 84 [.code (cp [1, 1, 1, 0, 1, 0] (bodyOf Tryd.f84)), .blk 0, .code (cp [1, 1, 1, 1] (bodyOf Tryd.f84))] (FinX Tryd.prog Tryd.f84 [] (bl r) []) ⟨[(1, .sl false 1 t1.length ((eInt).f t1)), (5, i64 t5), (6, i64 a.1), (13, .sl false 1 t13.length ((eInt).f t13)), (14, i64 t14), (15, i64 a.2)], []⟩ := by
  refine loopN_ind (fun rec0 hrec0 a r h => ?_)
  obtain ⟨t6, t15⟩ := a
  unfold Dimpl_weighs_1 at h
  refine x_frk 6 [] onil h (by kernel_rfl) (fun h => ?_) (fun h => ?_)
  · obtain ⟨v2, hv2, h⟩ := bind_some h
    refine x_frk 17 [(1, .val (.cptr (eInt.c v2 ++ (eInt).f ((t13).drop (Int.toNat t15 + 1)))))] (ocons (ix eInt hv2) onil) h (by kernel_rfl) (fun h => ?_) (fun h => ?_)
    · replace h := Option.some.inj h; subst h
      exact x_end 11 [] [] onil onil (by kernel_rfl)
    · obtain ⟨v3, hv3, h⟩ := bind_some h
      exact x_to 6 [(1, .call [] [] (i64 v3) [])] (ocons (Timpl_sign v2 _ hv3) onil) (Timpl_weighs_0 n rec0 t1 t5 t13 t14 hrec0 t6 t15 v2 t15 (v3 != t5) r h) (by kernel_rfl)
  · replace h := Option.some.inj h; subst h
    exact x_end 9 [] [] onil onil (by kernel_rfl)
def Dimpl_weighs (n : Nat) (a0 : (List Int)) (a1 : (List Int)) : Option Bool :=
  (lget a0 0).bind fun v0 => (Dimpl_sign v0).bind fun v1 => loopN (Dimpl_weighs_1 n a1 v1 a0 (a0.length : Int)) n (0, 0)
theorem Timpl_weighs (n : Nat) (a0 : (List Int)) (a1 : (List Int)) (r : Bool) (h : Dimpl_weighs n a0 a1 = some r) : Big Tryd.prog H YS (.call 84 [.sl false 1 a0.length ((eInt).f a0), .sl false 1 a1.length ((eInt).f a1)] (lk []) (bl r) (lk [])) := by
  unfold Dimpl_weighs at h
  refine x_call (fn := Tryd.f84) (c := bodyOf Tryd.f84) (bs0 := []) Tryd.func84 (by kernel_rfl) (by kernel_rfl) ?_
  obtain ⟨v0, hv0, h⟩ := bind_some h
  obtain ⟨v1, hv1, h⟩ := bind_some h
  exact x_to 24 [(2, .val (.cptr (eInt.c v0 ++ (eInt).f ((a0).drop (Int.toNat 0 + 1))))), (1, .call [] [] (i64 v1) [])] (ocons (ix eInt hv0) (ocons (Timpl_sign v0 _ hv1) onil)) (Timpl_weighs_1 n a1 v1 a0 (a0.length : Int) n (0, 0) r h) (by kernel_rfl)
/-! impl.clash3 -/
def Dimpl_clash3 (n : Nat) (a0 : Pl) (a1 : Pl) (a2 : Pl) : Option Bool :=
  (Dimpl_normal a0).bind fun v0 => (Dimpl_normal a1).bind fun v1 => (Dimpl_normal a2).bind fun v2 => (Dimpl_det v0 v1 v2).bind fun v3 => frk (v3 != 0) (some false) ((Dimpl_crossOf v0 v1).bind fun v4 => (Dimpl_crossOf v1 v2).bind fun v5 => (Dimpl_dot v5 v4).bind fun v6 => (Dimpl_crossOf v2 v0).bind fun v7 => (Dimpl_dot v7 v4).bind fun v8 => (Dimpl_dot v4 v4).bind fun v9 => (Dimpl_weighs n [v6, v8, v9] [a0.D, a1.D, a2.D]).bind fun v10 => some v10)
theorem Timpl_clash3 (n : Nat) (a0 : Pl) (a1 : Pl) (a2 : Pl) (r : Bool) (h : Dimpl_clash3 n a0 a1 a2 = some r) : Big Tryd.prog H YS (.call 69 [.agg [i64 a0.A, i64 a0.B, i64 a0.C, i64 a0.D], .agg [i64 a1.A, i64 a1.B, i64 a1.C, i64 a1.D], .agg [i64 a2.A, i64 a2.B, i64 a2.C, i64 a2.D]] (lk []) (bl r) (lk [])) := by
  unfold Dimpl_clash3 at h
  refine x_call (fn := Tryd.f69) (c := bodyOf Tryd.f69) (bs0 := []) Tryd.func69 (by kernel_rfl) (by kernel_rfl) ?_
  obtain ⟨v0, hv0, h⟩ := bind_some h
  obtain ⟨v1, hv1, h⟩ := bind_some h
  obtain ⟨v2, hv2, h⟩ := bind_some h
  obtain ⟨v3, hv3, h⟩ := bind_some h
  refine x_frk 31 [(5, .call [] [] (.agg [i64 v0.1, i64 v0.2.1, i64 v0.2.2]) []), (1, .call [] [] (.agg [i64 v1.1, i64 v1.2.1, i64 v1.2.2]) []), (1, .call [] [] (.agg [i64 v2.1, i64 v2.2.1, i64 v2.2.2]) []), (9, .call [] [] (i64 v3) [])] (ocons (Timpl_normal a0 _ hv0) (ocons (Timpl_normal a1 _ hv1) (ocons (Timpl_normal a2 _ hv2) (ocons (Timpl_det v0 v1 v2 _ hv3) onil)))) h (by kernel_rfl) (fun h => ?_) (fun h => ?_)
  · replace h := Option.some.inj h; subst h
    exact x_end 4 [] [] onil onil (by kernel_rfl)
  · obtain ⟨v4, hv4, h⟩ := bind_some h
    obtain ⟨v5, hv5, h⟩ := bind_some h
    obtain ⟨v6, hv6, h⟩ := bind_some h
    obtain ⟨v7, hv7, h⟩ := bind_some h
    obtain ⟨v8, hv8, h⟩ := bind_some h
    obtain ⟨v9, hv9, h⟩ := bind_some h
    obtain ⟨v10, hv10, h⟩ := bind_some h
    replace h := Option.some.inj h; subst h
    exact x_end 35 [(2, .call [] [] (.agg [i64 v4.1, i64 v4.2.1, i64 v4.2.2]) []), (4, .call [] [] (.agg [i64 v5.1, i64 v5.2.1, i64 v5.2.2]) []), (1, .call [] [] (i64 v6) []), (2, .call [] [] (.agg [i64 v7.1, i64 v7.2.1, i64 v7.2.2]) []), (1, .call [] [] (i64 v8) []), (2, .call [] [] (i64 v9) []), (8, .call [] [(eInt).f [a0.D, a1.D, a2.D], (eInt).f [v6, v8, v9]] (bl v10) [])] [] (ocons (Timpl_crossOf v0 v1 _ hv4) (ocons (Timpl_crossOf v1 v2 _ hv5) (ocons (Timpl_dot v5 v4 _ hv6) (ocons (Timpl_crossOf v2 v0 _ hv7) (ocons (Timpl_dot v7 v4 _ hv8) (ocons (Timpl_dot v4 v4 _ hv9) (ocons (Timpl_weighs n [v6, v8, v9] [a0.D, a1.D, a2.D] _ hv10) (ocons (len_row (L := [v6, v8, v9]) eInt) (ocons (Enc.share eInt eInt sInt [v6, v8, v9]) (ocons (len_row (L := [a0.D, a1.D, a2.D]) eInt) (ocons (Enc.share eInt eInt sInt [a0.D, a1.D, a2.D]) onil))))))))))) onil (by kernel_rfl)
/-! impl.det3 -/
def Dimpl_det3 (a0 : Pl) (a1 : Pl) (a2 : Pl) : Option Int :=
  (Dimpl_normal a0).bind fun v0 => (Dimpl_normal a1).bind fun v1 => (Dimpl_normal a2).bind fun v2 => (Dimpl_det v0 v1 v2).bind fun v3 => some v3
theorem Timpl_det3 (a0 : Pl) (a1 : Pl) (a2 : Pl) (r : Int) (h : Dimpl_det3 a0 a1 a2 = some r) : Big Tryd.prog H YS (.call 86 [.agg [i64 a0.A, i64 a0.B, i64 a0.C, i64 a0.D], .agg [i64 a1.A, i64 a1.B, i64 a1.C, i64 a1.D], .agg [i64 a2.A, i64 a2.B, i64 a2.C, i64 a2.D]] (lk []) (i64 r) (lk [])) := by
  unfold Dimpl_det3 at h
  refine x_call (fn := Tryd.f86) (c := bodyOf Tryd.f86) (bs0 := []) Tryd.func86 (by kernel_rfl) (by kernel_rfl) ?_
  obtain ⟨v0, hv0, h⟩ := bind_some h
  obtain ⟨v1, hv1, h⟩ := bind_some h
  obtain ⟨v2, hv2, h⟩ := bind_some h
  obtain ⟨v3, hv3, h⟩ := bind_some h
  replace h := Option.some.inj h; subst h
  exact x_end 18 [(5, .call [] [] (.agg [i64 v0.1, i64 v0.2.1, i64 v0.2.2]) []), (1, .call [] [] (.agg [i64 v1.1, i64 v1.2.1, i64 v1.2.2]) []), (1, .call [] [] (.agg [i64 v2.1, i64 v2.2.1, i64 v2.2.2]) []), (0, .call [] [] (i64 v3) [])] [] (ocons (Timpl_normal a0 _ hv0) (ocons (Timpl_normal a1 _ hv1) (ocons (Timpl_normal a2 _ hv2) (ocons (Timpl_det v0 v1 v2 _ hv3) onil)))) onil (by kernel_rfl)
/-! impl.clash4 -/
def Dimpl_clash4 (n : Nat) (a0 : Pl) (a1 : Pl) (a2 : Pl) (a3 : Pl) : Option Bool :=
  (Dimpl_det3 a1 a2 a3).bind fun v0 => (Dimpl_det3 a0 a2 a3).bind fun v1 => (Dimpl_det3 a0 a1 a3).bind fun v2 => (Dimpl_det3 a0 a1 a2).bind fun v3 => (Dimpl_weighs n [v0, w64 (0 - v1), v2, w64 (0 - v3)] [a0.D, a1.D, a2.D, a3.D]).bind fun v4 => some v4
theorem Timpl_clash4 (n : Nat) (a0 : Pl) (a1 : Pl) (a2 : Pl) (a3 : Pl) (r : Bool) (h : Dimpl_clash4 n a0 a1 a2 a3 = some r) : Big Tryd.prog H YS (.call 70 [.agg [i64 a0.A, i64 a0.B, i64 a0.C, i64 a0.D], .agg [i64 a1.A, i64 a1.B, i64 a1.C, i64 a1.D], .agg [i64 a2.A, i64 a2.B, i64 a2.C, i64 a2.D], .agg [i64 a3.A, i64 a3.B, i64 a3.C, i64 a3.D]] (lk []) (bl r) (lk [])) := by
  unfold Dimpl_clash4 at h
  refine x_call (fn := Tryd.f70) (c := bodyOf Tryd.f70) (bs0 := []) Tryd.func70 (by kernel_rfl) (by kernel_rfl) ?_
  obtain ⟨v0, hv0, h⟩ := bind_some h
  obtain ⟨v1, hv1, h⟩ := bind_some h
  obtain ⟨v2, hv2, h⟩ := bind_some h
  obtain ⟨v3, hv3, h⟩ := bind_some h
  obtain ⟨v4, hv4, h⟩ := bind_some h
  replace h := Option.some.inj h; subst h
  exact x_end 46 [(8, .call [] [] (i64 v0) []), (3, .call [] [] (i64 v1) []), (4, .call [] [] (i64 v2) []), (3, .call [] [] (i64 v3) []), (13, .call [] [(eInt).f [a0.D, a1.D, a2.D, a3.D], (eInt).f [v0, w64 (0 - v1), v2, w64 (0 - v3)]] (bl v4) [])] [] (ocons (Timpl_det3 a1 a2 a3 _ hv0) (ocons (Timpl_det3 a0 a2 a3 _ hv1) (ocons (Timpl_det3 a0 a1 a3 _ hv2) (ocons (Timpl_det3 a0 a1 a2 _ hv3) (ocons (Timpl_weighs n [v0, w64 (0 - v1), v2, w64 (0 - v3)] [a0.D, a1.D, a2.D, a3.D] _ hv4) (ocons (len_row (L := [v0, w64 (0 - v1), v2, w64 (0 - v3)]) eInt) (ocons (Enc.share eInt eInt sInt [v0, w64 (0 - v1), v2, w64 (0 - v3)]) (ocons (len_row (L := [a0.D, a1.D, a2.D, a3.D]) eInt) (ocons (Enc.share eInt eInt sInt [a0.D, a1.D, a2.D, a3.D]) onil))))))))) onil (by kernel_rfl)
/-! impl.room -/
def Dimpl_room_0 (n : Nat) (rec1 : Int → Option Bool) (_rec0 : Int → Option Bool) (_t13 : Int) (_t23 : List Pl) (_t24 b6_0 b6_1 b6_2 b6_3 : Int) (_t0 : List Pl) (_t11 : List Pl) (_t12 b3_0 b3_1 b3_2 b3_3 t25 : Int) (t36 : List Pl) (t37 b8_0 b8_1 b8_2 b8_3 : Int) (rec2 : Int → Option Bool) (a : Int) : Option Bool :=
  match a with
  | t38 => frk (decide (t38 < t37)) ((lget t36 t38).bind fun v6 => (Dimpl_clash4 n v6 (Pl.mk b8_0 b8_1 b8_2 b8_3) (Pl.mk b6_0 b6_1 b6_2 b6_3) (Pl.mk b3_0 b3_1 b3_2 b3_3)).bind fun v7 => frk v7 (some false) (rec2 (w64 (t38 + 1)))) (rec1 (w64 (t25 + 1)))
theorem Timpl_room_0 (n : Nat) (rec1 : Int → Option Bool) (rec0 : Int → Option Bool) (t13 : Int) (t23 : List Pl) (t24 b6_0 b6_1 b6_2 b6_3 : Int) (t0 : List Pl) (t11 : List Pl) (t12 b3_0 b3_1 b3_2 b3_3 : Int) (hrec1 : ∀ (a : Int) (r : Bool), rec1 a = some r → Wk Tryd.prog H YS 54 [.code (cp [1, 0, 1, 0, 0, 1, 1, 0, 0, 1, 1, 1, 0] (bodyOf Tryd.f54)), .blk 2, .blk 1, .code (cp [1, 0, 1, 0, 0, 1, 1, 1] (bodyOf Tryd.f54)), .lp (cp [1, 0, 1, 0] (bodyOf Tryd.f54)), .blk 0, .code (cp [1, 1] (bodyOf Tryd.f54))] (FinX Tryd.prog Tryd.f54 [] (bl r) []) ⟨[(0, .sl false 4 t0.length ((ePl).f t0)), (3, .ptr 3 0), (6, .ptr 6 0), (11, .sl false 4 t11.length ((ePl).f t11)), (12, i64 t12), (13, i64 t13), (23, .sl false 4 t23.length ((ePl).f t23)), (24, i64 t24), (25, i64 a)], [(3, ⟨true, 0, [i64 b3_0, i64 b3_1, i64 b3_2, i64 b3_3]⟩), (6, ⟨true, 0, [i64 b6_0, i64 b6_1, i64 b6_2, i64 b6_3]⟩)]⟩) (_hrec0 : ∀ (a : Int) (r : Bool), rec0 a = some r → Wk Tryd.prog H YS 54 [.code (cp [1, 0, 1, 0] (bodyOf Tryd.f54)), .blk 0, .code (cp [1, 1] (bodyOf Tryd.f54))] (FinX Tryd.prog Tryd.f54 [] (bl r) []) ⟨[(0, .sl false 4 t0.length ((ePl).f t0)), (3, .ptr 3 0), (11, .sl false 4 t11.length ((ePl).f t11)), (12, i64 t12), (13, i64 a)], [(3, ⟨true, 0, [i64 b3_0, i64 b3_1, i64 b3_2, i64 b3_3]⟩)]⟩) (t25 : Int) (t36 : List Pl) (t37 b8_0 b8_1 b8_2 b8_3 : Int) : ∀ (m : Nat) (a : Int) (r : Bool), loopN (Dimpl_room_0 n rec1 rec0 t13 t23 t24 b6_0 b6_1 b6_2 b6_3 t0 t11 t12 b3_0 b3_1 b3_2 b3_3 t25 t36 t37 b8_0 b8_1 b8_2 b8_3) m a = some r → Wk Tryd.prog H YS 54 [.code (cp [1, 0, 1, 0, 0, 1, 1, 0, 0, 1, 1, 1, 0, 0, 1, 1, 0, 0, 1, 1, 1, 0] (bodyOf Tryd.f54)), .blk 4, .blk 3, .code (cp [1, 0, 1, 0, 0, 1, 1, 0, 0, 1, 1, 1, 0, 0, 1, 1, 1] (bodyOf Tryd.f54)), .lp (cp [1, 0, 1, 0, 0, 1, 1, 0, 0, 1, 1, 1, 0] (bodyOf Tryd.f54)), .blk 2, .blk 1, .code (cp [1, 0, 1, 0, 0, 1, 1, 1] (bodyOf Tryd.f54)), .lp (cp [1, 0, 1, 0] (bodyOf Tryd.f54)), .blk 0, .code (cp [1, 1] (bodyOf Tryd.f54))] (FinX Tryd.prog Tryd.f54 [] (bl r) []) ⟨[(0, .sl false 4 t0.length ((ePl).f t0)), (3, .ptr 3 0), (6, .ptr 6 0), (8, .ptr 8 0), (11, .sl false 4 t11.length ((ePl).f t11)), (12, i64 t12), (13, i64 t13), (23, .sl false 4 t23.length ((ePl).f t23)), (24, i64 t24), (25, i64 t25), (36, .sl false 4 t36.length ((ePl).f t36)), (37, i64 t37), (38, i64 a)], [(3, ⟨true, 0, [i64 b3_0, i64 b3_1, i64 b3_2, i64 b3_3]⟩), (6, ⟨true, 0, [i64 b6_0, i64 b6_1, i64 b6_2, i64 b6_3]⟩), (8, ⟨true, 0, [i64 b8_0, i64 b8_1, i64 b8_2, i64 b8_3]⟩)]⟩ := by
  refine loopN_ind (fun _rec2 hrec2 a r h => ?_)
  obtain ⟨t38, rfl⟩ : ∃ x, x = a := ⟨a, rfl⟩
  unfold Dimpl_room_0 at h
  refine x_frk 6 [] onil h (by kernel_rfl) (fun h => ?_) (fun h => ?_)
  · obtain ⟨v6, hv6, h⟩ := bind_some h
    obtain ⟨v7, hv7, h⟩ := bind_some h
    refine x_frk 18 [(0, .val (.cptr (ePl.c v6 ++ (ePl).f ((t36).drop (Int.toNat t38 + 1))))), (7, .call [] [] (bl v7) [])] (ocons (ix ePl hv6) (ocons (Timpl_clash4 n v6 (Pl.mk b8_0 b8_1 b8_2 b8_3) (Pl.mk b6_0 b6_1 b6_2 b6_3) (Pl.mk b3_0 b3_1 b3_2 b3_3) _ hv7) onil)) h (by kernel_rfl) (fun h => ?_) (fun h => ?_)
    · replace h := Option.some.inj h; subst h
      exact x_end 4 [] [] onil onil (by kernel_rfl)
    · exact x_to 7 [] onil (hrec2 (w64 (t38 + 1)) r h) (by kernel_rfl)
  · exact x_to 7 [] onil (hrec1 (w64 (t25 + 1)) r h) (by kernel_rfl)
def Dimpl_room_1 (n : Nat) (rec0 : Int → Option Bool) (t0 : List Pl) (t11 : List Pl) (t12 b3_0 b3_1 b3_2 b3_3 t13 : Int) (t23 : List Pl) (t24 b6_0 b6_1 b6_2 b6_3 : Int) (rec1 : Int → Option Bool) (a : Int) : Option Bool :=
  match a with
  | t25 => frk (decide (t25 < t24)) ((lget t23 t25).bind fun v3 => (Dimpl_clash3 n v3 (Pl.mk b6_0 b6_1 b6_2 b6_3) (Pl.mk b3_0 b3_1 b3_2 b3_3)).bind fun v4 => frk v4 (some false) ((lsl t0 0 t25).bind fun v5 => loopN (Dimpl_room_0 n rec1 rec0 t13 t23 t24 b6_0 b6_1 b6_2 b6_3 t0 t11 t12 b3_0 b3_1 b3_2 b3_3 t25 v5 (v5.length : Int) v3.A v3.B v3.C v3.D) n 0)) (rec0 (w64 (t13 + 1)))
theorem Timpl_room_1 (n : Nat) (rec0 : Int → Option Bool) (t0 : List Pl) (t11 : List Pl) (t12 b3_0 b3_1 b3_2 b3_3 : Int) (hrec0 : ∀ (a : Int) (r : Bool), rec0 a = some r → Wk Tryd.prog H YS 54 [.code (cp [1, 0, 1, 0] (bodyOf Tryd.f54)), .blk 0, .code (cp [1, 1] (bodyOf Tryd.f54))] (FinX Tryd.prog Tryd.f54 [] (bl r) []) ⟨[(0, .sl false 4 t0.length ((ePl).f t0)), (3, .ptr 3 0), (11, .sl false 4 t11.length ((ePl).f t11)), (12, i64 t12), (13, i64 a)], [(3, ⟨true, 0, [i64 b3_0, i64 b3_1, i64 b3_2, i64 b3_3]⟩)]⟩) (t13 : Int) (t23 : List Pl) (t24 b6_0 b6_1 b6_2 b6_3 : Int) : ∀ (m : Nat) (a : Int) (r : Bool), loopN (Dimpl_room_1 n rec0 t0 t11 t12 b3_0 b3_1 b3_2 b3_3 t13 t23 t24 b6_0 b6_1 b6_2 b6_3) m a = some r → Wk Tryd.prog H YS 54 [.code (cp [1, 0, 1, 0, 0, 1, 1, 0, 0, 1, 1, 1, 0] (bodyOf Tryd.f54)), .blk 2, .blk 1, .code (cp [1, 0, 1, 0, 0, 1, 1, 1] (bodyOf Tryd.f54)), .lp (cp [1, 0, 1, 0] (bodyOf Tryd.f54)), .blk 0, .code (cp [1, 1] (bodyOf Tryd.f54))] (FinX Tryd.prog Tryd.f54 [] (bl r) []) ⟨[(0, .sl false 4 t0.length ((ePl).f t0)), (3, .ptr 3 0), (6, .ptr 6 0), (11, .sl false 4 t11.length ((ePl).f t11)), (12, i64 t12), (13, i64 t13), (23, .sl false 4 t23.length ((ePl).f t23)), (24, i64 t24), (25, i64 a)], [(3, ⟨true, 0, [i64 b3_0, i64 b3_1, i64 b3_2, i64 b3_3]⟩), (6, ⟨true, 0, [i64 b6_0, i64 b6_1, i64 b6_2, i64 b6_3]⟩)]⟩ := by
  refine loopN_ind (fun rec1 hrec1 a r h => ?_)
  obtain ⟨t25, rfl⟩ : ∃ x, x = a := ⟨a, rfl⟩
  unfold Dimpl_room_1 at h
  refine x_frk 6 [] onil h (by kernel_rfl) (fun h => ?_) (fun h => ?_)
  · obtain ⟨v3, hv3, h⟩ := bind_some h
    obtain ⟨v4, hv4, h⟩ := bind_some h
    refine x_frk 20 [(1, .val (.cptr (ePl.c v3 ++ (ePl).f ((t23).drop (Int.toNat t25 + 1))))), (7, .call [] [] (bl v4) [])] (ocons (ix ePl hv3) (ocons (Timpl_clash3 n v3 (Pl.mk b6_0 b6_1 b6_2 b6_3) (Pl.mk b3_0 b3_1 b3_2 b3_3) _ hv4) onil)) h (by kernel_rfl) (fun h => ?_) (fun h => ?_)
    · replace h := Option.some.inj h; subst h
      exact x_end 4 [] [] onil onil (by kernel_rfl)
    · obtain ⟨v5, hv5, h⟩ := bind_some h
      exact x_to 10 [(2, .val (.sl false 4 v5.length ((ePl).f v5)))] (ocons (slF ePl hv5) onil) (Timpl_room_0 n rec1 rec0 t13 t23 t24 b6_0 b6_1 b6_2 b6_3 t0 t11 t12 b3_0 b3_1 b3_2 b3_3 hrec1 hrec0 t25 v5 (v5.length : Int) v3.A v3.B v3.C v3.D n 0 r h) (by kernel_rfl)
  · exact x_to 7 [] onil (hrec0 (w64 (t13 + 1)) r h) (by kernel_rfl)
def Dimpl_room_2 (n : Nat) (t0 : List Pl) (t11 : List Pl) (t12 b3_0 b3_1 b3_2 b3_3 : Int) (rec0 : Int → Option Bool) (a : Int) : Option Bool :=
  match a with
  | t13 => frk (decide (t13 < t12)) ((lget t11 t13).bind fun v0 => (Dimpl_clash2 n v0 (Pl.mk b3_0 b3_1 b3_2 b3_3)).bind fun v1 => frk v1 (some false) ((lsl t0 0 t13).bind fun v2 => loopN (Dimpl_room_1 n rec0 t0 t11 t12 b3_0 b3_1 b3_2 b3_3 t13 v2 (v2.length : Int) v0.A v0.B v0.C v0.D) n 0)) (some true)
theorem Timpl_room_2 (n : Nat) (t0 : List Pl) (t11 : List Pl) (t12 b3_0 b3_1 b3_2 b3_3 : Int) : ∀ (m : Nat) (a : Int) (r : Bool), loopN (Dimpl_room_2 n t0 t11 t12 b3_0 b3_1 b3_2 b3_3) m a = some r → Wk Tryd.prog H YS 54 [.code (cp [1, 0, 1, 0] (bodyOf Tryd.f54)), .blk 0, .code (cp [1, 1] (bodyOf Tryd.f54))] (FinX Tryd.prog Tryd.f54 [] (bl r) []) ⟨[(0, .sl false 4 t0.length ((ePl).f t0)), (3, .ptr 3 0), (11, .sl false 4 t11.length ((ePl).f t11)), (12, i64 t12), (13, i64 a)], [(3, ⟨true, 0, [i64 b3_0, i64 b3_1, i64 b3_2, i64 b3_3]⟩)]⟩ := by
  refine loopN_ind (fun rec0 hrec0 a r h => ?_)
  obtain ⟨t13, rfl⟩ : ∃ x, x = a := ⟨a, rfl⟩
  unfold Dimpl_room_2 at h
  refine x_frk 6 [] onil h (by kernel_rfl) (fun h => ?_) (fun h => ?_)
  · obtain ⟨v0, hv0, h⟩ := bind_some h
    obtain ⟨v1, hv1, h⟩ := bind_some h
    refine x_frk 19 [(1, .val (.cptr (ePl.c v0 ++ (ePl).f ((t11).drop (Int.toNat t13 + 1))))), (6, .call [] [] (bl v1) [])] (ocons (ix ePl hv0) (ocons (Timpl_clash2 n v0 (Pl.mk b3_0 b3_1 b3_2 b3_3) _ hv1) onil)) h (by kernel_rfl) (fun h => ?_) (fun h => ?_)
    · replace h := Option.some.inj h; subst h
      exact x_end 4 [] [] onil onil (by kernel_rfl)
    · obtain ⟨v2, hv2, h⟩ := bind_some h
      exact x_to 10 [(2, .val (.sl false 4 v2.length ((ePl).f v2)))] (ocons (slF ePl hv2) onil) (Timpl_room_1 n rec0 t0 t11 t12 b3_0 b3_1 b3_2 b3_3 hrec0 t13 v2 (v2.length : Int) v0.A v0.B v0.C v0.D n 0 r h) (by kernel_rfl)
  · replace h := Option.some.inj h; subst h
    exact x_end 5 [] [] onil onil (by kernel_rfl)
def Dimpl_room (n : Nat) (a0 : (List Pl)) (a1 : Pl) : Option Bool :=
  loopN (Dimpl_room_2 n a0 a0 (a0.length : Int) a1.A a1.B a1.C a1.D) n 0
theorem Timpl_room (n : Nat) (a0 : (List Pl)) (a1 : Pl) (r : Bool) (h : Dimpl_room n a0 a1 = some r) : Big Tryd.prog H YS (.call 54 [.sl false 4 a0.length ((ePl).f a0), .agg [i64 a1.A, i64 a1.B, i64 a1.C, i64 a1.D]] (lk []) (bl r) (lk [])) := by
  unfold Dimpl_room at h
  refine x_call (fn := Tryd.f54) (c := bodyOf Tryd.f54) (bs0 := []) Tryd.func54 (by kernel_rfl) (by kernel_rfl) ?_
  exact x_to 13 [] onil (Timpl_room_2 n a0 a0 (a0.length : Int) a1.A a1.B a1.C a1.D n 0 r h) (by kernel_rfl)
/-! impl.with -/
def Dimpl_with (a0 : (List Pl)) (a1 : Pl) : Option (List Pl) :=
  chk (apB 32 (0 + a0.length)) (chk (apB 32 (([] ++ a0).length + 1)) (some (([] ++ a0) ++ [a1])))
theorem Timpl_with (a0 : (List Pl)) (a1 : Pl) (r : (List Pl)) (h : Dimpl_with a0 a1 = some r) : Big Tryd.prog H YS (.call 55 [.sl false 4 a0.length ((ePl).f a0), .agg [i64 a1.A, i64 a1.B, i64 a1.C, i64 a1.D]] (lk []) (.sl true 4 r.length ((ePl).f r)) (lk [])) := by
  unfold Dimpl_with at h
  refine x_call (fn := Tryd.f55) (c := bodyOf Tryd.f55) (bs0 := []) Tryd.func55 (by kernel_rfl) (by kernel_rfl) ?_
  obtain ⟨c0, h⟩ := chk_some h
  obtain ⟨c1, h⟩ := chk_some h
  replace h := Option.some.inj h; subst h
  exact x_end 15 [(4, .app false (List.length ([] ++ a0)) ((ePl).f ([] ++ a0))), (2, .app false (List.length (([] ++ a0) ++ [a1])) ((ePl).f (([] ++ a0) ++ [a1])))] [] (ocons (len_row' (L := []) ePl) (ocons (app_one (L := []) (M := a0) ePl c0) (ocons (app_new (L := []) (M := a0) ePl) (ocons (app_m (L := []) (M := a0) ePl rfl) (ocons (len_row' (L := a0) ePl) (ocons (len_row' (L := ([] ++ a0)) ePl) (ocons (app_one (L := ([] ++ a0)) (M := [a1]) ePl c1) (ocons (app_new (L := ([] ++ a0)) (M := [a1]) ePl) (ocons (app_m (L := ([] ++ a0)) (M := [a1]) ePl rfl) (ocons (len_row' (L := [a1]) ePl) (ocons (Enc.noOwn ePl (fun _ => rfl) [a1]) onil))))))))))) (ocons (len_row (L := (([] ++ a0) ++ [a1])) ePl) onil) (by kernel_rfl)
/-! impl.checker).right -/
def Dimpl_checker_right_1 (_n : Nat) (self : (Int × Sol × (List Pl)) → Option (Bool × Int)) (t2 : List Pl) (t59 _b4_0 : Bool) (b4_1 b4_2 b4_3 b4_4 : Int) (b4_5 : List Sol) (b7_0 b7_1 b7_2 b7_3 b1000_0 : Int) : Option (Bool × Int) :=
  frk t59 (some (false, b1000_0)) ((lget b4_5 0).bind fun v5 => (Dimpl_with t2 (Pl.mk b4_1 b4_2 b4_3 b4_4)).bind fun v6 => (self (b1000_0, v5, v6)).bind fun v7 => frk v7.1 ((lget b4_5 1).bind fun v8 => (Dimpl_with t2 (Pl.mk b7_0 b7_1 b7_2 b7_3)).bind fun v9 => (self (v7.2, v8, v9)).bind fun v10 => some v10) (some (false, v7.2)))
theorem Timpl_checker_right_1 (n : Nat) (self : (Int × Sol × (List Pl)) → Option (Bool × Int)) (hself : ∀ (a : (Int × Sol × (List Pl))) (r : (Bool × Int)), self a = some r → Big Tryd.prog H YS (.call 39 [.ptr 1000 0, .agg [bl a.2.1.inn, i64 a.2.1.pl.A, i64 a.2.1.pl.B, i64 a.2.1.pl.C, i64 a.2.1.pl.D, .sl false 6 a.2.1.kids.length ((eSol false).f a.2.1.kids)], .sl false 4 a.2.2.length ((ePl).f a.2.2)] (lk [(1000, ⟨true, 0, [i64 a.1]⟩)]) (bl r.1) (lk [(1000, ⟨true, 0, [i64 r.2]⟩)]))) (t2 : List Pl) (t59 b4_0 : Bool) (b4_1 b4_2 b4_3 b4_4 : Int) (b4_5 : List Sol) (b7_0 b7_1 b7_2 b7_3 b1000_0 : Int) (r : (Bool × Int)) (h : Dimpl_checker_right_1 n self t2 t59 b4_0 b4_1 b4_2 b4_3 b4_4 b4_5 b7_0 b7_1 b7_2 b7_3 b1000_0 = some r) : Wk Tryd.prog H YS 39 [.code (cp [1, 1, 1, 1, 1, 0, 1] (bodyOf Tryd.f39)), .code (cp [1, 1, 1, 1, 1, 1] (bodyOf Tryd.f39))] (FinX Tryd.prog Tryd.f39 [(1000, ⟨true, 0, [.bad]⟩)] (bl r.1) [(1000, ⟨true, 0, [i64 r.2]⟩)]) ⟨[(0, .ptr 1000 0), (2, .sl false 4 t2.length ((ePl).f t2)), (4, .ptr 4 0), (7, .ptr 7 0), (59, bl t59)], [(4, ⟨true, 0, [bl b4_0, i64 b4_1, i64 b4_2, i64 b4_3, i64 b4_4, .sl false 6 b4_5.length ((eSol false).f b4_5)]⟩), (7, ⟨true, 0, [i64 b7_0, i64 b7_1, i64 b7_2, i64 b7_3]⟩), (1000, ⟨true, 0, [i64 b1000_0]⟩)]⟩ := by
  unfold Dimpl_checker_right_1 at h
  refine x_frk 0 [] onil h (by kernel_rfl) (fun h => ?_) (fun h => ?_)
  · replace h := Option.some.inj h; subst h
    exact x_end 4 [] [] onil onil (by kernel_rfl)
  · obtain ⟨v5, hv5, h⟩ := bind_some h
    obtain ⟨v6, hv6, h⟩ := bind_some h
    obtain ⟨v7, hv7, h⟩ := bind_some h
    refine x_frk 14 [(3, .val (.cptr ((eSol false).c v5 ++ (eSol false).f ((b4_5).drop (Int.toNat 0 + 1))))), (4, .call [] [] (.sl false 4 v6.length ((ePl).f v6)) []), (0, .call [] [] (bl v7.1) [(1000, ⟨true, 0, [i64 v7.2]⟩)])] (ocons (ix (eSol false) hv5) (ocons (shSl (L := v6) ePl ePl sPl (Timpl_with t2 (Pl.mk b4_1 b4_2 b4_3 b4_4) _ hv6)) (ocons (hself (b1000_0, v5, v6) _ hv7) onil))) h (by kernel_rfl) (fun h => ?_) (fun h => ?_)
    · obtain ⟨v8, hv8, h⟩ := bind_some h
      obtain ⟨v9, hv9, h⟩ := bind_some h
      obtain ⟨v10, hv10, h⟩ := bind_some h
      replace h := Option.some.inj h; subst h
      exact x_end 12 [(3, .val (.cptr ((eSol false).c v8 ++ (eSol false).f ((b4_5).drop (Int.toNat 1 + 1))))), (3, .call [] [] (.sl false 4 v9.length ((ePl).f v9)) []), (0, .call [] [] (bl v10.1) [(1000, ⟨true, 0, [i64 v10.2]⟩)])] [] (ocons (ix (eSol false) hv8) (ocons (shSl (L := v9) ePl ePl sPl (Timpl_with t2 (Pl.mk b7_0 b7_1 b7_2 b7_3) _ hv9)) (ocons (hself (v7.2, v8, v9) _ hv10) onil))) onil (by kernel_rfl)
    · replace h := Option.some.inj h; subst h
      exact x_end 12 [] [] onil onil (by kernel_rfl)
def Dimpl_checker_right_0 (n : Nat) (self : (Int × Sol × (List Pl)) → Option (Bool × Int)) (t2 : List Pl) (t45 b4_0 : Bool) (b4_1 b4_2 b4_3 b4_4 : Int) (b4_5 : List Sol) (b1000_0 : Int) : Option (Bool × Int) :=
  frk t45 (some (false, b1000_0)) ((Dimpl_flip (Pl.mk b4_1 b4_2 b4_3 b4_4)).bind fun v2 => (Dimpl_room n t2 (Pl.mk b4_1 b4_2 b4_3 b4_4)).bind fun v3 => frk (!v3) (some (false, b1000_0)) ((Dimpl_room n t2 v2).bind fun v4 => Dimpl_checker_right_1 n self t2 (!v4) b4_0 b4_1 b4_2 b4_3 b4_4 b4_5 v2.A v2.B v2.C v2.D b1000_0))
theorem Timpl_checker_right_0 (n : Nat) (self : (Int × Sol × (List Pl)) → Option (Bool × Int)) (hself : ∀ (a : (Int × Sol × (List Pl))) (r : (Bool × Int)), self a = some r → Big Tryd.prog H YS (.call 39 [.ptr 1000 0, .agg [bl a.2.1.inn, i64 a.2.1.pl.A, i64 a.2.1.pl.B, i64 a.2.1.pl.C, i64 a.2.1.pl.D, .sl false 6 a.2.1.kids.length ((eSol false).f a.2.1.kids)], .sl false 4 a.2.2.length ((ePl).f a.2.2)] (lk [(1000, ⟨true, 0, [i64 a.1]⟩)]) (bl r.1) (lk [(1000, ⟨true, 0, [i64 r.2]⟩)]))) (t2 : List Pl) (t45 b4_0 : Bool) (b4_1 b4_2 b4_3 b4_4 : Int) (b4_5 : List Sol) (b1000_0 : Int) (r : (Bool × Int)) (h : Dimpl_checker_right_0 n self t2 t45 b4_0 b4_1 b4_2 b4_3 b4_4 b4_5 b1000_0 = some r) : Wk Tryd.prog H YS 39 [.code (cp [1, 1, 1, 0, 1] (bodyOf Tryd.f39)), .code (cp [1, 1, 1, 1] (bodyOf Tryd.f39))] (FinX Tryd.prog Tryd.f39 [(1000, ⟨true, 0, [.bad]⟩)] (bl r.1) [(1000, ⟨true, 0, [i64 r.2]⟩)]) ⟨[(0, .ptr 1000 0), (2, .sl false 4 t2.length ((ePl).f t2)), (4, .ptr 4 0), (45, bl t45)], [(4, ⟨true, 0, [bl b4_0, i64 b4_1, i64 b4_2, i64 b4_3, i64 b4_4, .sl false 6 b4_5.length ((eSol false).f b4_5)]⟩), (1000, ⟨true, 0, [i64 b1000_0]⟩)]⟩ := by
  unfold Dimpl_checker_right_0 at h
  refine x_frk 0 [] onil h (by kernel_rfl) (fun h => ?_) (fun h => ?_)
  · replace h := Option.some.inj h; subst h
    exact x_end 4 [] [] onil onil (by kernel_rfl)
  · obtain ⟨v2, hv2, h⟩ := bind_some h
    obtain ⟨v3, hv3, h⟩ := bind_some h
    refine x_frk 18 [(2, .call [] [] (.agg [i64 v2.A, i64 v2.B, i64 v2.C, i64 v2.D]) []), (5, .call [] [] (bl v3) [])] (ocons (Timpl_flip (Pl.mk b4_1 b4_2 b4_3 b4_4) _ hv2) (ocons (Timpl_room n t2 (Pl.mk b4_1 b4_2 b4_3 b4_4) _ hv3) onil)) h (by kernel_rfl) (fun h => ?_) (fun h => ?_)
    · replace h := Option.some.inj h; subst h
      exact x_end 11 [] [] onil onil (by kernel_rfl)
    · obtain ⟨v4, hv4, h⟩ := bind_some h
      exact x_to 6 [(2, .call [] [] (bl v4) [])] (ocons (Timpl_room n t2 v2 _ hv4) onil) (Timpl_checker_right_1 n self hself t2 (!v4) b4_0 b4_1 b4_2 b4_3 b4_4 b4_5 v2.A v2.B v2.C v2.D b1000_0 r h) (by kernel_rfl)
def Dimpl_checker_right_b (n : Nat) (self : (Int × Sol × (List Pl)) → Option (Bool × Int)) (a : (Int × Sol × (List Pl))) : Option (Bool × Int) :=
  match a with
  | (a0, a1, a2) => (Dimpl_Solid_isLeaf a1).bind fun v0 => frk v0 (some ((a1.pl.A == 0 && (a1.pl.B == 0 && (a1.pl.C == 0 && (a1.pl.D == 0 && true)))), a0)) (frk a1.inn (some (false, w64 (a0 + 1))) (frk ((a1.kids.length : Int) != 2) (some (false, w64 (a0 + 1))) (frk (decide ((w64 (a0 + 1)) > 300)) (some (false, w64 (a0 + 1))) (frk (decide ((a2.length : Int) ≥ 24)) (some (false, w64 (a0 + 1))) ((Dimpl_PlaneOk n a1.pl).bind fun v1 => Dimpl_checker_right_0 n self a2 (!v1) a1.inn a1.pl.A a1.pl.B a1.pl.C a1.pl.D a1.kids (w64 (a0 + 1)))))))
def Dimpl_checker_right (n : Nat) (a0 : Int) (a1 : Sol) (a2 : (List Pl)) : Option (Bool × Int) := loopN (Dimpl_checker_right_b n) n (a0, a1, a2)
theorem Timpl_checker_right_b (n : Nat) : ∀ (m : Nat) (a : (Int × Sol × (List Pl))) (r : (Bool × Int)), loopN (Dimpl_checker_right_b n) m a = some r → ∀ (_ : Unit), Big Tryd.prog H YS (.call 39 [.ptr 1000 0, .agg [bl a.2.1.inn, i64 a.2.1.pl.A, i64 a.2.1.pl.B, i64 a.2.1.pl.C, i64 a.2.1.pl.D, .sl false 6 a.2.1.kids.length ((eSol false).f a.2.1.kids)], .sl false 4 a.2.2.length ((ePl).f a.2.2)] (lk [(1000, ⟨true, 0, [i64 a.1]⟩)]) (bl r.1) (lk [(1000, ⟨true, 0, [i64 r.2]⟩)])) := by
  refine loopN_ind (fun self hs a r h => ?_)
  have hself : ∀ (a : (Int × Sol × (List Pl))) (r : (Bool × Int)), self a = some r → Big Tryd.prog H YS (.call 39 [.ptr 1000 0, .agg [bl a.2.1.inn, i64 a.2.1.pl.A, i64 a.2.1.pl.B, i64 a.2.1.pl.C, i64 a.2.1.pl.D, .sl false 6 a.2.1.kids.length ((eSol false).f a.2.1.kids)], .sl false 4 a.2.2.length ((ePl).f a.2.2)] (lk [(1000, ⟨true, 0, [i64 a.1]⟩)]) (bl r.1) (lk [(1000, ⟨true, 0, [i64 r.2]⟩)])) := fun a r h => hs a r h ()
  intro _
  obtain ⟨a0, a1, a2⟩ := a
  unfold Dimpl_checker_right_b at h
  refine x_call (fn := Tryd.f39) (c := bodyOf Tryd.f39) (bs0 := [(1000, ⟨true, 0, [.bad]⟩)]) Tryd.func39 (by kernel_rfl) (by kernel_rfl) ?_
  obtain ⟨v0, hv0, h⟩ := bind_some h
  refine x_frk 10 [(2, .call [] [] (bl v0) [])] (ocons (Timpl_Solid_isLeaf a1 [] _ hv0) onil) h (by kernel_rfl) (fun h => ?_) (fun h => ?_)
  · replace h := Option.some.inj h; subst h
    exact x_end 8 [] [] onil onil (by kernel_rfl)
  · refine x_frk 18 [] onil h (by kernel_rfl) (fun h => ?_) (fun h => ?_)
    · replace h := Option.some.inj h; subst h
      exact x_end 29 [] [] onil onil (by kernel_rfl)
    · refine x_frk 6 [] onil h (by kernel_rfl) (fun h => ?_) (fun h => ?_)
      · replace h := Option.some.inj h; subst h
        exact x_end 23 [] [] onil onil (by kernel_rfl)
      · refine x_frk 7 [] onil h (by kernel_rfl) (fun h => ?_) (fun h => ?_)
        · replace h := Option.some.inj h; subst h
          exact x_end 16 [] [] onil onil (by kernel_rfl)
        · refine x_frk 5 [] onil h (by kernel_rfl) (fun h => ?_) (fun h => ?_)
          · replace h := Option.some.inj h; subst h
            exact x_end 11 [] [] onil onil (by kernel_rfl)
          · obtain ⟨v1, hv1, h⟩ := bind_some h
            exact x_to 6 [(2, .call [] [] (bl v1) [])] (ocons (Timpl_PlaneOk n a1.pl _ hv1) onil) (Timpl_checker_right_0 n self hself a2 (!v1) a1.inn a1.pl.A a1.pl.B a1.pl.C a1.pl.D a1.kids (w64 (a0 + 1)) r h) (by kernel_rfl)
theorem Timpl_checker_right (n : Nat) (a0 : Int) (a1 : Sol) (a2 : (List Pl)) (r : (Bool × Int)) (h : Dimpl_checker_right n a0 a1 a2 = some r) : Big Tryd.prog H YS (.call 39 [.ptr 1000 0, .agg [bl a1.inn, i64 a1.pl.A, i64 a1.pl.B, i64 a1.pl.C, i64 a1.pl.D, .sl false 6 a1.kids.length ((eSol false).f a1.kids)], .sl false 4 a2.length ((ePl).f a2)] (lk [(1000, ⟨true, 0, [i64 a0]⟩)]) (bl r.1) (lk [(1000, ⟨true, 0, [i64 r.2]⟩)])) := Timpl_checker_right_b n n (a0, a1, a2) r h ()
/-! impl.SolidOk -/
def Dimpl_SolidOk (n : Nat) (a0 : Sol) : Option Bool :=
  (Dimpl_checker_right n 0 a0 []).bind fun v0 => some v0.1
theorem Timpl_SolidOk (n : Nat) (a0 : Sol) (r : Bool) (h : Dimpl_SolidOk n a0 = some r) : Big Tryd.prog H YS (.call 26 [.agg [bl a0.inn, i64 a0.pl.A, i64 a0.pl.B, i64 a0.pl.C, i64 a0.pl.D, .sl false 6 a0.kids.length ((eSol false).f a0.kids)]] (lk []) (bl r) (lk [])) := by
  unfold Dimpl_SolidOk at h
  refine x_call (fn := Tryd.f26) (c := bodyOf Tryd.f26) (bs0 := []) Tryd.func26 (by kernel_rfl) (by kernel_rfl) ?_
  obtain ⟨v0, hv0, h⟩ := bind_some h
  replace h := Option.some.inj h; subst h
  exact x_end 15 [(4, .call [(false, 4)] [] (bl v0.1) [(1000, ⟨true, 0, [i64 v0.2]⟩)])] [] (ocons (Timpl_checker_right n 0 a0 [] _ hv0) onil) onil (by kernel_rfl)
/-! impl.PlaneText -/
def Dimpl_PlaneText (n : Nat) (a0 : Pl) : Option ByteArray :=
  (Dimpl_PlaneOk n a0).bind fun v0 => frk (!v0) (some (ByteArray.mk #[])) ((DItoa a0.A).bind fun v1 => chk (apB 16 (0 + 1)) ((DItoa a0.B).bind fun v3 => chk (apB 16 (1 + 1)) ((DItoa a0.C).bind fun v5 => chk (apB 16 (2 + 1)) ((DItoa a0.D).bind fun v7 => chk (apB 16 (3 + 1)) ((DJoin [v1, v3, v5, v7] (ByteArray.mk #[32])).bind fun v9 => some v9)))))
theorem Timpl_PlaneText (n : Nat) (a0 : Pl) (r : ByteArray) (h : Dimpl_PlaneText n a0 = some r) : Big Tryd.prog H YS (.call 19 [.agg [i64 a0.A, i64 a0.B, i64 a0.C, i64 a0.D]] (lk []) (.lit (.string r)) (lk [])) := by
  unfold Dimpl_PlaneText at h
  refine x_call (fn := Tryd.f19) (c := bodyOf Tryd.f19) (bs0 := []) Tryd.func19 (by kernel_rfl) (by kernel_rfl) ?_
  obtain ⟨v0, hv0, h⟩ := bind_some h
  refine x_frk 12 [(3, .call [] [] (bl v0) [])] (ocons (Timpl_PlaneOk n a0 _ hv0) onil) h (by kernel_rfl) (fun h => ?_) (fun h => ?_)
  · replace h := Option.some.inj h; subst h
    exact x_end 4 [] [] onil onil (by kernel_rfl)
  · obtain ⟨v1, hv1, h⟩ := bind_some h
    obtain ⟨c2, h⟩ := chk_some h
    obtain ⟨v3, hv3, h⟩ := bind_some h
    obtain ⟨c4, h⟩ := chk_some h
    obtain ⟨v5, hv5, h⟩ := bind_some h
    obtain ⟨c6, h⟩ := chk_some h
    obtain ⟨v7, hv7, h⟩ := bind_some h
    obtain ⟨c8, h⟩ := chk_some h
    obtain ⟨v9, hv9, h⟩ := bind_some h
    replace h := Option.some.inj h; subst h
    exact x_end 151 [(1, .virt 3 503 1), (15, .call [] [] (.lit (.string v1)) []), (1, .app false (List.length ([] ++ [v1])) ((eStr).f ([] ++ [v1]))), (8, .call [] [] (.lit (.string v3)) []), (1, .app false (List.length ([v1] ++ [v3])) ((eStr).f ([v1] ++ [v3]))), (8, .call [] [] (.lit (.string v5)) []), (1, .app false (List.length ([v1, v3] ++ [v5])) ((eStr).f ([v1, v3] ++ [v5]))), (8, .call [] [] (.lit (.string v7)) []), (1, .app false (List.length ([v1, v3, v5] ++ [v7])) ((eStr).f ([v1, v3, v5] ++ [v7]))), (5, .call [] [(eStr).f [v1, v3, v5, v7]] (.lit (.string v9)) [])] [] (ocons (rflV .nil) (ocons (show 503 < 1000 ∧ 1 ≠ 0 by decide) (ocons (Titoa a0.A _ hv1) (ocons (len_row' (L := []) eStr) (ocons (app_one (L := []) (M := [v1]) eStr c2) (ocons (app_new (L := []) (M := [v1]) eStr) (ocons (app_m (L := []) (M := [v1]) eStr rfl) (ocons (len_row' (L := [v1]) eStr) (ocons (Enc.noOwn eStr (fun _ => rfl) [v1]) (ocons (Titoa a0.B _ hv3) (ocons (len_row' (L := [v1]) eStr) (ocons (app_one (L := [v1]) (M := [v3]) eStr c4) (ocons (app_new (L := [v1]) (M := [v3]) eStr) (ocons (app_m (L := [v1]) (M := [v3]) eStr rfl) (ocons (len_row' (L := [v3]) eStr) (ocons (Enc.noOwn eStr (fun _ => rfl) [v3]) (ocons (Titoa a0.C _ hv5) (ocons (len_row' (L := [v1, v3]) eStr) (ocons (app_one (L := [v1, v3]) (M := [v5]) eStr c6) (ocons (app_new (L := [v1, v3]) (M := [v5]) eStr) (ocons (app_m (L := [v1, v3]) (M := [v5]) eStr rfl) (ocons (len_row' (L := [v5]) eStr) (ocons (Enc.noOwn eStr (fun _ => rfl) [v5]) (ocons (Titoa a0.D _ hv7) (ocons (len_row' (L := [v1, v3, v5]) eStr) (ocons (app_one (L := [v1, v3, v5]) (M := [v7]) eStr c8) (ocons (app_new (L := [v1, v3, v5]) (M := [v7]) eStr) (ocons (app_m (L := [v1, v3, v5]) (M := [v7]) eStr rfl) (ocons (len_row' (L := [v7]) eStr) (ocons (Enc.noOwn eStr (fun _ => rfl) [v7]) (ocons (Tjoin [v1, v3, v5, v7] (ByteArray.mk #[32]) _ hv9) (ocons (len_row (L := [v1, v3, v5, v7]) eStr) (ocons (Enc.share eStr eStr sStr [v1, v3, v5, v7]) onil))))))))))))))))))))))))))))))))) onil (by kernel_rfl)
/-! impl.Solid).text -/
def Dimpl_Solid_text_b (n : Nat) (self : Sol → Option ByteArray) (a : Sol) : Option ByteArray :=
  match a with
  | a0 => (Dimpl_Solid_isLeaf a0).bind fun v0 => frk v0 (frk a0.inn (some (ByteArray.mk #[35])) (some (ByteArray.mk #[46]))) ((Dimpl_PlaneText n a0.pl).bind fun v1 => (scat (ByteArray.mk #[40]) v1).bind fun v2 => (scat v2 (ByteArray.mk #[32])).bind fun v3 => (lget a0.kids 0).bind fun v4 => (self v4).bind fun v5 => (scat v3 v5).bind fun v6 => (scat v6 (ByteArray.mk #[32])).bind fun v7 => (lget a0.kids 1).bind fun v8 => (self v8).bind fun v9 => (scat v7 v9).bind fun v10 => (scat v10 (ByteArray.mk #[41])).bind fun v11 => some v11)
def Dimpl_Solid_text (n : Nat) (a0 : Sol) : Option ByteArray := loopN (Dimpl_Solid_text_b n) n a0
theorem Timpl_Solid_text_b (n : Nat) : ∀ (m : Nat) (a : Sol) (r : ByteArray), loopN (Dimpl_Solid_text_b n) m a = some r → ∀ (q0 : List AV), Big Tryd.prog H YS (.call 27 [.cptr ([bl a.inn, i64 a.pl.A, i64 a.pl.B, i64 a.pl.C, i64 a.pl.D, .sl false 6 a.kids.length ((eSol false).f a.kids)] ++ q0)] (lk []) (.lit (.string r)) (lk [])) := by
  refine loopN_ind (fun self hs a r h => ?_)
  have hself : ∀ (a : Sol) (q0 : List AV) (r : ByteArray), self a = some r → Big Tryd.prog H YS (.call 27 [.cptr ([bl a.inn, i64 a.pl.A, i64 a.pl.B, i64 a.pl.C, i64 a.pl.D, .sl false 6 a.kids.length ((eSol false).f a.kids)] ++ q0)] (lk []) (.lit (.string r)) (lk [])) := fun a q0 r h => hs a r h q0
  intro q0
  obtain ⟨a0, rfl⟩ : ∃ x, x = a := ⟨a, rfl⟩
  unfold Dimpl_Solid_text_b at h
  refine x_call (fn := Tryd.f27) (c := bodyOf Tryd.f27) (bs0 := []) Tryd.func27 (by kernel_rfl) (by kernel_rfl) ?_
  obtain ⟨v0, hv0, h⟩ := bind_some h
  refine x_frk 10 [(2, .call [] [] (bl v0) [])] (ocons (Timpl_Solid_isLeaf a0 q0 _ hv0) onil) h (by kernel_rfl) (fun h => ?_) (fun h => ?_)
  · refine x_frk 8 [] onil h (by kernel_rfl) (fun h => ?_) (fun h => ?_)
    · replace h := Option.some.inj h; subst h
      exact x_end 4 [] [] onil onil (by kernel_rfl)
    · replace h := Option.some.inj h; subst h
      exact x_end 5 [] [] onil onil (by kernel_rfl)
  · obtain ⟨v1, hv1, h⟩ := bind_some h
    obtain ⟨v2, hv2, h⟩ := bind_some h
    obtain ⟨v3, hv3, h⟩ := bind_some h
    obtain ⟨v4, hv4, h⟩ := bind_some h
    obtain ⟨v5, hv5, h⟩ := bind_some h
    obtain ⟨v6, hv6, h⟩ := bind_some h
    obtain ⟨v7, hv7, h⟩ := bind_some h
    obtain ⟨v8, hv8, h⟩ := bind_some h
    obtain ⟨v9, hv9, h⟩ := bind_some h
    obtain ⟨v10, hv10, h⟩ := bind_some h
    obtain ⟨v11, hv11, h⟩ := bind_some h
    replace h := Option.some.inj h; subst h
    exact x_end 28 [(4, .call [] [] (.lit (.string v1)) []), (0, .val (.lit (.string v2))), (0, .val (.lit (.string v3))), (4, .val (.cptr ((eSol false).c v4 ++ (eSol false).f ((a0.kids).drop (Int.toNat 0 + 1))))), (0, .call [] [] (.lit (.string v5)) []), (0, .val (.lit (.string v6))), (0, .val (.lit (.string v7))), (4, .val (.cptr ((eSol false).c v8 ++ (eSol false).f ((a0.kids).drop (Int.toNat 1 + 1))))), (0, .call [] [] (.lit (.string v9)) []), (0, .val (.lit (.string v10))), (0, .val (.lit (.string v11)))] [] (ocons (Timpl_PlaneText n a0.pl _ hv1) (ocons (catOk hv2) (ocons (catOk hv3) (ocons (ix (eSol false) hv4) (ocons (hself v4 ((eSol false).f ((a0.kids).drop (Int.toNat 0 + 1))) _ hv5) (ocons (catOk hv6) (ocons (catOk hv7) (ocons (ix (eSol false) hv8) (ocons (hself v8 ((eSol false).f ((a0.kids).drop (Int.toNat 1 + 1))) _ hv9) (ocons (catOk hv10) (ocons (catOk hv11) onil))))))))))) onil (by kernel_rfl)
theorem Timpl_Solid_text (n : Nat) (a0 : Sol) (q0 : List AV) (r : ByteArray) (h : Dimpl_Solid_text n a0 = some r) : Big Tryd.prog H YS (.call 27 [.cptr ([bl a0.inn, i64 a0.pl.A, i64 a0.pl.B, i64 a0.pl.C, i64 a0.pl.D, .sl false 6 a0.kids.length ((eSol false).f a0.kids)] ++ q0)] (lk []) (.lit (.string r)) (lk [])) := Timpl_Solid_text_b n n a0 r h q0
/-! impl.SolidText -/
def Dimpl_SolidText (n : Nat) (a0 : Sol) : Option ByteArray :=
  (Dimpl_SolidOk n a0).bind fun v0 => frk (!v0) (some (ByteArray.mk #[])) ((Dimpl_Solid_text n a0).bind fun v1 => some v1)
theorem Timpl_SolidText (n : Nat) (a0 : Sol) (r : ByteArray) (h : Dimpl_SolidText n a0 = some r) : Big Tryd.prog H YS (.call 13 [.agg [bl a0.inn, i64 a0.pl.A, i64 a0.pl.B, i64 a0.pl.C, i64 a0.pl.D, .sl false 6 a0.kids.length ((eSol false).f a0.kids)]] (lk []) (.lit (.string r)) (lk [])) := by
  unfold Dimpl_SolidText at h
  refine x_call (fn := Tryd.f13) (c := bodyOf Tryd.f13) (bs0 := []) Tryd.func13 (by kernel_rfl) (by kernel_rfl) ?_
  obtain ⟨v0, hv0, h⟩ := bind_some h
  refine x_frk 12 [(3, .call [] [] (bl v0) [])] (ocons (Timpl_SolidOk n a0 _ hv0) onil) h (by kernel_rfl) (fun h => ?_) (fun h => ?_)
  · replace h := Option.some.inj h; subst h
    exact x_end 4 [] [] onil onil (by kernel_rfl)
  · obtain ⟨v1, hv1, h⟩ := bind_some h
    replace h := Option.some.inj h; subst h
    exact x_end 6 [(0, .call [] [] (.lit (.string v1)) [])] [] (ocons (Timpl_Solid_text n a0 [] _ hv1) onil) onil (by kernel_rfl)
/-! laws.eqPlane -/
def Dlaws_eqPlane (a0 : Pl) (a1 : Pl) : Option Bool :=
  frk (a0.A != a1.A) (some false) (frk (a0.B != a1.B) (some false) (frk (a0.C != a1.C) (some false) (frk (a0.D != a1.D) (some false) (some true))))
theorem Tlaws_eqPlane (a0 : Pl) (a1 : Pl) (r : Bool) (h : Dlaws_eqPlane a0 a1 = some r) : Big Tryd.prog H YS (.call 21 [.agg [i64 a0.A, i64 a0.B, i64 a0.C, i64 a0.D], .agg [i64 a1.A, i64 a1.B, i64 a1.C, i64 a1.D]] (lk []) (bl r) (lk [])) := by
  unfold Dlaws_eqPlane at h
  refine x_call (fn := Tryd.f21) (c := bodyOf Tryd.f21) (bs0 := []) Tryd.func21 (by kernel_rfl) (by kernel_rfl) ?_
  refine x_frk 15 [] onil h (by kernel_rfl) (fun h => ?_) (fun h => ?_)
  · replace h := Option.some.inj h; subst h
    exact x_end 4 [] [] onil onil (by kernel_rfl)
  · refine x_frk 10 [] onil h (by kernel_rfl) (fun h => ?_) (fun h => ?_)
    · replace h := Option.some.inj h; subst h
      exact x_end 4 [] [] onil onil (by kernel_rfl)
    · refine x_frk 10 [] onil h (by kernel_rfl) (fun h => ?_) (fun h => ?_)
      · replace h := Option.some.inj h; subst h
        exact x_end 4 [] [] onil onil (by kernel_rfl)
      · refine x_frk 10 [] onil h (by kernel_rfl) (fun h => ?_) (fun h => ?_)
        · replace h := Option.some.inj h; subst h
          exact x_end 4 [] [] onil onil (by kernel_rfl)
        · replace h := Option.some.inj h; subst h
          exact x_end 5 [] [] onil onil (by kernel_rfl)
/-! laws.eqSolidS -/
def Dlaws_eqSolidS_in_0 (_n : Nat) (self : (Sol × Sol) → Option Bool) (t0 t1 : List Sol) (rec0 : Int → Option Bool) (a : Int) : Option Bool :=
  match a with
  | t5 => frk (decide (t5 < (t0.length : Int))) ((lget t0 t5).bind fun v0 => (lget t1 t5).bind fun v1 => (self (v0, v1)).bind fun v2 => frk (!v2) (some false) (rec0 (w64 (t5 + 1)))) (some true)
theorem Tlaws_eqSolidS_in_0 (n : Nat) (self : (Sol × Sol) → Option Bool) (hself : ∀ (a : (Sol × Sol)) (r : Bool), self a = some r → Big Tryd.prog H YS (.call 14 [.agg [bl a.1.inn, i64 a.1.pl.A, i64 a.1.pl.B, i64 a.1.pl.C, i64 a.1.pl.D, .sl false 6 a.1.kids.length ((eSol false).f a.1.kids)], .agg [bl a.2.inn, i64 a.2.pl.A, i64 a.2.pl.B, i64 a.2.pl.C, i64 a.2.pl.D, .sl false 6 a.2.kids.length ((eSol false).f a.2.kids)]] (lk []) (bl r) (lk []))) (t0 t1 : List Sol) : ∀ (m : Nat) (a : Int) (r : Bool), loopN (Dlaws_eqSolidS_in_0 n self t0 t1) m a = some r → Wk Tryd.prog H YS 28 [.code (cp [1, 1, 0, 1, 0] (bodyOf Tryd.f28)), .blk 0, .code (cp [1, 1, 1] (bodyOf Tryd.f28))] (FinX Tryd.prog Tryd.f28 [] (bl r) []) ⟨[(0, .sl false 6 t0.length ((eSol false).f t0)), (1, .sl false 6 t1.length ((eSol false).f t1)), (5, i64 a)], []⟩ := by
  refine loopN_ind (fun _rec0 hrec0 a r h => ?_)
  obtain ⟨t5, rfl⟩ : ∃ x, x = a := ⟨a, rfl⟩
  unfold Dlaws_eqSolidS_in_0 at h
  refine x_frk 9 [] onil h (by kernel_rfl) (fun h => ?_) (fun h => ?_)
  · obtain ⟨v0, hv0, h⟩ := bind_some h
    obtain ⟨v1, hv1, h⟩ := bind_some h
    obtain ⟨v2, hv2, h⟩ := bind_some h
    refine x_frk 16 [(2, .val (.cptr ((eSol false).c v0 ++ (eSol false).f ((t0).drop (Int.toNat t5 + 1))))), (3, .val (.cptr ((eSol false).c v1 ++ (eSol false).f ((t1).drop (Int.toNat t5 + 1))))), (1, .call [] [] (bl v2) [])] (ocons (ix (eSol false) hv0) (ocons (ix (eSol false) hv1) (ocons (hself (v0, v1) _ hv2) onil))) h (by kernel_rfl) (fun h => ?_) (fun h => ?_)
    · replace h := Option.some.inj h; subst h
      exact x_end 4 [] [] onil onil (by kernel_rfl)
    · exact x_to 8 [] onil (hrec0 (w64 (t5 + 1)) r h) (by kernel_rfl)
  · replace h := Option.some.inj h; subst h
    exact x_end 5 [] [] onil onil (by kernel_rfl)
def Dlaws_eqSolidS_in (n : Nat) (self : (Sol × Sol) → Option Bool) (a0 : (List Sol)) (a1 : (List Sol)) : Option Bool :=
  frk ((a0.length : Int) != (a1.length : Int)) (some false) (loopN (Dlaws_eqSolidS_in_0 n self a0 a1) n 0)
theorem Tlaws_eqSolidS_in (n : Nat) (self : (Sol × Sol) → Option Bool) (hself : ∀ (a : (Sol × Sol)) (r : Bool), self a = some r → Big Tryd.prog H YS (.call 14 [.agg [bl a.1.inn, i64 a.1.pl.A, i64 a.1.pl.B, i64 a.1.pl.C, i64 a.1.pl.D, .sl false 6 a.1.kids.length ((eSol false).f a.1.kids)], .agg [bl a.2.inn, i64 a.2.pl.A, i64 a.2.pl.B, i64 a.2.pl.C, i64 a.2.pl.D, .sl false 6 a.2.kids.length ((eSol false).f a.2.kids)]] (lk []) (bl r) (lk []))) (a0 : (List Sol)) (a1 : (List Sol)) (r : Bool) (h : Dlaws_eqSolidS_in n self a0 a1 = some r) : Big Tryd.prog H YS (.call 28 [.sl false 6 a0.length ((eSol false).f a0), .sl false 6 a1.length ((eSol false).f a1)] (lk []) (bl r) (lk [])) := by
  unfold Dlaws_eqSolidS_in at h
  refine x_call (fn := Tryd.f28) (c := bodyOf Tryd.f28) (bs0 := []) Tryd.func28 (by kernel_rfl) (by kernel_rfl) ?_
  refine x_frk 13 [] onil h (by kernel_rfl) (fun h => ?_) (fun h => ?_)
  · replace h := Option.some.inj h; subst h
    exact x_end 4 [] [] onil onil (by kernel_rfl)
  · exact x_to 7 [] onil (Tlaws_eqSolidS_in_0 n self hself a0 a1 n 0 r h) (by kernel_rfl)
/-! laws.eqSolid -/
def Dlaws_eqSolid_b (n : Nat) (self : (Sol × Sol) → Option Bool) (a : (Sol × Sol)) : Option Bool :=
  match a with
  | (a0, a1) => frk (!(a0.inn == a1.inn)) (some false) ((Dlaws_eqPlane a0.pl a1.pl).bind fun v0 => frk (!v0) (some false) ((Dlaws_eqSolidS_in n self a0.kids a1.kids).bind fun v1 => frk (!v1) (some false) (some true)))
def Dlaws_eqSolid (n : Nat) (a0 : Sol) (a1 : Sol) : Option Bool := loopN (Dlaws_eqSolid_b n) n (a0, a1)
theorem Tlaws_eqSolid_b (n : Nat) : ∀ (m : Nat) (a : (Sol × Sol)) (r : Bool), loopN (Dlaws_eqSolid_b n) m a = some r → ∀ (_ : Unit), Big Tryd.prog H YS (.call 14 [.agg [bl a.1.inn, i64 a.1.pl.A, i64 a.1.pl.B, i64 a.1.pl.C, i64 a.1.pl.D, .sl false 6 a.1.kids.length ((eSol false).f a.1.kids)], .agg [bl a.2.inn, i64 a.2.pl.A, i64 a.2.pl.B, i64 a.2.pl.C, i64 a.2.pl.D, .sl false 6 a.2.kids.length ((eSol false).f a.2.kids)]] (lk []) (bl r) (lk [])) := by
  refine loopN_ind (fun self hs a r h => ?_)
  have hself : ∀ (a : (Sol × Sol)) (r : Bool), self a = some r → Big Tryd.prog H YS (.call 14 [.agg [bl a.1.inn, i64 a.1.pl.A, i64 a.1.pl.B, i64 a.1.pl.C, i64 a.1.pl.D, .sl false 6 a.1.kids.length ((eSol false).f a.1.kids)], .agg [bl a.2.inn, i64 a.2.pl.A, i64 a.2.pl.B, i64 a.2.pl.C, i64 a.2.pl.D, .sl false 6 a.2.kids.length ((eSol false).f a.2.kids)]] (lk []) (bl r) (lk [])) := fun a r h => hs a r h ()
  intro _
  obtain ⟨a0, a1⟩ := a
  unfold Dlaws_eqSolid_b at h
  refine x_call (fn := Tryd.f14) (c := bodyOf Tryd.f14) (bs0 := []) Tryd.func14 (by kernel_rfl) (by kernel_rfl) ?_
  refine x_frk 15 [] onil h (by kernel_rfl) (fun h => ?_) (fun h => ?_)
  · replace h := Option.some.inj h; subst h
    exact x_end 4 [] [] onil onil (by kernel_rfl)
  · obtain ⟨v0, hv0, h⟩ := bind_some h
    refine x_frk 11 [(4, .call [] [] (bl v0) [])] (ocons (Tlaws_eqPlane a0.pl a1.pl _ hv0) onil) h (by kernel_rfl) (fun h => ?_) (fun h => ?_)
    · replace h := Option.some.inj h; subst h
      exact x_end 4 [] [] onil onil (by kernel_rfl)
    · obtain ⟨v1, hv1, h⟩ := bind_some h
      refine x_frk 11 [(4, .call [] [] (bl v1) [])] (ocons (Tlaws_eqSolidS_in n self hself a0.kids a1.kids _ hv1) onil) h (by kernel_rfl) (fun h => ?_) (fun h => ?_)
      · replace h := Option.some.inj h; subst h
        exact x_end 4 [] [] onil onil (by kernel_rfl)
      · replace h := Option.some.inj h; subst h
        exact x_end 5 [] [] onil onil (by kernel_rfl)
theorem Tlaws_eqSolid (n : Nat) (a0 : Sol) (a1 : Sol) (r : Bool) (h : Dlaws_eqSolid n a0 a1 = some r) : Big Tryd.prog H YS (.call 14 [.agg [bl a0.inn, i64 a0.pl.A, i64 a0.pl.B, i64 a0.pl.C, i64 a0.pl.D, .sl false 6 a0.kids.length ((eSol false).f a0.kids)], .agg [bl a1.inn, i64 a1.pl.A, i64 a1.pl.B, i64 a1.pl.C, i64 a1.pl.D, .sl false 6 a1.kids.length ((eSol false).f a1.kids)]] (lk []) (bl r) (lk [])) := Tlaws_eqSolid_b n n (a0, a1) r h ()
/-! laws.FnExactSolidText -/
def Dlaws_FnExactSolidText (n : Nat) (a0 : Sol) : Option Bool :=
  (Dlaws_szSolid n a0 1048576).bind fun v0 => frk (decide (v0 < 0)) (some true) ((Dlaws_toSolid n a0).bind fun v1 => (Dspec_SolidText n v1).bind fun v2 => (Dlaws_toSolid n a0).bind fun v3 => (Dimpl_SolidText n v3).bind fun v4 => frk (!(v4.toList == v2.toList)) (some false) ((Dlaws_toSolid n a0).bind fun v5 => (Dlaws_eqSolid n v3 v5).bind fun v6 => frk (!v6) (some false) (some true)))
theorem Tlaws_FnExactSolidText (n : Nat) (a0 : Sol) (r : Bool) (h : Dlaws_FnExactSolidText n a0 = some r) : Big Tryd.prog H YS (.call 4 [.agg [bl a0.inn, i64 a0.pl.A, i64 a0.pl.B, i64 a0.pl.C, i64 a0.pl.D, .sl false 6 a0.kids.length ((eSol false).f a0.kids)]] (lk []) (bl r) (lk [])) := by
  unfold Dlaws_FnExactSolidText at h
  refine x_call (fn := Tryd.f4) (c := bodyOf Tryd.f4) (bs0 := []) Tryd.func4 (by kernel_rfl) (by kernel_rfl) ?_
  obtain ⟨v0, hv0, h⟩ := bind_some h
  refine x_frk 22 [(5, .call [] [] (i64 v0) [])] (ocons (Tlaws_szSolid n a0 1048576 _ hv0) onil) h (by kernel_rfl) (fun h => ?_) (fun h => ?_)
  · replace h := Option.some.inj h; subst h
    exact x_end 4 [] [] onil onil (by kernel_rfl)
  · obtain ⟨v1, hv1, h⟩ := bind_some h
    obtain ⟨v2, hv2, h⟩ := bind_some h
    obtain ⟨v3, hv3, h⟩ := bind_some h
    obtain ⟨v4, hv4, h⟩ := bind_some h
    refine x_frk 28 [(1, .call [] [] (.agg [bl v1.inn, i64 v1.pl.A, i64 v1.pl.B, i64 v1.pl.C, i64 v1.pl.D, .sl true 6 v1.kids.length ((eSol true).f v1.kids)]) []), (0, .call [] [(eSol false).f v1.kids] (.lit (.string v2)) []), (2, .call [] [] (.agg [bl v3.inn, i64 v3.pl.A, i64 v3.pl.B, i64 v3.pl.C, i64 v3.pl.D, .sl true 6 v3.kids.length ((eSol true).f v3.kids)]) []), (2, .rows [(eSol false).f v3.kids]), (0, .call [] [] (.lit (.string v4)) [])] (ocons (Tlaws_toSolid n a0 _ hv1) (ocons (Tspec_SolidText n v1 _ hv2) (ocons (Enc.share (eSol true) (eSol false) (sSol true) v1.kids) (ocons (Tlaws_toSolid n a0 _ hv3) (ocons (Enc.share (eSol true) (eSol false) (sSol true) v3.kids) (ocons (Timpl_SolidText n v3 _ hv4) onil)))))) h (by kernel_rfl) (fun h => ?_) (fun h => ?_)
    · replace h := Option.some.inj h; subst h
      exact x_end 4 [] [] onil onil (by kernel_rfl)
    · obtain ⟨v5, hv5, h⟩ := bind_some h
      obtain ⟨v6, hv6, h⟩ := bind_some h
      refine x_frk 10 [(0, .rows [(eSol false).f v3.kids]), (1, .call [] [] (.agg [bl v5.inn, i64 v5.pl.A, i64 v5.pl.B, i64 v5.pl.C, i64 v5.pl.D, .sl true 6 v5.kids.length ((eSol true).f v5.kids)]) []), (0, .call [] [(eSol false).f v5.kids] (bl v6) [])] (ocons (Enc.share (eSol true) (eSol false) (sSol true) v3.kids) (ocons (Tlaws_toSolid n a0 _ hv5) (ocons (Tlaws_eqSolid n v3 v5 _ hv6) (ocons (Enc.share (eSol true) (eSol false) (sSol true) v5.kids) onil)))) h (by kernel_rfl) (fun h => ?_) (fun h => ?_)
      · replace h := Option.some.inj h; subst h
        exact x_end 4 [] [] onil onil (by kernel_rfl)
      · replace h := Option.some.inj h; subst h
        exact x_end 5 [] [] onil onil (by kernel_rfl)
/-! laws.szPlaneS -/
def Dlaws_szPlaneS (a0 : (List Pl)) (a1 : Int) : Option Int :=
  frk (decide ((w64 (a1 - (a0.length : Int))) < 0)) (some (-1)) (some (w64 (a1 - (a0.length : Int))))
theorem Tlaws_szPlaneS (a0 : (List Pl)) (a1 r : Int) (h : Dlaws_szPlaneS a0 a1 = some r) : Big Tryd.prog H YS (.call 5 [.sl false 4 a0.length ((ePl).f a0), i64 a1] (lk []) (i64 r) (lk [])) := by
  unfold Dlaws_szPlaneS at h
  refine x_call (fn := Tryd.f5) (c := bodyOf Tryd.f5) (bs0 := []) Tryd.func5 (by kernel_rfl) (by kernel_rfl) ?_
  refine x_frk 18 [] onil h (by kernel_rfl) (fun h => ?_) (fun h => ?_)
  · replace h := Option.some.inj h; subst h
    exact x_end 4 [] [] onil onil (by kernel_rfl)
  · replace h := Option.some.inj h; subst h
    exact x_end 6 [] [] onil onil (by kernel_rfl)
/-! laws.toPlaneS -/
def Dlaws_toPlaneS_0 (_n : Nat) (t0 : List Pl) (rec0 : (Int × List Pl) → Option (List Pl)) (a : (Int × List Pl)) : Option (List Pl) :=
  match a with
  | (t4, l7) => frk (decide (t4 < (t0.length : Int))) ((lget t0 t4).bind fun v1 => (Dlaws_toPlane v1).bind fun v2 => (lget l7 t4).bind fun _v3 => rec0 (w64 (t4 + 1), (l7.set (Int.toNat t4) v2))) (some l7)
theorem Tlaws_toPlaneS_0 (n : Nat) (t0 : List Pl) : ∀ (m : Nat) (a : (Int × List Pl)) (r : (List Pl)), loopN (Dlaws_toPlaneS_0 n t0) m a = some r → Wk Tryd.prog H YS 7 [.code (cp [1, 1, 0, 1, 0] (bodyOf Tryd.f7)), .blk 0, .code (cp [1, 1, 1] (bodyOf Tryd.f7))] (FinX Tryd.prog Tryd.f7 [] (.sl true 4 r.length ((ePl).f r)) []) ⟨[(0, .sl false 4 t0.length ((ePl).f t0)), (3, .msl 7 a.2.length), (4, i64 a.1)], [(7, ⟨true, 4, (ePl).f a.2⟩)]⟩ := by
  refine loopN_ind (fun _rec0 hrec0 a r h => ?_)
  obtain ⟨t4, l7⟩ := a
  unfold Dlaws_toPlaneS_0 at h
  refine x_frk 9 [] onil h (by kernel_rfl) (fun h => ?_) (fun h => ?_)
  · obtain ⟨v1, hv1, h⟩ := bind_some h
    obtain ⟨v2, hv2, h⟩ := bind_some h
    obtain ⟨_v3, hv3, h⟩ := bind_some h
    exact x_to 23 [(4, .val (.cptr (ePl.c v1 ++ (ePl).f ((t0).drop (Int.toNat t4 + 1))))), (1, .call [] [] (.agg [i64 v2.A, i64 v2.B, i64 v2.C, i64 v2.D]) []), (0, .unit), (0, .cells ((ePl).f (l7.set (Int.toNat t4) v2))), (0, .fix 3 (.msl 7 (l7.set (Int.toNat t4) v2).length)), (0, .fix 14 (.msl 7 (l7.set (Int.toNat t4) v2).length))] (ocons (ix ePl hv1) (ocons (Tlaws_toPlane v1 _ hv2) (ocons (inr hv3) (ocons (stA ePl hv3 0 4 [i64 v2.A, i64 v2.B, i64 v2.C, i64 v2.D] v2 rfl rfl) (ocons (setLen 7 l7 (Int.toNat t4) v2) (ocons (setLen 7 l7 (Int.toNat t4) v2) onil)))))) (hrec0 (w64 (t4 + 1), (l7.set (Int.toNat t4) v2)) r h) (by kernel_rfl)
  · replace h := Option.some.inj h; subst h
    exact x_end 6 [] [] onil (ocons (len_row (L := l7) ePl) onil) (by kernel_rfl)
def Dlaws_toPlaneS (n : Nat) (a0 : (List Pl)) : Option (List Pl) :=
  chk (mkB (a0.length : Int) 32) (loopN (Dlaws_toPlaneS_0 n a0) n (0, (List.replicate (Int.toNat (a0.length : Int)) (Pl.mk 0 0 0 0))))
theorem Tlaws_toPlaneS (n : Nat) (a0 : (List Pl)) (r : (List Pl)) (h : Dlaws_toPlaneS n a0 = some r) : Big Tryd.prog H YS (.call 7 [.sl false 4 a0.length ((ePl).f a0)] (lk []) (.sl true 4 r.length ((ePl).f r)) (lk [])) := by
  unfold Dlaws_toPlaneS at h
  refine x_call (fn := Tryd.f7) (c := bodyOf Tryd.f7) (bs0 := []) Tryd.func7 (by kernel_rfl) (by kernel_rfl) ?_
  obtain ⟨c0, h⟩ := chk_some h
  exact x_to 17 [(3, .mk (List.replicate (Int.toNat (a0.length : Int)) (Pl.mk 0 0 0 0)).length ((ePl).f (List.replicate (Int.toNat (a0.length : Int)) (Pl.mk 0 0 0 0))))] (ocons (rflI (a0.length : Int)) (ocons (mkOk ePl c0 (Pl.mk 0 0 0 0) rfl) onil)) (Tlaws_toPlaneS_0 n a0 n (0, (List.replicate (Int.toNat (a0.length : Int)) (Pl.mk 0 0 0 0))) r h) (by kernel_rfl)
/-! spec.l6Right -/
def Dspec_l6Right_0 (n : Nat) (t0 : List Pl) (rec0 : Int → Option Bool) (a : Int) : Option Bool :=
  match a with
  | t3 => frk (decide (t3 < (t0.length : Int))) ((lget t0 t3).bind fun v0 => (Dspec_PlaneOk n v0).bind fun v1 => frk (!v1) (some false) (rec0 (w64 (t3 + 1)))) (some (decide ((t0.length : Int) ≤ 24)))
theorem Tspec_l6Right_0 (n : Nat) (t0 : List Pl) : ∀ (m : Nat) (a : Int) (r : Bool), loopN (Dspec_l6Right_0 n t0) m a = some r → Wk Tryd.prog H YS 15 [.code (cp [1, 0, 1, 0] (bodyOf Tryd.f15)), .blk 0, .code (cp [1, 1] (bodyOf Tryd.f15))] (FinX Tryd.prog Tryd.f15 [] (bl r) []) ⟨[(0, .sl false 4 t0.length ((ePl).f t0)), (3, i64 a)], []⟩ := by
  refine loopN_ind (fun _rec0 hrec0 a r h => ?_)
  obtain ⟨t3, rfl⟩ : ∃ x, x = a := ⟨a, rfl⟩
  unfold Dspec_l6Right_0 at h
  refine x_frk 9 [] onil h (by kernel_rfl) (fun h => ?_) (fun h => ?_)
  · obtain ⟨v0, hv0, h⟩ := bind_some h
    obtain ⟨v1, hv1, h⟩ := bind_some h
    refine x_frk 12 [(2, .val (.cptr (ePl.c v0 ++ (ePl).f ((t0).drop (Int.toNat t3 + 1))))), (1, .call [] [] (bl v1) [])] (ocons (ix ePl hv0) (ocons (Tspec_PlaneOk n v0 _ hv1) onil)) h (by kernel_rfl) (fun h => ?_) (fun h => ?_)
    · replace h := Option.some.inj h; subst h
      exact x_end 4 [] [] onil onil (by kernel_rfl)
    · exact x_to 8 [] onil (hrec0 (w64 (t3 + 1)) r h) (by kernel_rfl)
  · replace h := Option.some.inj h; subst h
    exact x_end 8 [] [] onil onil (by kernel_rfl)
def Dspec_l6Right (n : Nat) (a0 : (List Pl)) : Option Bool :=
  loopN (Dspec_l6Right_0 n a0) n 0
theorem Tspec_l6Right (n : Nat) (a0 : (List Pl)) (r : Bool) (h : Dspec_l6Right n a0 = some r) : Big Tryd.prog H YS (.call 15 [.sl false 4 a0.length ((ePl).f a0)] (lk []) (bl r) (lk [])) := by
  unfold Dspec_l6Right at h
  refine x_call (fn := Tryd.f15) (c := bodyOf Tryd.f15) (bs0 := []) Tryd.func15 (by kernel_rfl) (by kernel_rfl) ?_
  exact x_to 10 [] onil (Tspec_l6Right_0 n a0 n 0 r h) (by kernel_rfl)
/-! spec.PathText -/
def Dspec_PathText_0 (n : Nat) (rec0 : (ByteArray × Int) → Option ByteArray) (t0 : List Pl) (t3 : ByteArray) (t4 : Int) : Option ByteArray :=
  (lget t0 t4).bind fun v2 => (Dspec_PlaneText n v2).bind fun v3 => (scat t3 v3).bind fun v4 => rec0 (v4, w64 (t4 + 1))
theorem Tspec_PathText_0 (n : Nat) (rec0 : (ByteArray × Int) → Option ByteArray) (t0 : List Pl) (hrec0 : ∀ (a : (ByteArray × Int)) (r : ByteArray), rec0 a = some r → Wk Tryd.prog H YS 6 [.code (cp [1, 1, 1, 0, 1, 0] (bodyOf Tryd.f6)), .blk 0, .code (cp [1, 1, 1, 1] (bodyOf Tryd.f6))] (FinX Tryd.prog Tryd.f6 [] (.lit (.string r)) []) ⟨[(0, .sl false 4 t0.length ((ePl).f t0)), (3, .lit (.string a.1)), (4, i64 a.2)], []⟩) (t3 : ByteArray) (t4 : Int) (r : ByteArray) (h : Dspec_PathText_0 n rec0 t0 t3 t4 = some r) : Wk Tryd.prog H YS 6 [.code (cp [1, 1, 1, 0, 1, 0, 0, 1, 0, 0, 1] (bodyOf Tryd.f6)), .blk 1, .code (cp [1, 1, 1, 0, 1, 0, 0, 1, 1] (bodyOf Tryd.f6)), .lp (cp [1, 1, 1, 0, 1, 0] (bodyOf Tryd.f6)), .blk 0, .code (cp [1, 1, 1, 1] (bodyOf Tryd.f6))] (FinX Tryd.prog Tryd.f6 [] (.lit (.string r)) []) ⟨[(0, .sl false 4 t0.length ((ePl).f t0)), (3, .lit (.string t3)), (4, i64 t4)], []⟩ := by
  unfold Dspec_PathText_0 at h
  obtain ⟨v2, hv2, h⟩ := bind_some h
  obtain ⟨v3, hv3, h⟩ := bind_some h
  obtain ⟨v4, hv4, h⟩ := bind_some h
  exact x_to 17 [(3, .val (.cptr (ePl.c v2 ++ (ePl).f ((t0).drop (Int.toNat t4 + 1))))), (1, .call [] [] (.lit (.string v3)) []), (0, .val (.lit (.string v4)))] (ocons (ix ePl hv2) (ocons (Tspec_PlaneText n v2 _ hv3) (ocons (catOk hv4) onil))) (hrec0 (v4, w64 (t4 + 1)) r h) (by kernel_rfl)
def Dspec_PathText_1 (n : Nat) (t0 : List Pl) (rec0 : (ByteArray × Int) → Option ByteArray) (a : (ByteArray × Int)) : Option ByteArray :=
  match a with
  | (t3, t4) => frk (decide (t4 < (t0.length : Int))) (frk (decide (t4 > 0)) ((scat t3 (ByteArray.mk #[44, 32])).bind fun v1 => Dspec_PathText_0 n rec0 t0 v1 t4) (Dspec_PathText_0 n rec0 t0 t3 t4)) (some t3)
theorem Tspec_PathText_1 (n : Nat) (t0 : List Pl) : ∀ (m : Nat) (a : (ByteArray × Int)) (r : ByteArray), loopN (Dspec_PathText_1 n t0) m a = some r → Wk Tryd.prog H YS 6 [.code (cp [1, 1, 1, 0, 1, 0] (bodyOf Tryd.f6)), .blk 0, .code (cp [1, 1, 1, 1] (bodyOf Tryd.f6))] (FinX Tryd.prog Tryd.f6 [] (.lit (.string r)) []) ⟨[(0, .sl false 4 t0.length ((ePl).f t0)), (3, .lit (.string a.1)), (4, i64 a.2)], []⟩ := by
  refine loopN_ind (fun rec0 hrec0 a r h => ?_)
  obtain ⟨t3, t4⟩ := a
  unfold Dspec_PathText_1 at h
  refine x_frk 9 [] onil h (by kernel_rfl) (fun h => ?_) (fun h => ?_)
  · refine x_frk 9 [] onil h (by kernel_rfl) (fun h => ?_) (fun h => ?_)
    · obtain ⟨v1, hv1, h⟩ := bind_some h
      exact x_to 5 [(1, .val (.lit (.string v1)))] (ocons (catOk hv1) onil) (Tspec_PathText_0 n rec0 t0 hrec0 v1 t4 r h) (by kernel_rfl)
    · exact x_to 1 [] onil (Tspec_PathText_0 n rec0 t0 hrec0 t3 t4 r h) (by kernel_rfl)
  · replace h := Option.some.inj h; subst h
    exact x_end 6 [] [] onil onil (by kernel_rfl)
def Dspec_PathText (n : Nat) (a0 : (List Pl)) : Option ByteArray :=
  (Dspec_l6Right n a0).bind fun v0 => frk (!v0) (some (ByteArray.mk #[])) (loopN (Dspec_PathText_1 n a0) n ((ByteArray.mk #[]), 0))
theorem Tspec_PathText (n : Nat) (a0 : (List Pl)) (r : ByteArray) (h : Dspec_PathText n a0 = some r) : Big Tryd.prog H YS (.call 6 [.sl false 4 a0.length ((ePl).f a0)] (lk []) (.lit (.string r)) (lk [])) := by
  unfold Dspec_PathText at h
  refine x_call (fn := Tryd.f6) (c := bodyOf Tryd.f6) (bs0 := []) Tryd.func6 (by kernel_rfl) (by kernel_rfl) ?_
  obtain ⟨v0, hv0, h⟩ := bind_some h
  refine x_frk 15 [(3, .call [] [] (bl v0) [])] (ocons (Tspec_l6Right n a0 _ hv0) onil) h (by kernel_rfl) (fun h => ?_) (fun h => ?_)
  · replace h := Option.some.inj h; subst h
    exact x_end 5 [] [] onil onil (by kernel_rfl)
  · exact x_to 7 [] onil (Tspec_PathText_1 n a0 n ((ByteArray.mk #[]), 0) r h) (by kernel_rfl)
/-! impl.planesOk -/
def Dimpl_planesOk_0 (n : Nat) (t5 : List Pl) (t6 : Int) (rec0 : Int → Option Bool) (a : Int) : Option Bool :=
  match a with
  | t7 => frk (decide (t7 < t6)) ((lget t5 t7).bind fun v0 => (Dimpl_PlaneOk n v0).bind fun v1 => frk (!v1) (some false) (rec0 (w64 (t7 + 1)))) (some true)
theorem Timpl_planesOk_0 (n : Nat) (t5 : List Pl) (t6 : Int) : ∀ (m : Nat) (a : Int) (r : Bool), loopN (Dimpl_planesOk_0 n t5 t6) m a = some r → Wk Tryd.prog H YS 18 [.code (cp [1, 0, 1, 0] (bodyOf Tryd.f18)), .blk 0, .code (cp [1, 1] (bodyOf Tryd.f18))] (FinX Tryd.prog Tryd.f18 [] (bl r) []) ⟨[(5, .sl false 4 t5.length ((ePl).f t5)), (6, i64 t6), (7, i64 a)], []⟩ := by
  refine loopN_ind (fun _rec0 hrec0 a r h => ?_)
  obtain ⟨t7, rfl⟩ : ∃ x, x = a := ⟨a, rfl⟩
  unfold Dimpl_planesOk_0 at h
  refine x_frk 6 [] onil h (by kernel_rfl) (fun h => ?_) (fun h => ?_)
  · obtain ⟨v0, hv0, h⟩ := bind_some h
    obtain ⟨v1, hv1, h⟩ := bind_some h
    refine x_frk 16 [(0, .val (.cptr (ePl.c v0 ++ (ePl).f ((t5).drop (Int.toNat t7 + 1))))), (4, .call [] [] (bl v1) [])] (ocons (ix ePl hv0) (ocons (Timpl_PlaneOk n v0 _ hv1) onil)) h (by kernel_rfl) (fun h => ?_) (fun h => ?_)
    · replace h := Option.some.inj h; subst h
      exact x_end 4 [] [] onil onil (by kernel_rfl)
    · exact x_to 7 [] onil (hrec0 (w64 (t7 + 1)) r h) (by kernel_rfl)
  · replace h := Option.some.inj h; subst h
    exact x_end 5 [] [] onil onil (by kernel_rfl)
def Dimpl_planesOk (n : Nat) (a0 : (List Pl)) : Option Bool :=
  loopN (Dimpl_planesOk_0 n a0 (a0.length : Int)) n 0
theorem Timpl_planesOk (n : Nat) (a0 : (List Pl)) (r : Bool) (h : Dimpl_planesOk n a0 = some r) : Big Tryd.prog H YS (.call 18 [.sl false 4 a0.length ((ePl).f a0)] (lk []) (bl r) (lk [])) := by
  unfold Dimpl_planesOk at h
  refine x_call (fn := Tryd.f18) (c := bodyOf Tryd.f18) (bs0 := []) Tryd.func18 (by kernel_rfl) (by kernel_rfl) ?_
  exact x_to 12 [] onil (Timpl_planesOk_0 n a0 (a0.length : Int) n 0 r h) (by kernel_rfl)
/-! impl.PathText -/
def Dimpl_PathText_1 (_n : Nat) (l503 : List ByteArray) : Option ByteArray :=
  (DJoin l503 (ByteArray.mk #[44, 32])).bind fun v4 => some v4
theorem Timpl_PathText_1 (n : Nat) (l503 : List ByteArray) (r : ByteArray) (h : Dimpl_PathText_1 n l503 = some r) : Wk Tryd.prog H YS 8 [.code (cp [1, 1, 1, 1, 0] (bodyOf Tryd.f8)), .code (cp [1, 1, 1, 1, 1] (bodyOf Tryd.f8))] (FinX Tryd.prog Tryd.f8 [] (.lit (.string r)) []) ⟨[(3, .msl 503 l503.length)], [(503, ⟨true, 1, (eStr).f l503⟩)]⟩ := by
  unfold Dimpl_PathText_1 at h
  obtain ⟨v4, hv4, h⟩ := bind_some h
  replace h := Option.some.inj h; subst h
  exact x_end 5 [(1, .call [] [(eStr).f l503] (.lit (.string v4)) [])] [] (ocons (Tjoin l503 (ByteArray.mk #[44, 32]) _ hv4) (ocons (len_row (L := l503) eStr) (ocons (Enc.share eStr eStr sStr l503) onil))) onil (by kernel_rfl)
def Dimpl_PathText_2 (n : Nat) (t14 : List Pl) (t15 : Int) (rec0 : (Int × List ByteArray) → Option ByteArray) (a : (Int × List ByteArray)) : Option ByteArray :=
  match a with
  | (t16, l503) => frk (decide (t16 < t15)) ((lget t14 t16).bind fun v1 => (Dimpl_PlaneText n v1).bind fun v2 => chk (apB 16 (l503.length + 1)) (rec0 (w64 (t16 + 1), (l503 ++ [v2])))) (Dimpl_PathText_1 n l503)
theorem Timpl_PathText_2 (n : Nat) (t14 : List Pl) (t15 : Int) : ∀ (m : Nat) (a : (Int × List ByteArray)) (r : ByteArray), loopN (Dimpl_PathText_2 n t14 t15) m a = some r → Wk Tryd.prog H YS 8 [.code (cp [1, 1, 1, 0, 1, 0] (bodyOf Tryd.f8)), .blk 0, .code (cp [1, 1, 1, 1] (bodyOf Tryd.f8))] (FinX Tryd.prog Tryd.f8 [] (.lit (.string r)) []) ⟨[(3, .msl 503 a.2.length), (14, .sl false 4 t14.length ((ePl).f t14)), (15, i64 t15), (16, i64 a.1)], [(503, ⟨true, 1, (eStr).f a.2⟩)]⟩ := by
  refine loopN_ind (fun _rec0 hrec0 a r h => ?_)
  obtain ⟨t16, l503⟩ := a
  unfold Dimpl_PathText_2 at h
  refine x_frk 6 [] onil h (by kernel_rfl) (fun h => ?_) (fun h => ?_)
  · obtain ⟨v1, hv1, h⟩ := bind_some h
    obtain ⟨v2, hv2, h⟩ := bind_some h
    obtain ⟨c3, h⟩ := chk_some h
    exact x_to 25 [(0, .val (.cptr (ePl.c v1 ++ (ePl).f ((t14).drop (Int.toNat t16 + 1))))), (5, .call [] [] (.lit (.string v2)) []), (1, .app false (List.length (l503 ++ [v2])) ((eStr).f (l503 ++ [v2]))), (3, .ren 24 503)] (ocons (ix ePl hv1) (ocons (Timpl_PlaneText n v1 _ hv2) (ocons (len_row' (L := l503) eStr) (ocons (app_one (L := l503) (M := [v2]) eStr c3) (ocons (app_new (L := l503) (M := [v2]) eStr) (ocons (app_m (L := l503) (M := [v2]) eStr rfl) (ocons (len_row' (L := [v2]) eStr) (ocons (Enc.noOwn eStr (fun _ => rfl) [v2]) (ocons (show 24 < 1000 ∧ 503 < 1000 by decide) onil))))))))) (hrec0 (w64 (t16 + 1), (l503 ++ [v2])) r h) (by kernel_rfl)
  · exact x_to 2 [] onil (Timpl_PathText_1 n l503 r h) (by kernel_rfl)
def Dimpl_PathText_0 (n : Nat) (t0 : List Pl) (t13 : Bool) : Option ByteArray :=
  frk t13 (some (ByteArray.mk #[])) (loopN (Dimpl_PathText_2 n t0 (t0.length : Int)) n (0, []))
theorem Timpl_PathText_0 (n : Nat) (t0 : List Pl) (t13 : Bool) (r : ByteArray) (h : Dimpl_PathText_0 n t0 t13 = some r) : Wk Tryd.prog H YS 8 [.code (cp [1, 0, 1] (bodyOf Tryd.f8)), .code (cp [1, 1] (bodyOf Tryd.f8))] (FinX Tryd.prog Tryd.f8 [] (.lit (.string r)) []) ⟨[(0, .sl false 4 t0.length ((ePl).f t0)), (13, bl t13)], []⟩ := by
  unfold Dimpl_PathText_0 at h
  refine x_frk 0 [] onil h (by kernel_rfl) (fun h => ?_) (fun h => ?_)
  · replace h := Option.some.inj h; subst h
    exact x_end 4 [] [] onil onil (by kernel_rfl)
  · exact x_to 14 [(1, .virt 3 503 1)] (ocons (rflV .nil) (ocons (show 503 < 1000 ∧ 1 ≠ 0 by decide) onil)) (Timpl_PathText_2 n t0 (t0.length : Int) n (0, []) r h) (by kernel_rfl)
def Dimpl_PathText (n : Nat) (a0 : (List Pl)) : Option ByteArray :=
  frk (decide ((a0.length : Int) > 24)) (some (ByteArray.mk #[])) ((Dimpl_planesOk n a0).bind fun v0 => Dimpl_PathText_0 n a0 (!v0))
theorem Timpl_PathText (n : Nat) (a0 : (List Pl)) (r : ByteArray) (h : Dimpl_PathText n a0 = some r) : Big Tryd.prog H YS (.call 8 [.sl false 4 a0.length ((ePl).f a0)] (lk []) (.lit (.string r)) (lk [])) := by
  unfold Dimpl_PathText at h
  refine x_call (fn := Tryd.f8) (c := bodyOf Tryd.f8) (bs0 := []) Tryd.func8 (by kernel_rfl) (by kernel_rfl) ?_
  refine x_frk 11 [] onil h (by kernel_rfl) (fun h => ?_) (fun h => ?_)
  · replace h := Option.some.inj h; subst h
    exact x_end 10 [] [] onil onil (by kernel_rfl)
  · obtain ⟨v0, hv0, h⟩ := bind_some h
    exact x_to 5 [(1, .call [] [] (bl v0) [])] (ocons (Timpl_planesOk n a0 _ hv0) onil) (Timpl_PathText_0 n a0 (!v0) r h) (by kernel_rfl)
/-! laws.eqPlaneS -/
def Dlaws_eqPlaneS_0 (_n : Nat) (t0 : List Pl) (t1 : List Pl) (rec0 : Int → Option Bool) (a : Int) : Option Bool :=
  match a with
  | t5 => frk (decide (t5 < (t0.length : Int))) ((lget t0 t5).bind fun v0 => (lget t1 t5).bind fun v1 => (Dlaws_eqPlane v0 v1).bind fun v2 => frk (!v2) (some false) (rec0 (w64 (t5 + 1)))) (some true)
theorem Tlaws_eqPlaneS_0 (n : Nat) (t0 : List Pl) (t1 : List Pl) : ∀ (m : Nat) (a : Int) (r : Bool), loopN (Dlaws_eqPlaneS_0 n t0 t1) m a = some r → Wk Tryd.prog H YS 9 [.code (cp [1, 1, 0, 1, 0] (bodyOf Tryd.f9)), .blk 0, .code (cp [1, 1, 1] (bodyOf Tryd.f9))] (FinX Tryd.prog Tryd.f9 [] (bl r) []) ⟨[(0, .sl false 4 t0.length ((ePl).f t0)), (1, .sl false 4 t1.length ((ePl).f t1)), (5, i64 a)], []⟩ := by
  refine loopN_ind (fun _rec0 hrec0 a r h => ?_)
  obtain ⟨t5, rfl⟩ : ∃ x, x = a := ⟨a, rfl⟩
  unfold Dlaws_eqPlaneS_0 at h
  refine x_frk 9 [] onil h (by kernel_rfl) (fun h => ?_) (fun h => ?_)
  · obtain ⟨v0, hv0, h⟩ := bind_some h
    obtain ⟨v1, hv1, h⟩ := bind_some h
    obtain ⟨v2, hv2, h⟩ := bind_some h
    refine x_frk 16 [(2, .val (.cptr (ePl.c v0 ++ (ePl).f ((t0).drop (Int.toNat t5 + 1))))), (3, .val (.cptr (ePl.c v1 ++ (ePl).f ((t1).drop (Int.toNat t5 + 1))))), (1, .call [] [] (bl v2) [])] (ocons (ix ePl hv0) (ocons (ix ePl hv1) (ocons (Tlaws_eqPlane v0 v1 _ hv2) onil))) h (by kernel_rfl) (fun h => ?_) (fun h => ?_)
    · replace h := Option.some.inj h; subst h
      exact x_end 4 [] [] onil onil (by kernel_rfl)
    · exact x_to 8 [] onil (hrec0 (w64 (t5 + 1)) r h) (by kernel_rfl)
  · replace h := Option.some.inj h; subst h
    exact x_end 5 [] [] onil onil (by kernel_rfl)
def Dlaws_eqPlaneS (n : Nat) (a0 : (List Pl)) (a1 : (List Pl)) : Option Bool :=
  frk ((a0.length : Int) != (a1.length : Int)) (some false) (loopN (Dlaws_eqPlaneS_0 n a0 a1) n 0)
theorem Tlaws_eqPlaneS (n : Nat) (a0 : (List Pl)) (a1 : (List Pl)) (r : Bool) (h : Dlaws_eqPlaneS n a0 a1 = some r) : Big Tryd.prog H YS (.call 9 [.sl false 4 a0.length ((ePl).f a0), .sl false 4 a1.length ((ePl).f a1)] (lk []) (bl r) (lk [])) := by
  unfold Dlaws_eqPlaneS at h
  refine x_call (fn := Tryd.f9) (c := bodyOf Tryd.f9) (bs0 := []) Tryd.func9 (by kernel_rfl) (by kernel_rfl) ?_
  refine x_frk 13 [] onil h (by kernel_rfl) (fun h => ?_) (fun h => ?_)
  · replace h := Option.some.inj h; subst h
    exact x_end 4 [] [] onil onil (by kernel_rfl)
  · exact x_to 7 [] onil (Tlaws_eqPlaneS_0 n a0 a1 n 0 r h) (by kernel_rfl)
/-! laws.FnExactPathText -/
def Dlaws_FnExactPathText (n : Nat) (a0 : (List Pl)) : Option Bool :=
  (Dlaws_szPlaneS a0 1048576).bind fun v0 => frk (decide (v0 < 0)) (some true) ((Dlaws_toPlaneS n a0).bind fun v1 => (Dspec_PathText n v1).bind fun v2 => (Dlaws_toPlaneS n a0).bind fun v3 => (Dimpl_PathText n v3).bind fun v4 => frk (!(v4.toList == v2.toList)) (some false) ((Dlaws_toPlaneS n a0).bind fun v5 => (Dlaws_eqPlaneS n v3 v5).bind fun v6 => frk (!v6) (some false) (some true)))
theorem Tlaws_FnExactPathText (n : Nat) (a0 : (List Pl)) (r : Bool) (h : Dlaws_FnExactPathText n a0 = some r) : Big Tryd.prog H YS (.call 3 [.sl false 4 a0.length ((ePl).f a0)] (lk []) (bl r) (lk [])) := by
  unfold Dlaws_FnExactPathText at h
  refine x_call (fn := Tryd.f3) (c := bodyOf Tryd.f3) (bs0 := []) Tryd.func3 (by kernel_rfl) (by kernel_rfl) ?_
  obtain ⟨v0, hv0, h⟩ := bind_some h
  refine x_frk 21 [(4, .call [] [] (i64 v0) [])] (ocons (Tlaws_szPlaneS a0 1048576 _ hv0) onil) h (by kernel_rfl) (fun h => ?_) (fun h => ?_)
  · replace h := Option.some.inj h; subst h
    exact x_end 4 [] [] onil onil (by kernel_rfl)
  · obtain ⟨v1, hv1, h⟩ := bind_some h
    obtain ⟨v2, hv2, h⟩ := bind_some h
    obtain ⟨v3, hv3, h⟩ := bind_some h
    obtain ⟨v4, hv4, h⟩ := bind_some h
    refine x_frk 27 [(1, .call [] [] (.sl false 4 v1.length ((ePl).f v1)) []), (0, .call [] [] (.lit (.string v2)) []), (2, .call [] [] (.sl false 4 v3.length ((ePl).f v3)) []), (2, .call [] [] (.lit (.string v4)) [])] (ocons (shSl (L := v1) ePl ePl sPl (Tlaws_toPlaneS n a0 _ hv1)) (ocons (Tspec_PathText n v1 _ hv2) (ocons (shSl (L := v3) ePl ePl sPl (Tlaws_toPlaneS n a0 _ hv3)) (ocons (Timpl_PathText n v3 _ hv4) onil)))) h (by kernel_rfl) (fun h => ?_) (fun h => ?_)
    · replace h := Option.some.inj h; subst h
      exact x_end 4 [] [] onil onil (by kernel_rfl)
    · obtain ⟨v5, hv5, h⟩ := bind_some h
      obtain ⟨v6, hv6, h⟩ := bind_some h
      refine x_frk 10 [(2, .call [] [] (.sl false 4 v5.length ((ePl).f v5)) []), (0, .call [] [] (bl v6) [])] (ocons (shSl (L := v5) ePl ePl sPl (Tlaws_toPlaneS n a0 _ hv5)) (ocons (Tlaws_eqPlaneS n v3 v5 _ hv6) onil)) h (by kernel_rfl) (fun h => ?_) (fun h => ?_)
      · replace h := Option.some.inj h; subst h
        exact x_end 4 [] [] onil onil (by kernel_rfl)
      · replace h := Option.some.inj h; subst h
        exact x_end 5 [] [] onil onil (by kernel_rfl)
end Evl.T
