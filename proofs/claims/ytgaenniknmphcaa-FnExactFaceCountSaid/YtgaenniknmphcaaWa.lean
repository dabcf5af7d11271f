/- Walks. No condition. -/
import Derived.Test.YtgaenniknmphcaaJm
import Derived.Test.YtgaenniknmphcaaWs
import Derived.Test.YtgaenniknmphcaaChecked
namespace Evl.T
open Go Evl Go.Proofs
set_option maxRecDepth 100000
def HF : FuncId → Bool := fun f => [43].contains f
def HB : Hints := { mv := hasP [], own := hasP [(60, 1), (76, 0)], mt := hasP [(54, 0)], eqt := fun t => [31, 80, 121].contains t, fl := fun f => [43].contains f }
def H : Hints := withMarks HB Try.prog HF fun _ _ => True
theorem mixW : Try.prog.follows .mixedOrders = true := by decide +kernel
theorem eqW : EqtOk Try.prog H := eqt_of fun t ht => by
  have h : [31, 80, 121].contains t = true := ht
  have : t = 31 ∨ t = 80 ∨ t = 121 := by simpa using h
  rcases this with rfl | rfl | rfl
  · exact .inl ⟨by kernel_rfl, by kernel_rfl, by kernel_rfl, by kernel_rfl, by kernel_rfl⟩
  · exact .inl ⟨by kernel_rfl, by kernel_rfl, by kernel_rfl, by kernel_rfl, by kernel_rfl⟩
  · exact .inr ⟨⟨3, 3, (Try.prog.info? 3).get (by kernel_rfl), by kernel_rfl, (Option.some_get _).symm, by kernel_rfl, by kernel_rfl, by kernel_rfl, by kernel_rfl⟩, by kernel_rfl⟩
/-! laws.szPlaneS -/
def Dlaws_szPlaneS (a0 : (List Pl)) (a1 : Int) : Option Int :=
  frk (decide ((w64 (a1 - (a0.length : Int))) < 0)) (some (-1)) (some (w64 (a1 - (a0.length : Int))))
theorem Tlaws_szPlaneS {Y} (a0 : (List Pl)) (a1 r : Int) (h : Dlaws_szPlaneS a0 a1 = some r) : Big Try.prog H Y (.call 14 [.sl false 4 a0.length ((ePl).f a0), i64 a1] (lk []) (i64 r) (lk [])) := by
  unfold Dlaws_szPlaneS at h
  refine x_call (fn := Try.f14) (c := bodyOf Try.f14) (bs0 := []) Try.func14 (by kernel_rfl) (by kernel_rfl) ?_
  refine x_frk 18 [] onil h (by kernel_rfl) (fun h => ?_) (fun h => ?_)
  · replace h := Option.some.inj h; subst h
    exact x_end 4 [] [] onil onil (by kernel_rfl)
  · replace h := Option.some.inj h; subst h
    exact x_end 6 [] [] onil onil (by kernel_rfl)
/-! laws.toPlane -/
def Dlaws_toPlane (a0 : Pl) : Option Pl :=
  some a0
theorem Tlaws_toPlane {Y} (a0 : Pl) (r : Pl) (h : Dlaws_toPlane a0 = some r) : Big Try.prog H Y (.call 24 [.agg [i64 a0.A, i64 a0.B, i64 a0.C, i64 a0.D]] (lk []) (.agg [i64 r.A, i64 r.B, i64 r.C, i64 r.D]) (lk [])) := by
  unfold Dlaws_toPlane at h
  refine x_call (fn := Try.f24) (c := bodyOf Try.f24) (bs0 := []) Try.func24 (by kernel_rfl) (by kernel_rfl) ?_
  replace h := Option.some.inj h; subst h
  exact x_end 42 [] [] onil onil (by kernel_rfl)
/-! laws.toPlaneS -/
def Dlaws_toPlaneS_0 (_n : Nat) (t0 : List Pl) (rec0 : (Int × List Pl) → Option (List Pl)) (a : (Int × List Pl)) : Option (List Pl) :=
  match a with
  | (t4, l7) => frk (decide (t4 < (t0.length : Int))) ((lget t0 t4).bind fun v1 => (Dlaws_toPlane v1).bind fun v2 => (lget l7 t4).bind fun _v3 => rec0 (w64 (t4 + 1), (l7.set (Int.toNat t4) v2))) (some l7)
theorem Tlaws_toPlaneS_0 {Y} (n : Nat) (t0 : List Pl) : ∀ (m : Nat) (a : (Int × List Pl)) (r : (List Pl)), loopN (Dlaws_toPlaneS_0 n t0) m a = some r → Wk Try.prog H Y 16 [.code (cp [1, 1, 0, 1, 0] (bodyOf Try.f16)), .blk 0, .code (cp [1, 1, 1] (bodyOf Try.f16))] (FinX Try.prog Try.f16 [] (.sl true 4 r.length ((ePl).f r)) []) ⟨[(0, .sl false 4 t0.length ((ePl).f t0)), (3, .msl 7 a.2.length), (4, i64 a.1)], [(7, ⟨true, 4, (ePl).f a.2⟩)]⟩ := by
  refine loopN_ind (fun _rec0 hrec0 a r h => ?_)
  obtain ⟨t4, l7⟩ := a
  unfold Dlaws_toPlaneS_0 at h
  refine x_frk 9 [] onil h (by kernel_rfl) (fun h => ?_) (fun h => ?_)
  · obtain ⟨v1, hv1, h⟩ := bind_some h
    obtain ⟨v2, hv2, h⟩ := bind_some h
    obtain ⟨_v3, hv3, h⟩ := bind_some h
    exact x_to 23 [(4, .val (.cptr (ePl.c v1 ++ (ePl).f ((t0).drop (Int.toNat t4 + 1))))), (1, .call [] [] (.agg [i64 v2.A, i64 v2.B, i64 v2.C, i64 v2.D]) []), (0, .unit), (0, .cells ((ePl).f (l7.set (Int.toNat t4) v2))), (0, .fix 3 (.msl 7 (l7.set (Int.toNat t4) v2).length)), (0, .fix 14 (.msl 7 (l7.set (Int.toNat t4) v2).length))] (ocons (ix ePl hv1) (ocons (Tlaws_toPlane (Y := Y) v1 _ hv2) (ocons (inr hv3) (ocons (stA ePl hv3 0 4 [i64 v2.A, i64 v2.B, i64 v2.C, i64 v2.D] v2 rfl rfl) (ocons (setLen 7 l7 (Int.toNat t4) v2) (ocons (setLen 7 l7 (Int.toNat t4) v2) onil)))))) (hrec0 (w64 (t4 + 1), (l7.set (Int.toNat t4) v2)) r h) (by kernel_rfl)
  · replace h := Option.some.inj h; subst h
    exact x_end 6 [] [] onil (ocons (len_row (L := l7) ePl) onil) (by kernel_rfl)
def Dlaws_toPlaneS (n : Nat) (a0 : (List Pl)) : Option (List Pl) :=
  chk (mkB (a0.length : Int) 32) (loopN (Dlaws_toPlaneS_0 n a0) n (0, (List.replicate (Int.toNat (a0.length : Int)) (Pl.mk 0 0 0 0))))
theorem Tlaws_toPlaneS {Y} (n : Nat) (a0 : (List Pl)) (r : (List Pl)) (h : Dlaws_toPlaneS n a0 = some r) : Big Try.prog H Y (.call 16 [.sl false 4 a0.length ((ePl).f a0)] (lk []) (.sl true 4 r.length ((ePl).f r)) (lk [])) := by
  unfold Dlaws_toPlaneS at h
  refine x_call (fn := Try.f16) (c := bodyOf Try.f16) (bs0 := []) Try.func16 (by kernel_rfl) (by kernel_rfl) ?_
  obtain ⟨c0, h⟩ := chk_some h
  exact x_to 17 [(3, .mk (List.replicate (Int.toNat (a0.length : Int)) (Pl.mk 0 0 0 0)).length ((ePl).f (List.replicate (Int.toNat (a0.length : Int)) (Pl.mk 0 0 0 0))))] (ocons (rflI (a0.length : Int)) (ocons (mkOk ePl c0 (Pl.mk 0 0 0 0) rfl) onil)) (Tlaws_toPlaneS_0 n a0 n (0, (List.replicate (Int.toNat (a0.length : Int)) (Pl.mk 0 0 0 0))) r h) (by kernel_rfl)
/-! spec.l1In -/
def Dspec_l1In (a0 a1 a2 : Int) : Option Bool :=
  frk (decide (a0 ≥ a1)) (some (decide (a0 ≤ a2))) (some false)
theorem Tspec_l1In {Y} (a0 a1 a2 : Int) (r : Bool) (h : Dspec_l1In a0 a1 a2 = some r) : Big Try.prog H Y (.call 48 [i64 a0, i64 a1, i64 a2] (lk []) (bl r) (lk [])) := by
  unfold Dspec_l1In at h
  refine x_call (fn := Try.f48) (c := bodyOf Try.f48) (bs0 := []) Try.func48 (by kernel_rfl) (by kernel_rfl) ?_
  refine x_frk 10 [] onil h (by kernel_rfl) (fun h => ?_) (fun h => ?_)
  · replace h := Option.some.inj h; subst h
    exact x_end 6 [] [] onil onil (by kernel_rfl)
  · replace h := Option.some.inj h; subst h
    exact x_end 6 [] [] onil onil (by kernel_rfl)
/-! spec.l3In -/
def Dspec_l3In (a0 : Pl) : Option Bool :=
  (Dspec_l1In a0.A (-500) 500).bind fun v0 => frk v0 ((Dspec_l1In a0.B (-500) 500).bind fun v1 => frk v1 ((Dspec_l1In a0.C (-500) 500).bind fun v2 => frk v2 ((Dspec_l1In a0.D (-500) 500).bind fun v3 => some v3) (some false)) (some false)) (some false)
theorem Tspec_l3In {Y} (a0 : Pl) (r : Bool) (h : Dspec_l3In a0 = some r) : Big Try.prog H Y (.call 115 [.agg [i64 a0.A, i64 a0.B, i64 a0.C, i64 a0.D]] (lk []) (bl r) (lk [])) := by
  unfold Dspec_l3In at h
  refine x_call (fn := Try.f115) (c := bodyOf Try.f115) (bs0 := []) Try.func115 (by kernel_rfl) (by kernel_rfl) ?_
  obtain ⟨v0, hv0, h⟩ := bind_some h
  refine x_frk 18 [(8, .call [] [] (bl v0) [])] (ocons (Tspec_l1In (Y := Y) a0.A (-500) 500 _ hv0) onil) h (by kernel_rfl) (fun h => ?_) (fun h => ?_)
  · obtain ⟨v1, hv1, h⟩ := bind_some h
    refine x_frk 8 [(5, .call [] [] (bl v1) [])] (ocons (Tspec_l1In (Y := Y) a0.B (-500) 500 _ hv1) onil) h (by kernel_rfl) (fun h => ?_) (fun h => ?_)
    · obtain ⟨v2, hv2, h⟩ := bind_some h
      refine x_frk 8 [(5, .call [] [] (bl v2) [])] (ocons (Tspec_l1In (Y := Y) a0.C (-500) 500 _ hv2) onil) h (by kernel_rfl) (fun h => ?_) (fun h => ?_)
      · obtain ⟨v3, hv3, h⟩ := bind_some h
        replace h := Option.some.inj h; subst h
        exact x_end 9 [(5, .call [] [] (bl v3) [])] [] (ocons (Tspec_l1In (Y := Y) a0.D (-500) 500 _ hv3) onil) onil (by kernel_rfl)
      · replace h := Option.some.inj h; subst h
        exact x_end 9 [] [] onil onil (by kernel_rfl)
    · replace h := Option.some.inj h; subst h
      exact x_end 17 [] [] onil onil (by kernel_rfl)
  · replace h := Option.some.inj h; subst h
    exact x_end 25 [] [] onil onil (by kernel_rfl)
/-! spec.l3Abs -/
def Dspec_l3Abs (a0 : Int) : Option Int :=
  frk (decide (a0 < 0)) (some (w64 (0 - a0))) (some a0)
theorem Tspec_l3Abs {Y} (a0 r : Int) (h : Dspec_l3Abs a0 = some r) : Big Try.prog H Y (.call 116 [i64 a0] (lk []) (i64 r) (lk [])) := by
  unfold Dspec_l3Abs at h
  refine x_call (fn := Try.f116) (c := bodyOf Try.f116) (bs0 := []) Try.func116 (by kernel_rfl) (by kernel_rfl) ?_
  refine x_frk 10 [] onil h (by kernel_rfl) (fun h => ?_) (fun h => ?_)
  · replace h := Option.some.inj h; subst h
    exact x_end 6 [] [] onil onil (by kernel_rfl)
  · replace h := Option.some.inj h; subst h
    exact x_end 6 [] [] onil onil (by kernel_rfl)
/-! spec.l3Gcd -/
def Dspec_l3Gcd_0 (_n : Nat) (rec0 : (Int × Int) → Option Int) (a : (Int × Int)) : Option Int :=
  match a with
  | (t0, t1) => frk (decide (t1 > 0)) ((rm .i64 t0 t1).bind fun v2 => rec0 (t1, v2)) (some t0)
theorem Tspec_l3Gcd_0 {Y} (n : Nat) : ∀ (m : Nat) (a : (Int × Int)) (r : Int), loopN (Dspec_l3Gcd_0 n) m a = some r → Wk Try.prog H Y 92 [.code (cp [1, 1, 1, 0, 0] (bodyOf Try.f92)), .blk 0, .code (cp [1, 1, 1, 1] (bodyOf Try.f92))] (FinX Try.prog Try.f92 [] (i64 r) []) ⟨[(0, i64 a.1), (1, i64 a.2)], []⟩ := by
  refine loopN_ind (fun _rec0 hrec0 a r h => ?_)
  obtain ⟨_t0, t1⟩ := a
  unfold Dspec_l3Gcd_0 at h
  refine x_frk 7 [] onil h (by kernel_rfl) (fun h => ?_) (fun h => ?_)
  · obtain ⟨v2, hv2, h⟩ := bind_some h
    exact x_to 20 [(2, .val (i64 v2))] (ocons (rmOk hv2) onil) (hrec0 (t1, v2) r h) (by kernel_rfl)
  · replace h := Option.some.inj h; subst h
    exact x_end 6 [] [] onil onil (by kernel_rfl)
def Dspec_l3Gcd (n : Nat) (a0 a1 : Int) : Option Int :=
  (Dspec_l3Abs a0).bind fun v0 => (Dspec_l3Abs a1).bind fun v1 => loopN (Dspec_l3Gcd_0 n) n (v0, v1)
theorem Tspec_l3Gcd {Y} (n : Nat) (a0 a1 r : Int) (h : Dspec_l3Gcd n a0 a1 = some r) : Big Try.prog H Y (.call 92 [i64 a0, i64 a1] (lk []) (i64 r) (lk [])) := by
  unfold Dspec_l3Gcd at h
  refine x_call (fn := Try.f92) (c := bodyOf Try.f92) (bs0 := []) Try.func92 (by kernel_rfl) (by kernel_rfl) ?_
  obtain ⟨v0, hv0, h⟩ := bind_some h
  obtain ⟨v1, hv1, h⟩ := bind_some h
  exact x_to 18 [(2, .call [] [] (i64 v0) []), (2, .call [] [] (i64 v1) [])] (ocons (Tspec_l3Abs (Y := Y) a0 _ hv0) (ocons (Tspec_l3Abs (Y := Y) a1 _ hv1) onil)) (Tspec_l3Gcd_0 n n (v0, v1) r h) (by kernel_rfl)
/-! spec.PlaneOk -/
def Dspec_PlaneOk (n : Nat) (a0 : Pl) : Option Bool :=
  (Dspec_l3In a0).bind fun v0 => frk v0 (frk (a0.A != 0) ((Dspec_l3Gcd n a0.A a0.B).bind fun v1 => (Dspec_l3Gcd n a0.C a0.D).bind fun v2 => (Dspec_l3Gcd n v1 v2).bind fun v3 => some (v3 == 1)) (frk (a0.B != 0) ((Dspec_l3Gcd n a0.A a0.B).bind fun v4 => (Dspec_l3Gcd n a0.C a0.D).bind fun v5 => (Dspec_l3Gcd n v4 v5).bind fun v6 => some (v6 == 1)) (frk (a0.C != 0) ((Dspec_l3Gcd n a0.A a0.B).bind fun v7 => (Dspec_l3Gcd n a0.C a0.D).bind fun v8 => (Dspec_l3Gcd n v7 v8).bind fun v9 => some (v9 == 1)) (some false)))) (some false)
theorem Tspec_PlaneOk {Y} (n : Nat) (a0 : Pl) (r : Bool) (h : Dspec_PlaneOk n a0 = some r) : Big Try.prog H Y (.call 90 [.agg [i64 a0.A, i64 a0.B, i64 a0.C, i64 a0.D]] (lk []) (bl r) (lk [])) := by
  unfold Dspec_PlaneOk at h
  refine x_call (fn := Try.f90) (c := bodyOf Try.f90) (bs0 := []) Try.func90 (by kernel_rfl) (by kernel_rfl) ?_
  obtain ⟨v0, hv0, h⟩ := bind_some h
  refine x_frk 10 [(3, .call [] [] (bl v0) [])] (ocons (Tspec_l3In (Y := Y) a0 _ hv0) onil) h (by kernel_rfl) (fun h => ?_) (fun h => ?_)
  · refine x_frk 4 [] onil h (by kernel_rfl) (fun h => ?_) (fun h => ?_)
    · obtain ⟨v1, hv1, h⟩ := bind_some h
      obtain ⟨v2, hv2, h⟩ := bind_some h
      obtain ⟨v3, hv3, h⟩ := bind_some h
      replace h := Option.some.inj h; subst h
      exact x_end 26 [(15, .call [] [] (i64 v1) []), (4, .call [] [] (i64 v2) []), (0, .call [] [] (i64 v3) [])] [] (ocons (Tspec_l3Gcd (Y := Y) n a0.A a0.B _ hv1) (ocons (Tspec_l3Gcd (Y := Y) n a0.C a0.D _ hv2) (ocons (Tspec_l3Gcd (Y := Y) n v1 v2 _ hv3) onil))) onil (by kernel_rfl)
    · refine x_frk 5 [] onil h (by kernel_rfl) (fun h => ?_) (fun h => ?_)
      · obtain ⟨v4, hv4, h⟩ := bind_some h
        obtain ⟨v5, hv5, h⟩ := bind_some h
        obtain ⟨v6, hv6, h⟩ := bind_some h
        replace h := Option.some.inj h; subst h
        exact x_end 21 [(10, .call [] [] (i64 v4) []), (4, .call [] [] (i64 v5) []), (0, .call [] [] (i64 v6) [])] [] (ocons (Tspec_l3Gcd (Y := Y) n a0.A a0.B _ hv4) (ocons (Tspec_l3Gcd (Y := Y) n a0.C a0.D _ hv5) (ocons (Tspec_l3Gcd (Y := Y) n v4 v5 _ hv6) onil))) onil (by kernel_rfl)
      · refine x_frk 6 [] onil h (by kernel_rfl) (fun h => ?_) (fun h => ?_)
        · obtain ⟨v7, hv7, h⟩ := bind_some h
          obtain ⟨v8, hv8, h⟩ := bind_some h
          obtain ⟨v9, hv9, h⟩ := bind_some h
          replace h := Option.some.inj h; subst h
          exact x_end 15 [(4, .call [] [] (i64 v7) []), (4, .call [] [] (i64 v8) []), (0, .call [] [] (i64 v9) [])] [] (ocons (Tspec_l3Gcd (Y := Y) n a0.A a0.B _ hv7) (ocons (Tspec_l3Gcd (Y := Y) n a0.C a0.D _ hv8) (ocons (Tspec_l3Gcd (Y := Y) n v7 v8 _ hv9) onil))) onil (by kernel_rfl)
        · replace h := Option.some.inj h; subst h
          exact x_end 15 [] [] onil onil (by kernel_rfl)
  · replace h := Option.some.inj h; subst h
    exact x_end 30 [] [] onil onil (by kernel_rfl)
/-! spec.l6Right -/
def Dspec_l6Right_0 (n : Nat) (t0 : List Pl) (rec0 : Int → Option Bool) (a : Int) : Option Bool :=
  match a with
  | t3 => frk (decide (t3 < (t0.length : Int))) ((lget t0 t3).bind fun v0 => (Dspec_PlaneOk n v0).bind fun v1 => frk (!v1) (some false) (rec0 (w64 (t3 + 1)))) (some (decide ((t0.length : Int) ≤ 24)))
theorem Tspec_l6Right_0 {Y} (n : Nat) (t0 : List Pl) : ∀ (m : Nat) (a : Int) (r : Bool), loopN (Dspec_l6Right_0 n t0) m a = some r → Wk Try.prog H Y 73 [.code (cp [1, 0, 1, 0] (bodyOf Try.f73)), .blk 0, .code (cp [1, 1] (bodyOf Try.f73))] (FinX Try.prog Try.f73 [] (bl r) []) ⟨[(0, .sl false 4 t0.length ((ePl).f t0)), (3, i64 a)], []⟩ := by
  refine loopN_ind (fun _rec0 hrec0 a r h => ?_)
  obtain ⟨t3, rfl⟩ : ∃ x, x = a := ⟨a, rfl⟩
  unfold Dspec_l6Right_0 at h
  refine x_frk 9 [] onil h (by kernel_rfl) (fun h => ?_) (fun h => ?_)
  · obtain ⟨v0, hv0, h⟩ := bind_some h
    obtain ⟨v1, hv1, h⟩ := bind_some h
    refine x_frk 12 [(2, .val (.cptr (ePl.c v0 ++ (ePl).f ((t0).drop (Int.toNat t3 + 1))))), (1, .call [] [] (bl v1) [])] (ocons (ix ePl hv0) (ocons (Tspec_PlaneOk (Y := Y) n v0 _ hv1) onil)) h (by kernel_rfl) (fun h => ?_) (fun h => ?_)
    · replace h := Option.some.inj h; subst h
      exact x_end 4 [] [] onil onil (by kernel_rfl)
    · exact x_to 8 [] onil (hrec0 (w64 (t3 + 1)) r h) (by kernel_rfl)
  · replace h := Option.some.inj h; subst h
    exact x_end 8 [] [] onil onil (by kernel_rfl)
def Dspec_l6Right (n : Nat) (a0 : (List Pl)) : Option Bool :=
  loopN (Dspec_l6Right_0 n a0) n 0
theorem Tspec_l6Right {Y} (n : Nat) (a0 : (List Pl)) (r : Bool) (h : Dspec_l6Right n a0 = some r) : Big Try.prog H Y (.call 73 [.sl false 4 a0.length ((ePl).f a0)] (lk []) (bl r) (lk [])) := by
  unfold Dspec_l6Right at h
  refine x_call (fn := Try.f73) (c := bodyOf Try.f73) (bs0 := []) Try.func73 (by kernel_rfl) (by kernel_rfl) ?_
  exact x_to 10 [] onil (Tspec_l6Right_0 n a0 n 0 r h) (by kernel_rfl)
/-! spec.l4Cross -/
def Dspec_l4Cross (a0 : Pl) (a1 : Pl) : Option (Int × Int × Int) :=
  some (w64 ((w64 (a0.B * a1.C)) - (w64 (a0.C * a1.B))), w64 ((w64 (a0.C * a1.A)) - (w64 (a0.A * a1.C))), w64 ((w64 (a0.A * a1.B)) - (w64 (a0.B * a1.A))))
theorem Tspec_l4Cross {Y} (a0 : Pl) (a1 : Pl) (r : (Int × Int × Int)) (h : Dspec_l4Cross a0 a1 = some r) : Big Try.prog H Y (.call 120 [.agg [i64 a0.A, i64 a0.B, i64 a0.C, i64 a0.D], .agg [i64 a1.A, i64 a1.B, i64 a1.C, i64 a1.D]] (lk []) (.agg [i64 r.1, i64 r.2.1, i64 r.2.2]) (lk [])) := by
  unfold Dspec_l4Cross at h
  refine x_call (fn := Try.f120) (c := bodyOf Try.f120) (bs0 := []) Try.func120 (by kernel_rfl) (by kernel_rfl) ?_
  replace h := Option.some.inj h; subst h
  exact x_end 44 [] [] onil onil (by kernel_rfl)
/-! spec.l3Sign -/
def Dspec_l3Sign (a0 : Int) : Option Int :=
  frk (decide (a0 > 0)) (some 1) (frk (decide (a0 < 0)) (some (-1)) (some 0))
theorem Tspec_l3Sign {Y} (a0 r : Int) (h : Dspec_l3Sign a0 = some r) : Big Try.prog H Y (.call 104 [i64 a0] (lk []) (i64 r) (lk [])) := by
  unfold Dspec_l3Sign at h
  refine x_call (fn := Try.f104) (c := bodyOf Try.f104) (bs0 := []) Try.func104 (by kernel_rfl) (by kernel_rfl) ?_
  refine x_frk 12 [] onil h (by kernel_rfl) (fun h => ?_) (fun h => ?_)
  · replace h := Option.some.inj h; subst h
    exact x_end 4 [] [] onil onil (by kernel_rfl)
  · refine x_frk 6 [] onil h (by kernel_rfl) (fun h => ?_) (fun h => ?_)
    · replace h := Option.some.inj h; subst h
      exact x_end 4 [] [] onil onil (by kernel_rfl)
    · replace h := Option.some.inj h; subst h
      exact x_end 6 [] [] onil onil (by kernel_rfl)
/-! spec.l4Parallel -/
def Dspec_l4Parallel (a0 : Pl) (a1 : Pl) : Option Int :=
  (Dspec_l4Cross a0 a1).bind fun v0 => frk (!(v0.1 == 0 && (v0.2.1 == 0 && (v0.2.2 == 0 && true)))) (some 0) ((Dspec_l3Sign (w64 ((w64 ((w64 (a0.A * a1.A)) + (w64 (a0.B * a1.B)))) + (w64 (a0.C * a1.C))))).bind fun v1 => some v1)
theorem Tspec_l4Parallel {Y} (a0 : Pl) (a1 : Pl) (r : Int) (h : Dspec_l4Parallel a0 a1 = some r) : Big Try.prog H Y (.call 119 [.agg [i64 a0.A, i64 a0.B, i64 a0.C, i64 a0.D], .agg [i64 a1.A, i64 a1.B, i64 a1.C, i64 a1.D]] (lk []) (i64 r) (lk [])) := by
  unfold Dspec_l4Parallel at h
  refine x_call (fn := Try.f119) (c := bodyOf Try.f119) (bs0 := []) Try.func119 (by kernel_rfl) (by kernel_rfl) ?_
  obtain ⟨v0, hv0, h⟩ := bind_some h
  refine x_frk 15 [(5, .call [] [] (.agg [i64 v0.1, i64 v0.2.1, i64 v0.2.2]) [])] (ocons (Tspec_l4Cross (Y := Y) a0 a1 _ hv0) onil) h (by kernel_rfl) (fun h => ?_) (fun h => ?_)
  · replace h := Option.some.inj h; subst h
    exact x_end 4 [] [] onil onil (by kernel_rfl)
  · obtain ⟨v1, hv1, h⟩ := bind_some h
    replace h := Option.some.inj h; subst h
    exact x_end 23 [(17, .call [] [] (i64 v1) [])] [] (ocons (Tspec_l3Sign (Y := Y) (w64 ((w64 ((w64 (a0.A * a1.A)) + (w64 (a0.B * a1.B)))) + (w64 (a0.C * a1.C)))) _ hv1) onil) onil (by kernel_rfl)
/-! spec.l6Clash2 -/
def Dspec_l6Clash2 (a0 : Pl) (a1 : Pl) : Option Bool :=
  (Dspec_l4Parallel a0 a1).bind fun v0 => frk (decide (v0 ≥ 0)) (some false) ((Dspec_l3Abs a1.A).bind fun v1 => (Dspec_l3Abs a1.B).bind fun v2 => (Dspec_l3Abs a1.C).bind fun v3 => (Dspec_l3Abs a0.A).bind fun v4 => (Dspec_l3Abs a0.B).bind fun v5 => (Dspec_l3Abs a0.C).bind fun v6 => some (decide ((w64 ((w64 ((w64 ((w64 (v1 + v2)) + v3)) * a0.D)) + (w64 ((w64 ((w64 (v4 + v5)) + v6)) * a1.D)))) ≤ 0)))
theorem Tspec_l6Clash2 {Y} (a0 : Pl) (a1 : Pl) (r : Bool) (h : Dspec_l6Clash2 a0 a1 = some r) : Big Try.prog H Y (.call 97 [.agg [i64 a0.A, i64 a0.B, i64 a0.C, i64 a0.D], .agg [i64 a1.A, i64 a1.B, i64 a1.C, i64 a1.D]] (lk []) (bl r) (lk [])) := by
  unfold Dspec_l6Clash2 at h
  refine x_call (fn := Try.f97) (c := bodyOf Try.f97) (bs0 := []) Try.func97 (by kernel_rfl) (by kernel_rfl) ?_
  obtain ⟨v0, hv0, h⟩ := bind_some h
  refine x_frk 14 [(5, .call [] [] (i64 v0) [])] (ocons (Tspec_l4Parallel (Y := Y) a0 a1 _ hv0) onil) h (by kernel_rfl) (fun h => ?_) (fun h => ?_)
  · replace h := Option.some.inj h; subst h
    exact x_end 4 [] [] onil onil (by kernel_rfl)
  · obtain ⟨v1, hv1, h⟩ := bind_some h
    obtain ⟨v2, hv2, h⟩ := bind_some h
    obtain ⟨v3, hv3, h⟩ := bind_some h
    obtain ⟨v4, hv4, h⟩ := bind_some h
    obtain ⟨v5, hv5, h⟩ := bind_some h
    obtain ⟨v6, hv6, h⟩ := bind_some h
    replace h := Option.some.inj h; subst h
    exact x_end 45 [(2, .call [] [] (i64 v1) []), (2, .call [] [] (i64 v2) []), (3, .call [] [] (i64 v3) []), (4, .call [] [] (i64 v4) []), (2, .call [] [] (i64 v5) []), (3, .call [] [] (i64 v6) [])] [] (ocons (Tspec_l3Abs (Y := Y) a1.A _ hv1) (ocons (Tspec_l3Abs (Y := Y) a1.B _ hv2) (ocons (Tspec_l3Abs (Y := Y) a1.C _ hv3) (ocons (Tspec_l3Abs (Y := Y) a0.A _ hv4) (ocons (Tspec_l3Abs (Y := Y) a0.B _ hv5) (ocons (Tspec_l3Abs (Y := Y) a0.C _ hv6) onil)))))) onil (by kernel_rfl)
/-! spec.l4Det3 -/
def Dspec_l4Det3 (a0 : Pl) (a1 : Pl) (a2 : Pl) : Option Int :=
  (Dspec_l4Cross a1 a2).bind fun v0 => some (w64 ((w64 ((w64 (a0.A * v0.1)) + (w64 (a0.B * v0.2.1)))) + (w64 (a0.C * v0.2.2))))
theorem Tspec_l4Det3 {Y} (a0 : Pl) (a1 : Pl) (a2 : Pl) (r : Int) (h : Dspec_l4Det3 a0 a1 a2 = some r) : Big Try.prog H Y (.call 102 [.agg [i64 a0.A, i64 a0.B, i64 a0.C, i64 a0.D], .agg [i64 a1.A, i64 a1.B, i64 a1.C, i64 a1.D], .agg [i64 a2.A, i64 a2.B, i64 a2.C, i64 a2.D]] (lk []) (i64 r) (lk [])) := by
  unfold Dspec_l4Det3 at h
  refine x_call (fn := Try.f102) (c := bodyOf Try.f102) (bs0 := []) Try.func102 (by kernel_rfl) (by kernel_rfl) ?_
  obtain ⟨v0, hv0, h⟩ := bind_some h
  replace h := Option.some.inj h; subst h
  exact x_end 36 [(6, .call [] [] (.agg [i64 v0.1, i64 v0.2.1, i64 v0.2.2]) [])] [] (ocons (Tspec_l4Cross (Y := Y) a1 a2 _ hv0) onil) onil (by kernel_rfl)
/-! spec.l6Sum -/
def Dspec_l6Sum_1 (_n : Nat) (rec0 : (Bool × Bool × Int × Int) → Option Bool) (t0 : List Int) (t1 : List Int) (t5 t6 : Bool) (t7 t8 : Int) : Option Bool :=
  (lget t0 t8).bind fun v2 => (Dspec_l3Abs v2).bind fun v3 => (lget t1 t8).bind fun v4 => rec0 (t5, t6, w64 (t7 + (w64 (v3 * v4))), w64 (t8 + 1))
theorem Tspec_l6Sum_1 {Y} (n : Nat) (rec0 : (Bool × Bool × Int × Int) → Option Bool) (t0 : List Int) (t1 : List Int) (hrec0 : ∀ (a : (Bool × Bool × Int × Int)) (r : Bool), rec0 a = some r → Wk Try.prog H Y 121 [.code (cp [1, 1, 1, 1, 0, 1, 0] (bodyOf Try.f121)), .blk 0, .code (cp [1, 1, 1, 1, 1] (bodyOf Try.f121))] (FinX Try.prog Try.f121 [] (bl r) []) ⟨[(0, .sl false 1 t0.length ((eInt).f t0)), (1, .sl false 1 t1.length ((eInt).f t1)), (5, bl a.1), (6, bl a.2.1), (7, i64 a.2.2.1), (8, i64 a.2.2.2)], []⟩) (t5 t6 : Bool) (t7 t8 : Int) (r : Bool) (h : Dspec_l6Sum_1 n rec0 t0 t1 t5 t6 t7 t8 = some r) : Wk Try.prog H Y 121 [.code (cp [1, 1, 1, 1, 0, 1, 0, 0, 1, 0, 0, 1, 1] (bodyOf Try.f121)), .blk 1, .code (cp [1, 1, 1, 1, 0, 1, 0, 0, 1, 1] (bodyOf Try.f121)), .lp (cp [1, 1, 1, 1, 0, 1, 0] (bodyOf Try.f121)), .blk 0, .code (cp [1, 1, 1, 1, 1] (bodyOf Try.f121))] (FinX Try.prog Try.f121 [] (bl r) []) ⟨[(0, .sl false 1 t0.length ((eInt).f t0)), (1, .sl false 1 t1.length ((eInt).f t1)), (5, bl t5), (6, bl t6), (7, i64 t7), (8, i64 t8)], []⟩ := by
  unfold Dspec_l6Sum_1 at h
  obtain ⟨v2, hv2, h⟩ := bind_some h
  obtain ⟨v3, hv3, h⟩ := bind_some h
  obtain ⟨v4, hv4, h⟩ := bind_some h
  exact x_to 22 [(3, .val (.cptr (eInt.c v2 ++ (eInt).f ((t0).drop (Int.toNat t8 + 1))))), (1, .call [] [] (i64 v3) []), (2, .val (.cptr (eInt.c v4 ++ (eInt).f ((t1).drop (Int.toNat t8 + 1)))))] (ocons (ix eInt hv2) (ocons (Tspec_l3Abs (Y := Y) v2 _ hv3) (ocons (ix eInt hv4) onil))) (hrec0 (t5, t6, w64 (t7 + (w64 (v3 * v4))), w64 (t8 + 1)) r h) (by kernel_rfl)
def Dspec_l6Sum_0 (n : Nat) (rec0 : (Bool × Bool × Int × Int) → Option Bool) (t0 : List Int) (t1 : List Int) (t5 t6 : Bool) (t7 t8 : Int) : Option Bool :=
  frk t6 ((lget t0 t8).bind fun v1 => Dspec_l6Sum_1 n rec0 t0 t1 t5 (decide (v1 < 0)) t7 t8) (Dspec_l6Sum_1 n rec0 t0 t1 t5 false t7 t8)
theorem Tspec_l6Sum_0 {Y} (n : Nat) (rec0 : (Bool × Bool × Int × Int) → Option Bool) (t0 : List Int) (t1 : List Int) (hrec0 : ∀ (a : (Bool × Bool × Int × Int)) (r : Bool), rec0 a = some r → Wk Try.prog H Y 121 [.code (cp [1, 1, 1, 1, 0, 1, 0] (bodyOf Try.f121)), .blk 0, .code (cp [1, 1, 1, 1, 1] (bodyOf Try.f121))] (FinX Try.prog Try.f121 [] (bl r) []) ⟨[(0, .sl false 1 t0.length ((eInt).f t0)), (1, .sl false 1 t1.length ((eInt).f t1)), (5, bl a.1), (6, bl a.2.1), (7, i64 a.2.2.1), (8, i64 a.2.2.2)], []⟩) (t5 t6 : Bool) (t7 t8 : Int) (r : Bool) (h : Dspec_l6Sum_0 n rec0 t0 t1 t5 t6 t7 t8 = some r) : Wk Try.prog H Y 121 [.code (cp [1, 1, 1, 1, 0, 1, 0, 0, 1, 0, 0, 1, 0] (bodyOf Try.f121)), .code (cp [1, 1, 1, 1, 0, 1, 0, 0, 1, 0, 0, 1, 1] (bodyOf Try.f121)), .blk 1, .code (cp [1, 1, 1, 1, 0, 1, 0, 0, 1, 1] (bodyOf Try.f121)), .lp (cp [1, 1, 1, 1, 0, 1, 0] (bodyOf Try.f121)), .blk 0, .code (cp [1, 1, 1, 1, 1] (bodyOf Try.f121))] (FinX Try.prog Try.f121 [] (bl r) []) ⟨[(0, .sl false 1 t0.length ((eInt).f t0)), (1, .sl false 1 t1.length ((eInt).f t1)), (5, bl t5), (6, bl t6), (7, i64 t7), (8, i64 t8)], []⟩ := by
  unfold Dspec_l6Sum_0 at h
  refine x_frk 3 [] onil h (by kernel_rfl) (fun h => ?_) (fun h => ?_)
  · obtain ⟨v1, hv1, h⟩ := bind_some h
    exact x_to 8 [(2, .val (.cptr (eInt.c v1 ++ (eInt).f ((t0).drop (Int.toNat t8 + 1)))))] (ocons (ix eInt hv1) onil) (Tspec_l6Sum_1 n rec0 t0 t1 hrec0 t5 (decide (v1 < 0)) t7 t8 r h) (by kernel_rfl)
  · exact x_to 8 [] onil (Tspec_l6Sum_1 n rec0 t0 t1 hrec0 t5 false t7 t8 r h) (by kernel_rfl)
def Dspec_l6Sum_2 (_n : Nat) (t5 t6 : Bool) (t7 : Int) : Option Bool :=
  frk t5 (some (decide (t7 ≤ 0))) (frk t6 (some (decide (t7 ≤ 0))) (some false))
theorem Tspec_l6Sum_2 {Y} (n : Nat) (t5 t6 : Bool) (t7 : Int) (r : Bool) (h : Dspec_l6Sum_2 n t5 t6 t7 = some r) : Wk Try.prog H Y 121 [.code (cp [1, 1, 1, 1, 1, 0] (bodyOf Try.f121)), .code (cp [1, 1, 1, 1, 1, 1] (bodyOf Try.f121))] (FinX Try.prog Try.f121 [] (bl r) []) ⟨[(5, bl t5), (6, bl t6), (7, i64 t7)], []⟩ := by
  unfold Dspec_l6Sum_2 at h
  refine x_frk 3 [] onil h (by kernel_rfl) (fun h => ?_) (fun h => ?_)
  · replace h := Option.some.inj h; subst h
    exact x_end 8 [] [] onil onil (by kernel_rfl)
  · refine x_frk 3 [] onil h (by kernel_rfl) (fun h => ?_) (fun h => ?_)
    · replace h := Option.some.inj h; subst h
      exact x_end 5 [] [] onil onil (by kernel_rfl)
    · replace h := Option.some.inj h; subst h
      exact x_end 5 [] [] onil onil (by kernel_rfl)
def Dspec_l6Sum_3 (n : Nat) (t0 : List Int) (t1 : List Int) (rec0 : (Bool × Bool × Int × Int) → Option Bool) (a : (Bool × Bool × Int × Int)) : Option Bool :=
  match a with
  | (t5, t6, t7, t8) => frk (decide (t8 < (t0.length : Int))) (frk t5 ((lget t0 t8).bind fun v0 => Dspec_l6Sum_0 n rec0 t0 t1 (decide (v0 > 0)) t6 t7 t8) (Dspec_l6Sum_0 n rec0 t0 t1 false t6 t7 t8)) (Dspec_l6Sum_2 n t5 t6 t7)
theorem Tspec_l6Sum_3 {Y} (n : Nat) (t0 : List Int) (t1 : List Int) : ∀ (m : Nat) (a : (Bool × Bool × Int × Int)) (r : Bool), loopN (Dspec_l6Sum_3 n t0 t1) m a = some r → Wk Try.prog H Y 121 [.code (cp [1, 1, 1, 1, 0, 1, 0] (bodyOf Try.f121)), .blk 0, .code (cp [1, 1, 1, 1, 1] (bodyOf Try.f121))] (FinX Try.prog Try.f121 [] (bl r) []) ⟨[(0, .sl false 1 t0.length ((eInt).f t0)), (1, .sl false 1 t1.length ((eInt).f t1)), (5, bl a.1), (6, bl a.2.1), (7, i64 a.2.2.1), (8, i64 a.2.2.2)], []⟩ := by
  refine loopN_ind (fun rec0 hrec0 a r h => ?_)
  obtain ⟨t5, t6, t7, t8⟩ := a
  unfold Dspec_l6Sum_3 at h
  refine x_frk 9 [] onil h (by kernel_rfl) (fun h => ?_) (fun h => ?_)
  · refine x_frk 7 [] onil h (by kernel_rfl) (fun h => ?_) (fun h => ?_)
    · obtain ⟨v0, hv0, h⟩ := bind_some h
      exact x_to 9 [(2, .val (.cptr (eInt.c v0 ++ (eInt).f ((t0).drop (Int.toNat t8 + 1)))))] (ocons (ix eInt hv0) onil) (Tspec_l6Sum_0 n rec0 t0 t1 hrec0 (decide (v0 > 0)) t6 t7 t8 r h) (by kernel_rfl)
    · exact x_to 9 [] onil (Tspec_l6Sum_0 n rec0 t0 t1 hrec0 false t6 t7 t8 r h) (by kernel_rfl)
  · exact x_to 2 [] onil (Tspec_l6Sum_2 n t5 t6 t7 r h) (by kernel_rfl)
def Dspec_l6Sum (n : Nat) (a0 : (List Int)) (a1 : (List Int)) : Option Bool :=
  loopN (Dspec_l6Sum_3 n a0 a1) n (true, true, 0, 0)
theorem Tspec_l6Sum {Y} (n : Nat) (a0 : (List Int)) (a1 : (List Int)) (r : Bool) (h : Dspec_l6Sum n a0 a1 = some r) : Big Try.prog H Y (.call 121 [.sl false 1 a0.length ((eInt).f a0), .sl false 1 a1.length ((eInt).f a1)] (lk []) (bl r) (lk [])) := by
  unfold Dspec_l6Sum at h
  refine x_call (fn := Try.f121) (c := bodyOf Try.f121) (bs0 := []) Try.func121 (by kernel_rfl) (by kernel_rfl) ?_
  exact x_to 22 [] onil (Tspec_l6Sum_3 n a0 a1 n (true, true, 0, 0) r h) (by kernel_rfl)
/-! spec.l6Clash3 -/
def Dspec_l6Clash3_0 (n : Nat) (_b3_0 _b3_1 _b3_2 b3_3 _b4_0 _b4_1 _b4_2 b4_3 _b5_0 _b5_1 _b5_2 b5_3 b7_0 _b7_1 _b7_2 b8_0 _b8_1 _b8_2 b9_0 _b9_1 _b9_2 : Int) : Option Bool :=
  (Dspec_l6Sum n [b7_0, b8_0, b9_0] [b3_3, b4_3, b5_3]).bind fun v4 => some v4
theorem Tspec_l6Clash3_0 {Y} (n : Nat) (b3_0 b3_1 b3_2 b3_3 b4_0 b4_1 b4_2 b4_3 b5_0 b5_1 b5_2 b5_3 b7_0 b7_1 b7_2 b8_0 b8_1 b8_2 b9_0 b9_1 b9_2 : Int) (r : Bool) (h : Dspec_l6Clash3_0 n b3_0 b3_1 b3_2 b3_3 b4_0 b4_1 b4_2 b4_3 b5_0 b5_1 b5_2 b5_3 b7_0 b7_1 b7_2 b8_0 b8_1 b8_2 b9_0 b9_1 b9_2 = some r) : Wk Try.prog H Y 98 [.code (cp [1, 1, 1, 1, 1, 0, 1, 0, 0, 1, 0, 0, 1, 0, 0] (bodyOf Try.f98)), .code (cp [1, 1, 1, 1, 1, 0, 1, 0, 0, 1, 0, 0, 1, 0, 1] (bodyOf Try.f98)), .blk 1, .code (cp [1, 1, 1, 1, 1, 0, 1, 0, 0, 1, 1] (bodyOf Try.f98)), .lp (cp [1, 1, 1, 1, 1, 0, 1, 0] (bodyOf Try.f98)), .blk 0, .code (cp [1, 1, 1, 1, 1, 1] (bodyOf Try.f98))] (FinX Try.prog Try.f98 [] (bl r) []) ⟨[(3, .ptr 3 0), (4, .ptr 4 0), (5, .ptr 5 0), (7, .ptr 7 0), (8, .ptr 8 0), (9, .ptr 9 0), (10, i64 0)], [(3, ⟨true, 0, [i64 b3_0, i64 b3_1, i64 b3_2, i64 b3_3]⟩), (4, ⟨true, 0, [i64 b4_0, i64 b4_1, i64 b4_2, i64 b4_3]⟩), (5, ⟨true, 0, [i64 b5_0, i64 b5_1, i64 b5_2, i64 b5_3]⟩), (7, ⟨true, 0, [i64 b7_0, i64 b7_1, i64 b7_2]⟩), (8, ⟨true, 0, [i64 b8_0, i64 b8_1, i64 b8_2]⟩), (9, ⟨true, 0, [i64 b9_0, i64 b9_1, i64 b9_2]⟩)]⟩ := by
  unfold Dspec_l6Clash3_0 at h
  obtain ⟨v4, hv4, h⟩ := bind_some h
  replace h := Option.some.inj h; subst h
  exact x_end 21 [(17, .call [] [(eInt).f [b3_3, b4_3, b5_3], (eInt).f [b7_0, b8_0, b9_0]] (bl v4) [])] [] (ocons (Tspec_l6Sum (Y := Y) n [b7_0, b8_0, b9_0] [b3_3, b4_3, b5_3] _ hv4) (ocons (len_row (L := [b7_0, b8_0, b9_0]) eInt) (ocons (Enc.share eInt eInt sInt [b7_0, b8_0, b9_0]) (ocons (len_row (L := [b3_3, b4_3, b5_3]) eInt) (ocons (Enc.share eInt eInt sInt [b3_3, b4_3, b5_3]) onil))))) onil (by kernel_rfl)
def Dspec_l6Clash3_2 (n : Nat) (_b3_0 _b3_1 _b3_2 b3_3 _b4_0 _b4_1 _b4_2 b4_3 _b5_0 _b5_1 _b5_2 b5_3 _b7_0 b7_1 _b7_2 _b8_0 b8_1 _b8_2 _b9_0 b9_1 _b9_2 : Int) : Option Bool :=
  (Dspec_l6Sum n [b7_1, b8_1, b9_1] [b3_3, b4_3, b5_3]).bind fun v6 => some v6
theorem Tspec_l6Clash3_2 {Y} (n : Nat) (b3_0 b3_1 b3_2 b3_3 b4_0 b4_1 b4_2 b4_3 b5_0 b5_1 b5_2 b5_3 b7_0 b7_1 b7_2 b8_0 b8_1 b8_2 b9_0 b9_1 b9_2 : Int) (r : Bool) (h : Dspec_l6Clash3_2 n b3_0 b3_1 b3_2 b3_3 b4_0 b4_1 b4_2 b4_3 b5_0 b5_1 b5_2 b5_3 b7_0 b7_1 b7_2 b8_0 b8_1 b8_2 b9_0 b9_1 b9_2 = some r) : Wk Try.prog H Y 98 [.code (cp [1, 1, 1, 1, 1, 0, 1, 0, 0, 1, 0, 0, 1, 0, 0] (bodyOf Try.f98)), .code (cp [1, 1, 1, 1, 1, 0, 1, 0, 0, 1, 0, 0, 1, 0, 1] (bodyOf Try.f98)), .blk 1, .code (cp [1, 1, 1, 1, 1, 0, 1, 0, 0, 1, 1] (bodyOf Try.f98)), .lp (cp [1, 1, 1, 1, 1, 0, 1, 0] (bodyOf Try.f98)), .blk 0, .code (cp [1, 1, 1, 1, 1, 1] (bodyOf Try.f98))] (FinX Try.prog Try.f98 [] (bl r) []) ⟨[(3, .ptr 3 0), (4, .ptr 4 0), (5, .ptr 5 0), (7, .ptr 7 0), (8, .ptr 8 0), (9, .ptr 9 0), (10, i64 1)], [(3, ⟨true, 0, [i64 b3_0, i64 b3_1, i64 b3_2, i64 b3_3]⟩), (4, ⟨true, 0, [i64 b4_0, i64 b4_1, i64 b4_2, i64 b4_3]⟩), (5, ⟨true, 0, [i64 b5_0, i64 b5_1, i64 b5_2, i64 b5_3]⟩), (7, ⟨true, 0, [i64 b7_0, i64 b7_1, i64 b7_2]⟩), (8, ⟨true, 0, [i64 b8_0, i64 b8_1, i64 b8_2]⟩), (9, ⟨true, 0, [i64 b9_0, i64 b9_1, i64 b9_2]⟩)]⟩ := by
  unfold Dspec_l6Clash3_2 at h
  obtain ⟨v6, hv6, h⟩ := bind_some h
  replace h := Option.some.inj h; subst h
  exact x_end 21 [(17, .call [] [(eInt).f [b3_3, b4_3, b5_3], (eInt).f [b7_1, b8_1, b9_1]] (bl v6) [])] [] (ocons (Tspec_l6Sum (Y := Y) n [b7_1, b8_1, b9_1] [b3_3, b4_3, b5_3] _ hv6) (ocons (len_row (L := [b7_1, b8_1, b9_1]) eInt) (ocons (Enc.share eInt eInt sInt [b7_1, b8_1, b9_1]) (ocons (len_row (L := [b3_3, b4_3, b5_3]) eInt) (ocons (Enc.share eInt eInt sInt [b3_3, b4_3, b5_3]) onil))))) onil (by kernel_rfl)
def Dspec_l6Clash3_4 (n : Nat) (_b3_0 _b3_1 _b3_2 b3_3 _b4_0 _b4_1 _b4_2 b4_3 _b5_0 _b5_1 _b5_2 b5_3 _b7_0 _b7_1 b7_2 _b8_0 _b8_1 b8_2 _b9_0 _b9_1 b9_2 : Int) : Option Bool :=
  (Dspec_l6Sum n [b7_2, b8_2, b9_2] [b3_3, b4_3, b5_3]).bind fun v8 => some v8
theorem Tspec_l6Clash3_4 {Y} (n : Nat) (b3_0 b3_1 b3_2 b3_3 b4_0 b4_1 b4_2 b4_3 b5_0 b5_1 b5_2 b5_3 b7_0 b7_1 b7_2 b8_0 b8_1 b8_2 b9_0 b9_1 b9_2 : Int) (r : Bool) (h : Dspec_l6Clash3_4 n b3_0 b3_1 b3_2 b3_3 b4_0 b4_1 b4_2 b4_3 b5_0 b5_1 b5_2 b5_3 b7_0 b7_1 b7_2 b8_0 b8_1 b8_2 b9_0 b9_1 b9_2 = some r) : Wk Try.prog H Y 98 [.code (cp [1, 1, 1, 1, 1, 0, 1, 0, 0, 1, 0, 0, 1, 0, 0] (bodyOf Try.f98)), .code (cp [1, 1, 1, 1, 1, 0, 1, 0, 0, 1, 0, 0, 1, 0, 1] (bodyOf Try.f98)), .blk 1, .code (cp [1, 1, 1, 1, 1, 0, 1, 0, 0, 1, 1] (bodyOf Try.f98)), .lp (cp [1, 1, 1, 1, 1, 0, 1, 0] (bodyOf Try.f98)), .blk 0, .code (cp [1, 1, 1, 1, 1, 1] (bodyOf Try.f98))] (FinX Try.prog Try.f98 [] (bl r) []) ⟨[(3, .ptr 3 0), (4, .ptr 4 0), (5, .ptr 5 0), (7, .ptr 7 0), (8, .ptr 8 0), (9, .ptr 9 0), (10, i64 2)], [(3, ⟨true, 0, [i64 b3_0, i64 b3_1, i64 b3_2, i64 b3_3]⟩), (4, ⟨true, 0, [i64 b4_0, i64 b4_1, i64 b4_2, i64 b4_3]⟩), (5, ⟨true, 0, [i64 b5_0, i64 b5_1, i64 b5_2, i64 b5_3]⟩), (7, ⟨true, 0, [i64 b7_0, i64 b7_1, i64 b7_2]⟩), (8, ⟨true, 0, [i64 b8_0, i64 b8_1, i64 b8_2]⟩), (9, ⟨true, 0, [i64 b9_0, i64 b9_1, i64 b9_2]⟩)]⟩ := by
  unfold Dspec_l6Clash3_4 at h
  obtain ⟨v8, hv8, h⟩ := bind_some h
  replace h := Option.some.inj h; subst h
  exact x_end 21 [(17, .call [] [(eInt).f [b3_3, b4_3, b5_3], (eInt).f [b7_2, b8_2, b9_2]] (bl v8) [])] [] (ocons (Tspec_l6Sum (Y := Y) n [b7_2, b8_2, b9_2] [b3_3, b4_3, b5_3] _ hv8) (ocons (len_row (L := [b7_2, b8_2, b9_2]) eInt) (ocons (Enc.share eInt eInt sInt [b7_2, b8_2, b9_2]) (ocons (len_row (L := [b3_3, b4_3, b5_3]) eInt) (ocons (Enc.share eInt eInt sInt [b3_3, b4_3, b5_3]) onil))))) onil (by kernel_rfl)
def Dspec_l6Clash3_5 (n : Nat) (t44 : Bool) (_b3_0 _b3_1 _b3_2 b3_3 _b4_0 _b4_1 _b4_2 b4_3 _b5_0 _b5_1 _b5_2 b5_3 _b7_0 _b7_1 b7_2 _b8_0 _b8_1 b8_2 _b9_0 _b9_1 b9_2 : Int) : Option Bool :=
  frk t44 ((Dspec_l6Sum n [b7_2, b8_2, b9_2] [b3_3, b4_3, b5_3]).bind fun v9 => some v9) (some false)
theorem Tspec_l6Clash3_5 {Y} (n : Nat) (t44 : Bool) (b3_0 b3_1 b3_2 b3_3 b4_0 b4_1 b4_2 b4_3 b5_0 b5_1 b5_2 b5_3 b7_0 b7_1 b7_2 b8_0 b8_1 b8_2 b9_0 b9_1 b9_2 : Int) (r : Bool) (h : Dspec_l6Clash3_5 n t44 b3_0 b3_1 b3_2 b3_3 b4_0 b4_1 b4_2 b4_3 b5_0 b5_1 b5_2 b5_3 b7_0 b7_1 b7_2 b8_0 b8_1 b8_2 b9_0 b9_1 b9_2 = some r) : Wk Try.prog H Y 98 [.code (cp [1, 1, 1, 1, 1, 0, 1, 0, 0, 1, 0, 0, 1] (bodyOf Try.f98)), .blk 1, .code (cp [1, 1, 1, 1, 1, 0, 1, 0, 0, 1, 1] (bodyOf Try.f98)), .lp (cp [1, 1, 1, 1, 1, 0, 1, 0] (bodyOf Try.f98)), .blk 0, .code (cp [1, 1, 1, 1, 1, 1] (bodyOf Try.f98))] (FinX Try.prog Try.f98 [] (bl r) []) ⟨[(3, .ptr 3 0), (4, .ptr 4 0), (5, .ptr 5 0), (7, .ptr 7 0), (8, .ptr 8 0), (9, .ptr 9 0), (10, i64 2), (44, bl t44)], [(3, ⟨true, 0, [i64 b3_0, i64 b3_1, i64 b3_2, i64 b3_3]⟩), (4, ⟨true, 0, [i64 b4_0, i64 b4_1, i64 b4_2, i64 b4_3]⟩), (5, ⟨true, 0, [i64 b5_0, i64 b5_1, i64 b5_2, i64 b5_3]⟩), (7, ⟨true, 0, [i64 b7_0, i64 b7_1, i64 b7_2]⟩), (8, ⟨true, 0, [i64 b8_0, i64 b8_1, i64 b8_2]⟩), (9, ⟨true, 0, [i64 b9_0, i64 b9_1, i64 b9_2]⟩)]⟩ := by
  unfold Dspec_l6Clash3_5 at h
  refine x_frk 0 [] onil h (by kernel_rfl) (fun h => ?_) (fun h => ?_)
  · obtain ⟨v9, hv9, h⟩ := bind_some h
    replace h := Option.some.inj h; subst h
    exact x_end 22 [(17, .call [] [(eInt).f [b3_3, b4_3, b5_3], (eInt).f [b7_2, b8_2, b9_2]] (bl v9) [])] [] (ocons (Tspec_l6Sum (Y := Y) n [b7_2, b8_2, b9_2] [b3_3, b4_3, b5_3] _ hv9) (ocons (len_row (L := [b7_2, b8_2, b9_2]) eInt) (ocons (Enc.share eInt eInt sInt [b7_2, b8_2, b9_2]) (ocons (len_row (L := [b3_3, b4_3, b5_3]) eInt) (ocons (Enc.share eInt eInt sInt [b3_3, b4_3, b5_3]) onil))))) onil (by kernel_rfl)
  · replace h := Option.some.inj h; subst h
    exact x_end 21 [] [] onil onil (by kernel_rfl)
def Dspec_l6Clash3_3 (n : Nat) (t44 : Bool) (b3_0 b3_1 b3_2 b3_3 b4_0 b4_1 b4_2 b4_3 b5_0 b5_1 b5_2 b5_3 b7_0 b7_1 b7_2 b8_0 b8_1 b8_2 b9_0 b9_1 b9_2 : Int) : Option Bool :=
  frk t44 ((Dspec_l6Sum n [b7_1, b8_1, b9_1] [b3_3, b4_3, b5_3]).bind fun v7 => some v7) (frk (b7_2 != 0) (Dspec_l6Clash3_4 n b3_0 b3_1 b3_2 b3_3 b4_0 b4_1 b4_2 b4_3 b5_0 b5_1 b5_2 b5_3 b7_0 b7_1 b7_2 b8_0 b8_1 b8_2 b9_0 b9_1 b9_2) (frk (b8_2 != 0) (Dspec_l6Clash3_4 n b3_0 b3_1 b3_2 b3_3 b4_0 b4_1 b4_2 b4_3 b5_0 b5_1 b5_2 b5_3 b7_0 b7_1 b7_2 b8_0 b8_1 b8_2 b9_0 b9_1 b9_2) (Dspec_l6Clash3_5 n (b9_2 != 0) b3_0 b3_1 b3_2 b3_3 b4_0 b4_1 b4_2 b4_3 b5_0 b5_1 b5_2 b5_3 b7_0 b7_1 b7_2 b8_0 b8_1 b8_2 b9_0 b9_1 b9_2)))
theorem Tspec_l6Clash3_3 {Y} (n : Nat) (t44 : Bool) (b3_0 b3_1 b3_2 b3_3 b4_0 b4_1 b4_2 b4_3 b5_0 b5_1 b5_2 b5_3 b7_0 b7_1 b7_2 b8_0 b8_1 b8_2 b9_0 b9_1 b9_2 : Int) (r : Bool) (h : Dspec_l6Clash3_3 n t44 b3_0 b3_1 b3_2 b3_3 b4_0 b4_1 b4_2 b4_3 b5_0 b5_1 b5_2 b5_3 b7_0 b7_1 b7_2 b8_0 b8_1 b8_2 b9_0 b9_1 b9_2 = some r) : Wk Try.prog H Y 98 [.code (cp [1, 1, 1, 1, 1, 0, 1, 0, 0, 1, 0, 0, 1] (bodyOf Try.f98)), .blk 1, .code (cp [1, 1, 1, 1, 1, 0, 1, 0, 0, 1, 1] (bodyOf Try.f98)), .lp (cp [1, 1, 1, 1, 1, 0, 1, 0] (bodyOf Try.f98)), .blk 0, .code (cp [1, 1, 1, 1, 1, 1] (bodyOf Try.f98))] (FinX Try.prog Try.f98 [] (bl r) []) ⟨[(3, .ptr 3 0), (4, .ptr 4 0), (5, .ptr 5 0), (7, .ptr 7 0), (8, .ptr 8 0), (9, .ptr 9 0), (10, i64 1), (44, bl t44)], [(3, ⟨true, 0, [i64 b3_0, i64 b3_1, i64 b3_2, i64 b3_3]⟩), (4, ⟨true, 0, [i64 b4_0, i64 b4_1, i64 b4_2, i64 b4_3]⟩), (5, ⟨true, 0, [i64 b5_0, i64 b5_1, i64 b5_2, i64 b5_3]⟩), (7, ⟨true, 0, [i64 b7_0, i64 b7_1, i64 b7_2]⟩), (8, ⟨true, 0, [i64 b8_0, i64 b8_1, i64 b8_2]⟩), (9, ⟨true, 0, [i64 b9_0, i64 b9_1, i64 b9_2]⟩)]⟩ := by
  unfold Dspec_l6Clash3_3 at h
  refine x_frk 0 [] onil h (by kernel_rfl) (fun h => ?_) (fun h => ?_)
  · obtain ⟨v7, hv7, h⟩ := bind_some h
    replace h := Option.some.inj h; subst h
    exact x_end 22 [(17, .call [] [(eInt).f [b3_3, b4_3, b5_3], (eInt).f [b7_1, b8_1, b9_1]] (bl v7) [])] [] (ocons (Tspec_l6Sum (Y := Y) n [b7_1, b8_1, b9_1] [b3_3, b4_3, b5_3] _ hv7) (ocons (len_row (L := [b7_1, b8_1, b9_1]) eInt) (ocons (Enc.share eInt eInt sInt [b7_1, b8_1, b9_1]) (ocons (len_row (L := [b3_3, b4_3, b5_3]) eInt) (ocons (Enc.share eInt eInt sInt [b3_3, b4_3, b5_3]) onil))))) onil (by kernel_rfl)
  · refine x_frk 26 [] onil h (by kernel_rfl) (fun h => ?_) (fun h => ?_)
    · exact x_to 14 [] onil (Tspec_l6Clash3_4 n b3_0 b3_1 b3_2 b3_3 b4_0 b4_1 b4_2 b4_3 b5_0 b5_1 b5_2 b5_3 b7_0 b7_1 b7_2 b8_0 b8_1 b8_2 b9_0 b9_1 b9_2 r h) (by kernel_rfl)
    · refine x_frk 6 [] onil h (by kernel_rfl) (fun h => ?_) (fun h => ?_)
      · exact x_to 8 [] onil (Tspec_l6Clash3_4 n b3_0 b3_1 b3_2 b3_3 b4_0 b4_1 b4_2 b4_3 b5_0 b5_1 b5_2 b5_3 b7_0 b7_1 b7_2 b8_0 b8_1 b8_2 b9_0 b9_1 b9_2 r h) (by kernel_rfl)
      · exact x_to 6 [] onil (Tspec_l6Clash3_5 n (b9_2 != 0) b3_0 b3_1 b3_2 b3_3 b4_0 b4_1 b4_2 b4_3 b5_0 b5_1 b5_2 b5_3 b7_0 b7_1 b7_2 b8_0 b8_1 b8_2 b9_0 b9_1 b9_2 r h) (by kernel_rfl)
def Dspec_l6Clash3_1 (n : Nat) (t44 : Bool) (b3_0 b3_1 b3_2 b3_3 b4_0 b4_1 b4_2 b4_3 b5_0 b5_1 b5_2 b5_3 b7_0 b7_1 b7_2 b8_0 b8_1 b8_2 b9_0 b9_1 b9_2 : Int) : Option Bool :=
  frk t44 ((Dspec_l6Sum n [b7_0, b8_0, b9_0] [b3_3, b4_3, b5_3]).bind fun v5 => some v5) (frk (b7_1 != 0) (Dspec_l6Clash3_2 n b3_0 b3_1 b3_2 b3_3 b4_0 b4_1 b4_2 b4_3 b5_0 b5_1 b5_2 b5_3 b7_0 b7_1 b7_2 b8_0 b8_1 b8_2 b9_0 b9_1 b9_2) (frk (b8_1 != 0) (Dspec_l6Clash3_2 n b3_0 b3_1 b3_2 b3_3 b4_0 b4_1 b4_2 b4_3 b5_0 b5_1 b5_2 b5_3 b7_0 b7_1 b7_2 b8_0 b8_1 b8_2 b9_0 b9_1 b9_2) (Dspec_l6Clash3_3 n (b9_1 != 0) b3_0 b3_1 b3_2 b3_3 b4_0 b4_1 b4_2 b4_3 b5_0 b5_1 b5_2 b5_3 b7_0 b7_1 b7_2 b8_0 b8_1 b8_2 b9_0 b9_1 b9_2)))
theorem Tspec_l6Clash3_1 {Y} (n : Nat) (t44 : Bool) (b3_0 b3_1 b3_2 b3_3 b4_0 b4_1 b4_2 b4_3 b5_0 b5_1 b5_2 b5_3 b7_0 b7_1 b7_2 b8_0 b8_1 b8_2 b9_0 b9_1 b9_2 : Int) (r : Bool) (h : Dspec_l6Clash3_1 n t44 b3_0 b3_1 b3_2 b3_3 b4_0 b4_1 b4_2 b4_3 b5_0 b5_1 b5_2 b5_3 b7_0 b7_1 b7_2 b8_0 b8_1 b8_2 b9_0 b9_1 b9_2 = some r) : Wk Try.prog H Y 98 [.code (cp [1, 1, 1, 1, 1, 0, 1, 0, 0, 1, 0, 0, 1] (bodyOf Try.f98)), .blk 1, .code (cp [1, 1, 1, 1, 1, 0, 1, 0, 0, 1, 1] (bodyOf Try.f98)), .lp (cp [1, 1, 1, 1, 1, 0, 1, 0] (bodyOf Try.f98)), .blk 0, .code (cp [1, 1, 1, 1, 1, 1] (bodyOf Try.f98))] (FinX Try.prog Try.f98 [] (bl r) []) ⟨[(3, .ptr 3 0), (4, .ptr 4 0), (5, .ptr 5 0), (7, .ptr 7 0), (8, .ptr 8 0), (9, .ptr 9 0), (10, i64 0), (44, bl t44)], [(3, ⟨true, 0, [i64 b3_0, i64 b3_1, i64 b3_2, i64 b3_3]⟩), (4, ⟨true, 0, [i64 b4_0, i64 b4_1, i64 b4_2, i64 b4_3]⟩), (5, ⟨true, 0, [i64 b5_0, i64 b5_1, i64 b5_2, i64 b5_3]⟩), (7, ⟨true, 0, [i64 b7_0, i64 b7_1, i64 b7_2]⟩), (8, ⟨true, 0, [i64 b8_0, i64 b8_1, i64 b8_2]⟩), (9, ⟨true, 0, [i64 b9_0, i64 b9_1, i64 b9_2]⟩)]⟩ := by
  unfold Dspec_l6Clash3_1 at h
  refine x_frk 0 [] onil h (by kernel_rfl) (fun h => ?_) (fun h => ?_)
  · obtain ⟨v5, hv5, h⟩ := bind_some h
    replace h := Option.some.inj h; subst h
    exact x_end 22 [(17, .call [] [(eInt).f [b3_3, b4_3, b5_3], (eInt).f [b7_0, b8_0, b9_0]] (bl v5) [])] [] (ocons (Tspec_l6Sum (Y := Y) n [b7_0, b8_0, b9_0] [b3_3, b4_3, b5_3] _ hv5) (ocons (len_row (L := [b7_0, b8_0, b9_0]) eInt) (ocons (Enc.share eInt eInt sInt [b7_0, b8_0, b9_0]) (ocons (len_row (L := [b3_3, b4_3, b5_3]) eInt) (ocons (Enc.share eInt eInt sInt [b3_3, b4_3, b5_3]) onil))))) onil (by kernel_rfl)
  · refine x_frk 26 [] onil h (by kernel_rfl) (fun h => ?_) (fun h => ?_)
    · exact x_to 14 [] onil (Tspec_l6Clash3_2 n b3_0 b3_1 b3_2 b3_3 b4_0 b4_1 b4_2 b4_3 b5_0 b5_1 b5_2 b5_3 b7_0 b7_1 b7_2 b8_0 b8_1 b8_2 b9_0 b9_1 b9_2 r h) (by kernel_rfl)
    · refine x_frk 6 [] onil h (by kernel_rfl) (fun h => ?_) (fun h => ?_)
      · exact x_to 8 [] onil (Tspec_l6Clash3_2 n b3_0 b3_1 b3_2 b3_3 b4_0 b4_1 b4_2 b4_3 b5_0 b5_1 b5_2 b5_3 b7_0 b7_1 b7_2 b8_0 b8_1 b8_2 b9_0 b9_1 b9_2 r h) (by kernel_rfl)
      · exact x_to 6 [] onil (Tspec_l6Clash3_3 n (b9_1 != 0) b3_0 b3_1 b3_2 b3_3 b4_0 b4_1 b4_2 b4_3 b5_0 b5_1 b5_2 b5_3 b7_0 b7_1 b7_2 b8_0 b8_1 b8_2 b9_0 b9_1 b9_2 r h) (by kernel_rfl)
def Dspec_l6Clash3 (n : Nat) (a0 : Pl) (a1 : Pl) (a2 : Pl) : Option Bool :=
  (Dspec_l4Det3 a0 a1 a2).bind fun v0 => frk (v0 != 0) (some false) ((Dspec_l4Cross a1 a2).bind fun v1 => (Dspec_l4Cross a2 a0).bind fun v2 => (Dspec_l4Cross a0 a1).bind fun v3 => frk (v1.1 != 0) (Dspec_l6Clash3_0 n a0.A a0.B a0.C a0.D a1.A a1.B a1.C a1.D a2.A a2.B a2.C a2.D v1.1 v1.2.1 v1.2.2 v2.1 v2.2.1 v2.2.2 v3.1 v3.2.1 v3.2.2) (frk (v2.1 != 0) (Dspec_l6Clash3_0 n a0.A a0.B a0.C a0.D a1.A a1.B a1.C a1.D a2.A a2.B a2.C a2.D v1.1 v1.2.1 v1.2.2 v2.1 v2.2.1 v2.2.2 v3.1 v3.2.1 v3.2.2) (Dspec_l6Clash3_1 n (v3.1 != 0) a0.A a0.B a0.C a0.D a1.A a1.B a1.C a1.D a2.A a2.B a2.C a2.D v1.1 v1.2.1 v1.2.2 v2.1 v2.2.1 v2.2.2 v3.1 v3.2.1 v3.2.2)))
theorem Tspec_l6Clash3 {Y} (n : Nat) (a0 : Pl) (a1 : Pl) (a2 : Pl) (r : Bool) (h : Dspec_l6Clash3 n a0 a1 a2 = some r) : Big Try.prog H Y (.call 98 [.agg [i64 a0.A, i64 a0.B, i64 a0.C, i64 a0.D], .agg [i64 a1.A, i64 a1.B, i64 a1.C, i64 a1.D], .agg [i64 a2.A, i64 a2.B, i64 a2.C, i64 a2.D]] (lk []) (bl r) (lk [])) := by
  unfold Dspec_l6Clash3 at h
  refine x_call (fn := Try.f98) (c := bodyOf Try.f98) (bs0 := []) Try.func98 (by kernel_rfl) (by kernel_rfl) ?_
  obtain ⟨v0, hv0, h⟩ := bind_some h
  refine x_frk 16 [(7, .call [] [] (i64 v0) [])] (ocons (Tspec_l4Det3 (Y := Y) a0 a1 a2 _ hv0) onil) h (by kernel_rfl) (fun h => ?_) (fun h => ?_)
  · replace h := Option.some.inj h; subst h
    exact x_end 4 [] [] onil onil (by kernel_rfl)
  · obtain ⟨v1, hv1, h⟩ := bind_some h
    obtain ⟨v2, hv2, h⟩ := bind_some h
    obtain ⟨v3, hv3, h⟩ := bind_some h
    refine x_frk 49 [(2, .call [] [] (.agg [i64 v1.1, i64 v1.2.1, i64 v1.2.2]) []), (4, .call [] [] (.agg [i64 v2.1, i64 v2.2.1, i64 v2.2.2]) []), (4, .call [] [] (.agg [i64 v3.1, i64 v3.2.1, i64 v3.2.2]) [])] (ocons (Tspec_l4Cross (Y := Y) a1 a2 _ hv1) (ocons (Tspec_l4Cross (Y := Y) a2 a0 _ hv2) (ocons (Tspec_l4Cross (Y := Y) a0 a1 _ hv3) onil))) h (by kernel_rfl) (fun h => ?_) (fun h => ?_)
    · exact x_to 14 [] onil (Tspec_l6Clash3_0 n a0.A a0.B a0.C a0.D a1.A a1.B a1.C a1.D a2.A a2.B a2.C a2.D v1.1 v1.2.1 v1.2.2 v2.1 v2.2.1 v2.2.2 v3.1 v3.2.1 v3.2.2 r h) (by kernel_rfl)
    · refine x_frk 6 [] onil h (by kernel_rfl) (fun h => ?_) (fun h => ?_)
      · exact x_to 8 [] onil (Tspec_l6Clash3_0 n a0.A a0.B a0.C a0.D a1.A a1.B a1.C a1.D a2.A a2.B a2.C a2.D v1.1 v1.2.1 v1.2.2 v2.1 v2.2.1 v2.2.2 v3.1 v3.2.1 v3.2.2 r h) (by kernel_rfl)
      · exact x_to 6 [] onil (Tspec_l6Clash3_1 n (v3.1 != 0) a0.A a0.B a0.C a0.D a1.A a1.B a1.C a1.D a2.A a2.B a2.C a2.D v1.1 v1.2.1 v1.2.2 v2.1 v2.2.1 v2.2.2 v3.1 v3.2.1 v3.2.2 r h) (by kernel_rfl)
/-! spec.l6Clash4 -/
def Dspec_l6Clash4 (n : Nat) (a0 : Pl) (a1 : Pl) (a2 : Pl) (a3 : Pl) : Option Bool :=
  (Dspec_l4Det3 a1 a2 a3).bind fun v0 => (Dspec_l4Det3 a0 a2 a3).bind fun v1 => (Dspec_l4Det3 a0 a1 a3).bind fun v2 => (Dspec_l4Det3 a0 a1 a2).bind fun v3 => (Dspec_l6Sum n [v0, w64 (0 - v1), v2, w64 (0 - v3)] [a0.D, a1.D, a2.D, a3.D]).bind fun v4 => some v4
theorem Tspec_l6Clash4 {Y} (n : Nat) (a0 : Pl) (a1 : Pl) (a2 : Pl) (a3 : Pl) (r : Bool) (h : Dspec_l6Clash4 n a0 a1 a2 a3 = some r) : Big Try.prog H Y (.call 99 [.agg [i64 a0.A, i64 a0.B, i64 a0.C, i64 a0.D], .agg [i64 a1.A, i64 a1.B, i64 a1.C, i64 a1.D], .agg [i64 a2.A, i64 a2.B, i64 a2.C, i64 a2.D], .agg [i64 a3.A, i64 a3.B, i64 a3.C, i64 a3.D]] (lk []) (bl r) (lk [])) := by
  unfold Dspec_l6Clash4 at h
  refine x_call (fn := Try.f99) (c := bodyOf Try.f99) (bs0 := []) Try.func99 (by kernel_rfl) (by kernel_rfl) ?_
  obtain ⟨v0, hv0, h⟩ := bind_some h
  obtain ⟨v1, hv1, h⟩ := bind_some h
  obtain ⟨v2, hv2, h⟩ := bind_some h
  obtain ⟨v3, hv3, h⟩ := bind_some h
  obtain ⟨v4, hv4, h⟩ := bind_some h
  replace h := Option.some.inj h; subst h
  exact x_end 46 [(8, .call [] [] (i64 v0) []), (3, .call [] [] (i64 v1) []), (4, .call [] [] (i64 v2) []), (3, .call [] [] (i64 v3) []), (13, .call [] [(eInt).f [a0.D, a1.D, a2.D, a3.D], (eInt).f [v0, w64 (0 - v1), v2, w64 (0 - v3)]] (bl v4) [])] [] (ocons (Tspec_l4Det3 (Y := Y) a1 a2 a3 _ hv0) (ocons (Tspec_l4Det3 (Y := Y) a0 a2 a3 _ hv1) (ocons (Tspec_l4Det3 (Y := Y) a0 a1 a3 _ hv2) (ocons (Tspec_l4Det3 (Y := Y) a0 a1 a2 _ hv3) (ocons (Tspec_l6Sum (Y := Y) n [v0, w64 (0 - v1), v2, w64 (0 - v3)] [a0.D, a1.D, a2.D, a3.D] _ hv4) (ocons (len_row (L := [v0, w64 (0 - v1), v2, w64 (0 - v3)]) eInt) (ocons (Enc.share eInt eInt sInt [v0, w64 (0 - v1), v2, w64 (0 - v3)]) (ocons (len_row (L := [a0.D, a1.D, a2.D, a3.D]) eInt) (ocons (Enc.share eInt eInt sInt [a0.D, a1.D, a2.D, a3.D]) onil))))))))) onil (by kernel_rfl)
/-! spec.l6With -/
def Dspec_l6With_0 (n : Nat) (rec1 : Int → Option Bool) (_rec0 : Int → Option Bool) (t6 : Int) (t0 : List Pl) (t5 b3_0 b3_1 b3_2 b3_3 t7 : Int) (rec2 : Int → Option Bool) (a : Int) : Option Bool :=
  match a with
  | t8 => frk (decide (t8 < t5)) ((lget t0 t6).bind fun v5 => (lget t0 t7).bind fun v6 => (lget t0 t8).bind fun v7 => (Dspec_l6Clash4 n v5 v6 v7 (Pl.mk b3_0 b3_1 b3_2 b3_3)).bind fun v8 => frk v8 (some true) (rec2 (w64 (t8 + 1)))) (rec1 (w64 (t7 + 1)))
theorem Tspec_l6With_0 {Y} (n : Nat) (rec1 : Int → Option Bool) (rec0 : Int → Option Bool) (t6 : Int) (t0 : List Pl) (t5 b3_0 b3_1 b3_2 b3_3 : Int) (hrec1 : ∀ (a : Int) (r : Bool), rec1 a = some r → Wk Try.prog H Y 65 [.code (cp [1, 1, 0, 1, 0, 0, 1, 0, 0, 1, 1, 0] (bodyOf Try.f65)), .blk 2, .blk 1, .code (cp [1, 1, 0, 1, 0, 0, 1, 1] (bodyOf Try.f65)), .lp (cp [1, 1, 0, 1, 0] (bodyOf Try.f65)), .blk 0, .code (cp [1, 1, 1] (bodyOf Try.f65))] (FinX Try.prog Try.f65 [] (bl r) []) ⟨[(0, .sl false 4 t0.length ((ePl).f t0)), (3, .ptr 3 0), (5, i64 t5), (6, i64 t6), (7, i64 a)], [(3, ⟨true, 0, [i64 b3_0, i64 b3_1, i64 b3_2, i64 b3_3]⟩)]⟩) (_hrec0 : ∀ (a : Int) (r : Bool), rec0 a = some r → Wk Try.prog H Y 65 [.code (cp [1, 1, 0, 1, 0] (bodyOf Try.f65)), .blk 0, .code (cp [1, 1, 1] (bodyOf Try.f65))] (FinX Try.prog Try.f65 [] (bl r) []) ⟨[(0, .sl false 4 t0.length ((ePl).f t0)), (3, .ptr 3 0), (5, i64 t5), (6, i64 a)], [(3, ⟨true, 0, [i64 b3_0, i64 b3_1, i64 b3_2, i64 b3_3]⟩)]⟩) (t7 : Int) : ∀ (m : Nat) (a : Int) (r : Bool), loopN (Dspec_l6With_0 n rec1 rec0 t6 t0 t5 b3_0 b3_1 b3_2 b3_3 t7) m a = some r → Wk Try.prog H Y 65 [.code (cp [1, 1, 0, 1, 0, 0, 1, 0, 0, 1, 1, 0, 0, 1, 0, 0, 1, 1, 0] (bodyOf Try.f65)), .blk 4, .blk 3, .code (cp [1, 1, 0, 1, 0, 0, 1, 0, 0, 1, 1, 0, 0, 1, 1] (bodyOf Try.f65)), .lp (cp [1, 1, 0, 1, 0, 0, 1, 0, 0, 1, 1, 0] (bodyOf Try.f65)), .blk 2, .blk 1, .code (cp [1, 1, 0, 1, 0, 0, 1, 1] (bodyOf Try.f65)), .lp (cp [1, 1, 0, 1, 0] (bodyOf Try.f65)), .blk 0, .code (cp [1, 1, 1] (bodyOf Try.f65))] (FinX Try.prog Try.f65 [] (bl r) []) ⟨[(0, .sl false 4 t0.length ((ePl).f t0)), (3, .ptr 3 0), (5, i64 t5), (6, i64 t6), (7, i64 t7), (8, i64 a)], [(3, ⟨true, 0, [i64 b3_0, i64 b3_1, i64 b3_2, i64 b3_3]⟩)]⟩ := by
  refine loopN_ind (fun _rec2 hrec2 a r h => ?_)
  obtain ⟨t8, rfl⟩ : ∃ x, x = a := ⟨a, rfl⟩
  unfold Dspec_l6With_0 at h
  refine x_frk 8 [] onil h (by kernel_rfl) (fun h => ?_) (fun h => ?_)
  · obtain ⟨v5, hv5, h⟩ := bind_some h
    obtain ⟨v6, hv6, h⟩ := bind_some h
    obtain ⟨v7, hv7, h⟩ := bind_some h
    obtain ⟨v8, hv8, h⟩ := bind_some h
    refine x_frk 20 [(2, .val (.cptr (ePl.c v5 ++ (ePl).f ((t0).drop (Int.toNat t6 + 1))))), (3, .val (.cptr (ePl.c v6 ++ (ePl).f ((t0).drop (Int.toNat t7 + 1))))), (3, .val (.cptr (ePl.c v7 ++ (ePl).f ((t0).drop (Int.toNat t8 + 1))))), (2, .call [] [] (bl v8) [])] (ocons (ix ePl hv5) (ocons (ix ePl hv6) (ocons (ix ePl hv7) (ocons (Tspec_l6Clash4 (Y := Y) n v5 v6 v7 (Pl.mk b3_0 b3_1 b3_2 b3_3) _ hv8) onil)))) h (by kernel_rfl) (fun h => ?_) (fun h => ?_)
    · replace h := Option.some.inj h; subst h
      exact x_end 4 [] [] onil onil (by kernel_rfl)
    · exact x_to 8 [] onil (hrec2 (w64 (t8 + 1)) r h) (by kernel_rfl)
  · exact x_to 8 [] onil (hrec1 (w64 (t7 + 1)) r h) (by kernel_rfl)
def Dspec_l6With_1 (n : Nat) (rec0 : Int → Option Bool) (t0 : List Pl) (t5 b3_0 b3_1 b3_2 b3_3 t6 : Int) (rec1 : Int → Option Bool) (a : Int) : Option Bool :=
  match a with
  | t7 => frk (decide (t7 < t5)) ((lget t0 t6).bind fun v2 => (lget t0 t7).bind fun v3 => (Dspec_l6Clash3 n v2 v3 (Pl.mk b3_0 b3_1 b3_2 b3_3)).bind fun v4 => frk v4 (some true) (loopN (Dspec_l6With_0 n rec1 rec0 t6 t0 t5 b3_0 b3_1 b3_2 b3_3 t7) n (w64 (t7 + 1)))) (rec0 (w64 (t6 + 1)))
theorem Tspec_l6With_1 {Y} (n : Nat) (rec0 : Int → Option Bool) (t0 : List Pl) (t5 b3_0 b3_1 b3_2 b3_3 : Int) (hrec0 : ∀ (a : Int) (r : Bool), rec0 a = some r → Wk Try.prog H Y 65 [.code (cp [1, 1, 0, 1, 0] (bodyOf Try.f65)), .blk 0, .code (cp [1, 1, 1] (bodyOf Try.f65))] (FinX Try.prog Try.f65 [] (bl r) []) ⟨[(0, .sl false 4 t0.length ((ePl).f t0)), (3, .ptr 3 0), (5, i64 t5), (6, i64 a)], [(3, ⟨true, 0, [i64 b3_0, i64 b3_1, i64 b3_2, i64 b3_3]⟩)]⟩) (t6 : Int) : ∀ (m : Nat) (a : Int) (r : Bool), loopN (Dspec_l6With_1 n rec0 t0 t5 b3_0 b3_1 b3_2 b3_3 t6) m a = some r → Wk Try.prog H Y 65 [.code (cp [1, 1, 0, 1, 0, 0, 1, 0, 0, 1, 1, 0] (bodyOf Try.f65)), .blk 2, .blk 1, .code (cp [1, 1, 0, 1, 0, 0, 1, 1] (bodyOf Try.f65)), .lp (cp [1, 1, 0, 1, 0] (bodyOf Try.f65)), .blk 0, .code (cp [1, 1, 1] (bodyOf Try.f65))] (FinX Try.prog Try.f65 [] (bl r) []) ⟨[(0, .sl false 4 t0.length ((ePl).f t0)), (3, .ptr 3 0), (5, i64 t5), (6, i64 t6), (7, i64 a)], [(3, ⟨true, 0, [i64 b3_0, i64 b3_1, i64 b3_2, i64 b3_3]⟩)]⟩ := by
  refine loopN_ind (fun rec1 hrec1 a r h => ?_)
  obtain ⟨t7, rfl⟩ : ∃ x, x = a := ⟨a, rfl⟩
  unfold Dspec_l6With_1 at h
  refine x_frk 8 [] onil h (by kernel_rfl) (fun h => ?_) (fun h => ?_)
  · obtain ⟨v2, hv2, h⟩ := bind_some h
    obtain ⟨v3, hv3, h⟩ := bind_some h
    obtain ⟨v4, hv4, h⟩ := bind_some h
    refine x_frk 17 [(2, .val (.cptr (ePl.c v2 ++ (ePl).f ((t0).drop (Int.toNat t6 + 1))))), (3, .val (.cptr (ePl.c v3 ++ (ePl).f ((t0).drop (Int.toNat t7 + 1))))), (2, .call [] [] (bl v4) [])] (ocons (ix ePl hv2) (ocons (ix ePl hv3) (ocons (Tspec_l6Clash3 (Y := Y) n v2 v3 (Pl.mk b3_0 b3_1 b3_2 b3_3) _ hv4) onil))) h (by kernel_rfl) (fun h => ?_) (fun h => ?_)
    · replace h := Option.some.inj h; subst h
      exact x_end 4 [] [] onil onil (by kernel_rfl)
    · exact x_to 8 [] onil (Tspec_l6With_0 n rec1 rec0 t6 t0 t5 b3_0 b3_1 b3_2 b3_3 hrec1 hrec0 t7 n (w64 (t7 + 1)) r h) (by kernel_rfl)
  · exact x_to 8 [] onil (hrec0 (w64 (t6 + 1)) r h) (by kernel_rfl)
def Dspec_l6With_2 (n : Nat) (t0 : List Pl) (t5 b3_0 b3_1 b3_2 b3_3 : Int) (rec0 : Int → Option Bool) (a : Int) : Option Bool :=
  match a with
  | t6 => frk (decide (t6 < t5)) ((lget t0 t6).bind fun v0 => (Dspec_l6Clash2 v0 (Pl.mk b3_0 b3_1 b3_2 b3_3)).bind fun v1 => frk v1 (some true) (loopN (Dspec_l6With_1 n rec0 t0 t5 b3_0 b3_1 b3_2 b3_3 t6) n (w64 (t6 + 1)))) (some false)
theorem Tspec_l6With_2 {Y} (n : Nat) (t0 : List Pl) (t5 b3_0 b3_1 b3_2 b3_3 : Int) : ∀ (m : Nat) (a : Int) (r : Bool), loopN (Dspec_l6With_2 n t0 t5 b3_0 b3_1 b3_2 b3_3) m a = some r → Wk Try.prog H Y 65 [.code (cp [1, 1, 0, 1, 0] (bodyOf Try.f65)), .blk 0, .code (cp [1, 1, 1] (bodyOf Try.f65))] (FinX Try.prog Try.f65 [] (bl r) []) ⟨[(0, .sl false 4 t0.length ((ePl).f t0)), (3, .ptr 3 0), (5, i64 t5), (6, i64 a)], [(3, ⟨true, 0, [i64 b3_0, i64 b3_1, i64 b3_2, i64 b3_3]⟩)]⟩ := by
  refine loopN_ind (fun rec0 hrec0 a r h => ?_)
  obtain ⟨t6, rfl⟩ : ∃ x, x = a := ⟨a, rfl⟩
  unfold Dspec_l6With_2 at h
  refine x_frk 8 [] onil h (by kernel_rfl) (fun h => ?_) (fun h => ?_)
  · obtain ⟨v0, hv0, h⟩ := bind_some h
    obtain ⟨v1, hv1, h⟩ := bind_some h
    refine x_frk 13 [(2, .val (.cptr (ePl.c v0 ++ (ePl).f ((t0).drop (Int.toNat t6 + 1))))), (2, .call [] [] (bl v1) [])] (ocons (ix ePl hv0) (ocons (Tspec_l6Clash2 (Y := Y) v0 (Pl.mk b3_0 b3_1 b3_2 b3_3) _ hv1) onil)) h (by kernel_rfl) (fun h => ?_) (fun h => ?_)
    · replace h := Option.some.inj h; subst h
      exact x_end 4 [] [] onil onil (by kernel_rfl)
    · exact x_to 8 [] onil (Tspec_l6With_1 n rec0 t0 t5 b3_0 b3_1 b3_2 b3_3 hrec0 t6 n (w64 (t6 + 1)) r h) (by kernel_rfl)
  · replace h := Option.some.inj h; subst h
    exact x_end 5 [] [] onil onil (by kernel_rfl)
def Dspec_l6With (n : Nat) (a0 : (List Pl)) (a1 : Pl) : Option Bool :=
  loopN (Dspec_l6With_2 n a0 (a0.length : Int) a1.A a1.B a1.C a1.D) n 0
theorem Tspec_l6With {Y} (n : Nat) (a0 : (List Pl)) (a1 : Pl) (r : Bool) (h : Dspec_l6With n a0 a1 = some r) : Big Try.prog H Y (.call 65 [.sl false 4 a0.length ((ePl).f a0), .agg [i64 a1.A, i64 a1.B, i64 a1.C, i64 a1.D]] (lk []) (bl r) (lk [])) := by
  unfold Dspec_l6With at h
  refine x_call (fn := Try.f65) (c := bodyOf Try.f65) (bs0 := []) Try.func65 (by kernel_rfl) (by kernel_rfl) ?_
  exact x_to 17 [] onil (Tspec_l6With_2 n a0 (a0.length : Int) a1.A a1.B a1.C a1.D n 0 r h) (by kernel_rfl)
/-! spec.l6Open -/
def Dspec_l6Open_0 (n : Nat) (t0 : List Pl) (rec0 : Int → Option Bool) (a : Int) : Option Bool :=
  match a with
  | t3 => frk (decide (t3 < (t0.length : Int))) ((lsl t0 0 t3).bind fun v0 => (lget t0 t3).bind fun v1 => (Dspec_l6With n v0 v1).bind fun v2 => frk v2 (some false) (rec0 (w64 (t3 + 1)))) (some true)
theorem Tspec_l6Open_0 {Y} (n : Nat) (t0 : List Pl) : ∀ (m : Nat) (a : Int) (r : Bool), loopN (Dspec_l6Open_0 n t0) m a = some r → Wk Try.prog H Y 64 [.code (cp [1, 0, 1, 0] (bodyOf Try.f64)), .blk 0, .code (cp [1, 1] (bodyOf Try.f64))] (FinX Try.prog Try.f64 [] (bl r) []) ⟨[(0, .sl false 4 t0.length ((ePl).f t0)), (3, i64 a)], []⟩ := by
  refine loopN_ind (fun _rec0 hrec0 a r h => ?_)
  obtain ⟨t3, rfl⟩ : ∃ x, x = a := ⟨a, rfl⟩
  unfold Dspec_l6Open_0 at h
  refine x_frk 9 [] onil h (by kernel_rfl) (fun h => ?_) (fun h => ?_)
  · obtain ⟨v0, hv0, h⟩ := bind_some h
    obtain ⟨v1, hv1, h⟩ := bind_some h
    obtain ⟨v2, hv2, h⟩ := bind_some h
    refine x_frk 14 [(2, .val (.sl false 4 v0.length ((ePl).f v0))), (2, .val (.cptr (ePl.c v1 ++ (ePl).f ((t0).drop (Int.toNat t3 + 1))))), (1, .call [] [] (bl v2) [])] (ocons (slF ePl hv0) (ocons (ix ePl hv1) (ocons (Tspec_l6With (Y := Y) n v0 v1 _ hv2) onil))) h (by kernel_rfl) (fun h => ?_) (fun h => ?_)
    · replace h := Option.some.inj h; subst h
      exact x_end 4 [] [] onil onil (by kernel_rfl)
    · exact x_to 8 [] onil (hrec0 (w64 (t3 + 1)) r h) (by kernel_rfl)
  · replace h := Option.some.inj h; subst h
    exact x_end 5 [] [] onil onil (by kernel_rfl)
def Dspec_l6Open (n : Nat) (a0 : (List Pl)) : Option Bool :=
  loopN (Dspec_l6Open_0 n a0) n 1
theorem Tspec_l6Open {Y} (n : Nat) (a0 : (List Pl)) (r : Bool) (h : Dspec_l6Open n a0 = some r) : Big Try.prog H Y (.call 64 [.sl false 4 a0.length ((ePl).f a0)] (lk []) (bl r) (lk [])) := by
  unfold Dspec_l6Open at h
  refine x_call (fn := Try.f64) (c := bodyOf Try.f64) (bs0 := []) Try.func64 (by kernel_rfl) (by kernel_rfl) ?_
  exact x_to 10 [] onil (Tspec_l6Open_0 n a0 n 1 r h) (by kernel_rfl)
/-! spec.Open -/
def Dspec_Open (n : Nat) (a0 : (List Pl)) : Option Bool :=
  (Dspec_l6Right n a0).bind fun v0 => frk v0 ((Dspec_l6Open n a0).bind fun v1 => some v1) (some false)
theorem Tspec_Open {Y} (n : Nat) (a0 : (List Pl)) (r : Bool) (h : Dspec_Open n a0 = some r) : Big Try.prog H Y (.call 38 [.sl false 4 a0.length ((ePl).f a0)] (lk []) (bl r) (lk [])) := by
  unfold Dspec_Open at h
  refine x_call (fn := Try.f38) (c := bodyOf Try.f38) (bs0 := []) Try.func38 (by kernel_rfl) (by kernel_rfl) ?_
  obtain ⟨v0, hv0, h⟩ := bind_some h
  refine x_frk 9 [(2, .call [] [] (bl v0) [])] (ocons (Tspec_l6Right (Y := Y) n a0 _ hv0) onil) h (by kernel_rfl) (fun h => ?_) (fun h => ?_)
  · obtain ⟨v1, hv1, h⟩ := bind_some h
    replace h := Option.some.inj h; subst h
    exact x_end 5 [(1, .call [] [] (bl v1) [])] [] (ocons (Tspec_l6Open (Y := Y) n a0 _ hv1) onil) onil (by kernel_rfl)
  · replace h := Option.some.inj h; subst h
    exact x_end 5 [] [] onil onil (by kernel_rfl)
/-! spec.l3Flip -/
def Dspec_l3Flip (a0 : Pl) : Option Pl :=
  some (Pl.mk (w64 (0 - a0.A)) (w64 (0 - a0.B)) (w64 (0 - a0.C)) (w64 (0 - a0.D)))
theorem Tspec_l3Flip {Y} (a0 : Pl) (r : Pl) (h : Dspec_l3Flip a0 = some r) : Big Try.prog H Y (.call 62 [.agg [i64 a0.A, i64 a0.B, i64 a0.C, i64 a0.D]] (lk []) (.agg [i64 r.A, i64 r.B, i64 r.C, i64 r.D]) (lk [])) := by
  unfold Dspec_l3Flip at h
  refine x_call (fn := Try.f62) (c := bodyOf Try.f62) (bs0 := []) Try.func62 (by kernel_rfl) (by kernel_rfl) ?_
  replace h := Option.some.inj h; subst h
  exact x_end 22 [] [] onil onil (by kernel_rfl)
/-! spec.l7Needed -/
def Dspec_l7Needed_0 (_n : Nat) (rec1 : (Bool × Int × List Int × List Pl) → Option (List Int)) (_rec0 : (Int × List Int) → Option (List Int)) (t4 : Int) (_t0 : List Pl) (t6 : Bool) (t7 : Int) (l8 : List Int) (l15 : List Pl) : Option (List Int) :=
  frk t6 (rec1 (decide (t7 ≥ t4), w64 (t7 + 1), l8, l15)) (rec1 (false, w64 (t7 + 1), l8, l15))
theorem Tspec_l7Needed_0 {Y} (n : Nat) (rec1 : (Bool × Int × List Int × List Pl) → Option (List Int)) (rec0 : (Int × List Int) → Option (List Int)) (t4 : Int) (t0 : List Pl) (hrec1 : ∀ (a : (Bool × Int × List Int × List Pl)) (r : (List Int)), rec1 a = some r → Wk Try.prog H Y 39 [.code (cp [1, 1, 0, 1, 0, 0, 1, 0, 0, 1, 1, 0, 1, 0] (bodyOf Try.f39)), .blk 2, .code (cp [1, 1, 0, 1, 0, 0, 1, 0, 0, 1, 1, 1] (bodyOf Try.f39)), .blk 1, .code (cp [1, 1, 0, 1, 0, 0, 1, 1] (bodyOf Try.f39)), .lp (cp [1, 1, 0, 1, 0] (bodyOf Try.f39)), .blk 0, .code (cp [1, 1, 1] (bodyOf Try.f39))] (FinX Try.prog Try.f39 [] (.sl true 1 r.length ((eInt).f r)) []) ⟨[(0, .sl false 4 t0.length ((ePl).f t0)), (3, .msl 8 a.2.2.1.length), (4, i64 t4), (5, .msl 15 a.2.2.2.length), (6, bl a.1), (7, i64 a.2.1)], [(8, ⟨true, 1, (eInt).f a.2.2.1⟩), (15, ⟨true, 4, (ePl).f a.2.2.2⟩)]⟩) (_hrec0 : ∀ (a : (Int × List Int)) (r : (List Int)), rec0 a = some r → Wk Try.prog H Y 39 [.code (cp [1, 1, 0, 1, 0] (bodyOf Try.f39)), .blk 0, .code (cp [1, 1, 1] (bodyOf Try.f39))] (FinX Try.prog Try.f39 [] (.sl true 1 r.length ((eInt).f r)) []) ⟨[(0, .sl false 4 t0.length ((ePl).f t0)), (3, .msl 8 a.2.length), (4, i64 a.1)], [(8, ⟨true, 1, (eInt).f a.2⟩)]⟩) (t6 : Bool) (t7 : Int) (l8 : List Int) (l15 : List Pl) (r : (List Int)) (h : Dspec_l7Needed_0 n rec1 rec0 t4 t0 t6 t7 l8 l15 = some r) : Wk Try.prog H Y 39 [.code (cp [1, 1, 0, 1, 0, 0, 1, 0, 0, 1, 1, 0, 1, 0, 0, 1, 0, 0, 0, 1, 0, 0] (bodyOf Try.f39)), .code (cp [1, 1, 0, 1, 0, 0, 1, 0, 0, 1, 1, 0, 1, 0, 0, 1, 0, 0, 0, 1, 0, 1] (bodyOf Try.f39)), .code (cp [1, 1, 0, 1, 0, 0, 1, 0, 0, 1, 1, 0, 1, 0, 0, 1, 0, 0, 1] (bodyOf Try.f39)), .blk 3, .code (cp [1, 1, 0, 1, 0, 0, 1, 0, 0, 1, 1, 0, 1, 0, 0, 1, 1] (bodyOf Try.f39)), .lp (cp [1, 1, 0, 1, 0, 0, 1, 0, 0, 1, 1, 0, 1, 0] (bodyOf Try.f39)), .blk 2, .code (cp [1, 1, 0, 1, 0, 0, 1, 0, 0, 1, 1, 1] (bodyOf Try.f39)), .blk 1, .code (cp [1, 1, 0, 1, 0, 0, 1, 1] (bodyOf Try.f39)), .lp (cp [1, 1, 0, 1, 0] (bodyOf Try.f39)), .blk 0, .code (cp [1, 1, 1] (bodyOf Try.f39))] (FinX Try.prog Try.f39 [] (.sl true 1 r.length ((eInt).f r)) []) ⟨[(0, .sl false 4 t0.length ((ePl).f t0)), (3, .msl 8 l8.length), (4, i64 t4), (5, .msl 15 l15.length), (6, bl t6), (7, i64 t7)], [(8, ⟨true, 1, (eInt).f l8⟩), (15, ⟨true, 4, (ePl).f l15⟩)]⟩ := by
  unfold Dspec_l7Needed_0 at h
  refine x_frk 3 [] onil h (by kernel_rfl) (fun h => ?_) (fun h => ?_)
  · exact x_to 13 [] onil (hrec1 (decide (t7 ≥ t4), w64 (t7 + 1), l8, l15) r h) (by kernel_rfl)
  · exact x_to 13 [] onil (hrec1 (false, w64 (t7 + 1), l8, l15) r h) (by kernel_rfl)
def Dspec_l7Needed_1 (_n : Nat) (rec1 : (Bool × Int × List Int × List Pl) → Option (List Int)) (_rec0 : (Int × List Int) → Option (List Int)) (t4 : Int) (t0 : List Pl) (t6 : Bool) (t7 : Int) (t35 : Bool) (l8 : List Int) (l15 : List Pl) : Option (List Int) :=
  frk t35 (frk t6 (rec1 (decide (t7 ≥ t4), w64 (t7 + 1), l8, l15)) (rec1 (false, w64 (t7 + 1), l8, l15))) ((lget t0 t7).bind fun v2 => chk (apB 32 (l15.length + 1)) (rec1 (t6, w64 (t7 + 1), l8, (l15 ++ [v2]))))
theorem Tspec_l7Needed_1 {Y} (n : Nat) (rec1 : (Bool × Int × List Int × List Pl) → Option (List Int)) (rec0 : (Int × List Int) → Option (List Int)) (t4 : Int) (t0 : List Pl) (hrec1 : ∀ (a : (Bool × Int × List Int × List Pl)) (r : (List Int)), rec1 a = some r → Wk Try.prog H Y 39 [.code (cp [1, 1, 0, 1, 0, 0, 1, 0, 0, 1, 1, 0, 1, 0] (bodyOf Try.f39)), .blk 2, .code (cp [1, 1, 0, 1, 0, 0, 1, 0, 0, 1, 1, 1] (bodyOf Try.f39)), .blk 1, .code (cp [1, 1, 0, 1, 0, 0, 1, 1] (bodyOf Try.f39)), .lp (cp [1, 1, 0, 1, 0] (bodyOf Try.f39)), .blk 0, .code (cp [1, 1, 1] (bodyOf Try.f39))] (FinX Try.prog Try.f39 [] (.sl true 1 r.length ((eInt).f r)) []) ⟨[(0, .sl false 4 t0.length ((ePl).f t0)), (3, .msl 8 a.2.2.1.length), (4, i64 t4), (5, .msl 15 a.2.2.2.length), (6, bl a.1), (7, i64 a.2.1)], [(8, ⟨true, 1, (eInt).f a.2.2.1⟩), (15, ⟨true, 4, (ePl).f a.2.2.2⟩)]⟩) (_hrec0 : ∀ (a : (Int × List Int)) (r : (List Int)), rec0 a = some r → Wk Try.prog H Y 39 [.code (cp [1, 1, 0, 1, 0] (bodyOf Try.f39)), .blk 0, .code (cp [1, 1, 1] (bodyOf Try.f39))] (FinX Try.prog Try.f39 [] (.sl true 1 r.length ((eInt).f r)) []) ⟨[(0, .sl false 4 t0.length ((ePl).f t0)), (3, .msl 8 a.2.length), (4, i64 a.1)], [(8, ⟨true, 1, (eInt).f a.2⟩)]⟩) (t6 : Bool) (t7 : Int) (t35 : Bool) (l8 : List Int) (l15 : List Pl) (r : (List Int)) (h : Dspec_l7Needed_1 n rec1 rec0 t4 t0 t6 t7 t35 l8 l15 = some r) : Wk Try.prog H Y 39 [.code (cp [1, 1, 0, 1, 0, 0, 1, 0, 0, 1, 1, 0, 1, 0, 0, 1, 0, 0, 0, 1] (bodyOf Try.f39)), .code (cp [1, 1, 0, 1, 0, 0, 1, 0, 0, 1, 1, 0, 1, 0, 0, 1, 0, 0, 1] (bodyOf Try.f39)), .blk 3, .code (cp [1, 1, 0, 1, 0, 0, 1, 0, 0, 1, 1, 0, 1, 0, 0, 1, 1] (bodyOf Try.f39)), .lp (cp [1, 1, 0, 1, 0, 0, 1, 0, 0, 1, 1, 0, 1, 0] (bodyOf Try.f39)), .blk 2, .code (cp [1, 1, 0, 1, 0, 0, 1, 0, 0, 1, 1, 1] (bodyOf Try.f39)), .blk 1, .code (cp [1, 1, 0, 1, 0, 0, 1, 1] (bodyOf Try.f39)), .lp (cp [1, 1, 0, 1, 0] (bodyOf Try.f39)), .blk 0, .code (cp [1, 1, 1] (bodyOf Try.f39))] (FinX Try.prog Try.f39 [] (.sl true 1 r.length ((eInt).f r)) []) ⟨[(0, .sl false 4 t0.length ((ePl).f t0)), (3, .msl 8 l8.length), (4, i64 t4), (5, .msl 15 l15.length), (6, bl t6), (7, i64 t7), (35, bl t35)], [(8, ⟨true, 1, (eInt).f l8⟩), (15, ⟨true, 4, (ePl).f l15⟩)]⟩ := by
  unfold Dspec_l7Needed_1 at h
  refine x_frk 0 [] onil h (by kernel_rfl) (fun h => ?_) (fun h => ?_)
  · refine x_frk 4 [] onil h (by kernel_rfl) (fun h => ?_) (fun h => ?_)
    · exact x_to 13 [] onil (hrec1 (decide (t7 ≥ t4), w64 (t7 + 1), l8, l15) r h) (by kernel_rfl)
    · exact x_to 13 [] onil (hrec1 (false, w64 (t7 + 1), l8, l15) r h) (by kernel_rfl)
  · obtain ⟨v2, hv2, h⟩ := bind_some h
    obtain ⟨c3, h⟩ := chk_some h
    exact x_to 19 [(3, .val (.cptr (ePl.c v2 ++ (ePl).f ((t0).drop (Int.toNat t7 + 1))))), (2, .app false (List.length (l15 ++ [v2])) ((ePl).f (l15 ++ [v2]))), (4, .ren 48 15)] (ocons (ix ePl hv2) (ocons (len_row' (L := l15) ePl) (ocons (app_one (L := l15) (M := [v2]) ePl c3) (ocons (app_new (L := l15) (M := [v2]) ePl) (ocons (app_m (L := l15) (M := [v2]) ePl rfl) (ocons (len_row' (L := [v2]) ePl) (ocons (Enc.noOwn ePl (fun _ => rfl) [v2]) (ocons (show 48 < 1000 ∧ 15 < 1000 by decide) onil)))))))) (hrec1 (t6, w64 (t7 + 1), l8, (l15 ++ [v2])) r h) (by kernel_rfl)
def Dspec_l7Needed_3 (_n : Nat) (rec0 : (Int × List Int) → Option (List Int)) (_t0 : List Pl) (t4 : Int) (t59 : Bool) (l8 : List Int) : Option (List Int) :=
  frk t59 (chk (apB 8 (l8.length + 1)) (rec0 (w64 (t4 + 1), (l8 ++ [t4])))) (rec0 (w64 (t4 + 1), l8))
theorem Tspec_l7Needed_3 {Y} (n : Nat) (rec0 : (Int × List Int) → Option (List Int)) (t0 : List Pl) (hrec0 : ∀ (a : (Int × List Int)) (r : (List Int)), rec0 a = some r → Wk Try.prog H Y 39 [.code (cp [1, 1, 0, 1, 0] (bodyOf Try.f39)), .blk 0, .code (cp [1, 1, 1] (bodyOf Try.f39))] (FinX Try.prog Try.f39 [] (.sl true 1 r.length ((eInt).f r)) []) ⟨[(0, .sl false 4 t0.length ((ePl).f t0)), (3, .msl 8 a.2.length), (4, i64 a.1)], [(8, ⟨true, 1, (eInt).f a.2⟩)]⟩) (t4 : Int) (t59 : Bool) (l8 : List Int) (r : (List Int)) (h : Dspec_l7Needed_3 n rec0 t0 t4 t59 l8 = some r) : Wk Try.prog H Y 39 [.code (cp [1, 1, 0, 1, 0, 0, 1, 0, 0, 1, 1, 1, 1] (bodyOf Try.f39)), .blk 1, .code (cp [1, 1, 0, 1, 0, 0, 1, 1] (bodyOf Try.f39)), .lp (cp [1, 1, 0, 1, 0] (bodyOf Try.f39)), .blk 0, .code (cp [1, 1, 1] (bodyOf Try.f39))] (FinX Try.prog Try.f39 [] (.sl true 1 r.length ((eInt).f r)) []) ⟨[(0, .sl false 4 t0.length ((ePl).f t0)), (3, .msl 8 l8.length), (4, i64 t4), (59, bl t59)], [(8, ⟨true, 1, (eInt).f l8⟩)]⟩ := by
  unfold Dspec_l7Needed_3 at h
  refine x_frk 0 [] onil h (by kernel_rfl) (fun h => ?_) (fun h => ?_)
  · obtain ⟨c7, h⟩ := chk_some h
    exact x_to 15 [(3, .app false (List.length (l8 ++ [t4])) ((eInt).f (l8 ++ [t4]))), (4, .ren 63 8)] (ocons (len_row' (L := l8) eInt) (ocons (app_one (L := l8) (M := [t4]) eInt c7) (ocons (app_new (L := l8) (M := [t4]) eInt) (ocons (app_m (L := l8) (M := [t4]) eInt rfl) (ocons (len_row' (L := [t4]) eInt) (ocons (Enc.noOwn eInt (fun _ => rfl) [t4]) (ocons (show 63 < 1000 ∧ 8 < 1000 by decide) onil))))))) (hrec0 (w64 (t4 + 1), (l8 ++ [t4])) r h) (by kernel_rfl)
  · exact x_to 8 [] onil (hrec0 (w64 (t4 + 1), l8) r h) (by kernel_rfl)
def Dspec_l7Needed_2 (n : Nat) (rec0 : (Int × List Int) → Option (List Int)) (t0 : List Pl) (t4 : Int) (t6 : Bool) (l8 : List Int) (l15 : List Pl) : Option (List Int) :=
  frk t6 ((lget t0 t4).bind fun v4 => (Dspec_l3Flip v4).bind fun v5 => (Dspec_l6With n l15 v5).bind fun v6 => Dspec_l7Needed_3 n rec0 t0 t4 (!v6) l8) (rec0 (w64 (t4 + 1), l8))
theorem Tspec_l7Needed_2 {Y} (n : Nat) (rec0 : (Int × List Int) → Option (List Int)) (t0 : List Pl) (hrec0 : ∀ (a : (Int × List Int)) (r : (List Int)), rec0 a = some r → Wk Try.prog H Y 39 [.code (cp [1, 1, 0, 1, 0] (bodyOf Try.f39)), .blk 0, .code (cp [1, 1, 1] (bodyOf Try.f39))] (FinX Try.prog Try.f39 [] (.sl true 1 r.length ((eInt).f r)) []) ⟨[(0, .sl false 4 t0.length ((ePl).f t0)), (3, .msl 8 a.2.length), (4, i64 a.1)], [(8, ⟨true, 1, (eInt).f a.2⟩)]⟩) (t4 : Int) (t6 : Bool) (l8 : List Int) (l15 : List Pl) (r : (List Int)) (h : Dspec_l7Needed_2 n rec0 t0 t4 t6 l8 l15 = some r) : Wk Try.prog H Y 39 [.code (cp [1, 1, 0, 1, 0, 0, 1, 0, 0, 1, 1, 1, 0] (bodyOf Try.f39)), .code (cp [1, 1, 0, 1, 0, 0, 1, 0, 0, 1, 1, 1, 1] (bodyOf Try.f39)), .blk 1, .code (cp [1, 1, 0, 1, 0, 0, 1, 1] (bodyOf Try.f39)), .lp (cp [1, 1, 0, 1, 0] (bodyOf Try.f39)), .blk 0, .code (cp [1, 1, 1] (bodyOf Try.f39))] (FinX Try.prog Try.f39 [] (.sl true 1 r.length ((eInt).f r)) []) ⟨[(0, .sl false 4 t0.length ((ePl).f t0)), (3, .msl 8 l8.length), (4, i64 t4), (5, .msl 15 l15.length), (6, bl t6)], [(8, ⟨true, 1, (eInt).f l8⟩), (15, ⟨true, 4, (ePl).f l15⟩)]⟩ := by
  unfold Dspec_l7Needed_2 at h
  refine x_frk 3 [] onil h (by kernel_rfl) (fun h => ?_) (fun h => ?_)
  · obtain ⟨v4, hv4, h⟩ := bind_some h
    obtain ⟨v5, hv5, h⟩ := bind_some h
    obtain ⟨v6, hv6, h⟩ := bind_some h
    exact x_to 10 [(3, .val (.cptr (ePl.c v4 ++ (ePl).f ((t0).drop (Int.toNat t4 + 1))))), (1, .call [] [] (.agg [i64 v5.A, i64 v5.B, i64 v5.C, i64 v5.D]) []), (0, .call [] [(ePl).f l15] (bl v6) [])] (ocons (ix ePl hv4) (ocons (Tspec_l3Flip (Y := Y) v4 _ hv5) (ocons (Tspec_l6With (Y := Y) n l15 v5 _ hv6) (ocons (len_row (L := l15) ePl) (ocons (Enc.share ePl ePl sPl l15) onil))))) (Tspec_l7Needed_3 n rec0 t0 hrec0 t4 (!v6) l8 r h) (by kernel_rfl)
  · exact x_to 19 [] onil (hrec0 (w64 (t4 + 1), l8) r h) (by kernel_rfl)
def Dspec_l7Needed_4 (n : Nat) (rec0 : (Int × List Int) → Option (List Int)) (t0 : List Pl) (t4 : Int) (rec1 : (Bool × Int × List Int × List Pl) → Option (List Int)) (a : (Bool × Int × List Int × List Pl)) : Option (List Int) :=
  match a with
  | (t6, t7, l8, l15) => frk (decide (t7 < (t0.length : Int))) (frk (t7 == t4) (Dspec_l7Needed_0 n rec1 rec0 t4 t0 t6 t7 l8 l15) ((lget t0 t7).bind fun v0 => (lget t0 t4).bind fun v1 => Dspec_l7Needed_1 n rec1 rec0 t4 t0 t6 t7 (v0.A == v1.A && (v0.B == v1.B && (v0.C == v1.C && (v0.D == v1.D && true)))) l8 l15)) (Dspec_l7Needed_2 n rec0 t0 t4 t6 l8 l15)
theorem Tspec_l7Needed_4 {Y} (n : Nat) (rec0 : (Int × List Int) → Option (List Int)) (t0 : List Pl) (hrec0 : ∀ (a : (Int × List Int)) (r : (List Int)), rec0 a = some r → Wk Try.prog H Y 39 [.code (cp [1, 1, 0, 1, 0] (bodyOf Try.f39)), .blk 0, .code (cp [1, 1, 1] (bodyOf Try.f39))] (FinX Try.prog Try.f39 [] (.sl true 1 r.length ((eInt).f r)) []) ⟨[(0, .sl false 4 t0.length ((ePl).f t0)), (3, .msl 8 a.2.length), (4, i64 a.1)], [(8, ⟨true, 1, (eInt).f a.2⟩)]⟩) (t4 : Int) : ∀ (m : Nat) (a : (Bool × Int × List Int × List Pl)) (r : (List Int)), loopN (Dspec_l7Needed_4 n rec0 t0 t4) m a = some r → Wk Try.prog H Y 39 [.code (cp [1, 1, 0, 1, 0, 0, 1, 0, 0, 1, 1, 0, 1, 0] (bodyOf Try.f39)), .blk 2, .code (cp [1, 1, 0, 1, 0, 0, 1, 0, 0, 1, 1, 1] (bodyOf Try.f39)), .blk 1, .code (cp [1, 1, 0, 1, 0, 0, 1, 1] (bodyOf Try.f39)), .lp (cp [1, 1, 0, 1, 0] (bodyOf Try.f39)), .blk 0, .code (cp [1, 1, 1] (bodyOf Try.f39))] (FinX Try.prog Try.f39 [] (.sl true 1 r.length ((eInt).f r)) []) ⟨[(0, .sl false 4 t0.length ((ePl).f t0)), (3, .msl 8 a.2.2.1.length), (4, i64 t4), (5, .msl 15 a.2.2.2.length), (6, bl a.1), (7, i64 a.2.1)], [(8, ⟨true, 1, (eInt).f a.2.2.1⟩), (15, ⟨true, 4, (ePl).f a.2.2.2⟩)]⟩ := by
  refine loopN_ind (fun rec1 hrec1 a r h => ?_)
  obtain ⟨t6, t7, l8, l15⟩ := a
  unfold Dspec_l7Needed_4 at h
  refine x_frk 9 [] onil h (by kernel_rfl) (fun h => ?_) (fun h => ?_)
  · refine x_frk 10 [] onil h (by kernel_rfl) (fun h => ?_) (fun h => ?_)
    · exact x_to 13 [] onil (Tspec_l7Needed_0 n rec1 rec0 t4 t0 hrec1 hrec0 t6 t7 l8 l15 r h) (by kernel_rfl)
    · obtain ⟨v0, hv0, h⟩ := bind_some h
      obtain ⟨v1, hv1, h⟩ := bind_some h
      exact x_to 11 [(2, .val (.cptr (ePl.c v0 ++ (ePl).f ((t0).drop (Int.toNat t7 + 1))))), (3, .val (.cptr (ePl.c v1 ++ (ePl).f ((t0).drop (Int.toNat t4 + 1)))))] (ocons (ix ePl hv0) (ocons (ix ePl hv1) onil)) (Tspec_l7Needed_1 n rec1 rec0 t4 t0 hrec1 hrec0 t6 t7 (v0.A == v1.A && (v0.B == v1.B && (v0.C == v1.C && (v0.D == v1.D && true)))) l8 l15 r h) (by kernel_rfl)
  · exact x_to 2 [] onil (Tspec_l7Needed_2 n rec0 t0 hrec0 t4 t6 l8 l15 r h) (by kernel_rfl)
def Dspec_l7Needed_5 (n : Nat) (t0 : List Pl) (rec0 : (Int × List Int) → Option (List Int)) (a : (Int × List Int)) : Option (List Int) :=
  match a with
  | (t4, l8) => frk (decide (t4 < (t0.length : Int))) (loopN (Dspec_l7Needed_4 n rec0 t0 t4) n (true, 0, l8, [])) (some l8)
theorem Tspec_l7Needed_5 {Y} (n : Nat) (t0 : List Pl) : ∀ (m : Nat) (a : (Int × List Int)) (r : (List Int)), loopN (Dspec_l7Needed_5 n t0) m a = some r → Wk Try.prog H Y 39 [.code (cp [1, 1, 0, 1, 0] (bodyOf Try.f39)), .blk 0, .code (cp [1, 1, 1] (bodyOf Try.f39))] (FinX Try.prog Try.f39 [] (.sl true 1 r.length ((eInt).f r)) []) ⟨[(0, .sl false 4 t0.length ((ePl).f t0)), (3, .msl 8 a.2.length), (4, i64 a.1)], [(8, ⟨true, 1, (eInt).f a.2⟩)]⟩ := by
  refine loopN_ind (fun rec0 hrec0 a r h => ?_)
  obtain ⟨t4, l8⟩ := a
  unfold Dspec_l7Needed_5 at h
  refine x_frk 9 [] onil h (by kernel_rfl) (fun h => ?_) (fun h => ?_)
  · exact x_to 18 [] onil (Tspec_l7Needed_4 n rec0 t0 hrec0 t4 n (true, 0, l8, []) r h) (by kernel_rfl)
  · replace h := Option.some.inj h; subst h
    exact x_end 6 [] [] onil (ocons (len_row (L := l8) eInt) onil) (by kernel_rfl)
def Dspec_l7Needed (n : Nat) (a0 : (List Pl)) : Option (List Int) :=
  loopN (Dspec_l7Needed_5 n a0) n (0, [])
theorem Tspec_l7Needed {Y} (n : Nat) (a0 : (List Pl)) (r : (List Int)) (h : Dspec_l7Needed n a0 = some r) : Big Try.prog H Y (.call 39 [.sl false 4 a0.length ((ePl).f a0)] (lk []) (.sl true 1 r.length ((eInt).f r)) (lk [])) := by
  unfold Dspec_l7Needed at h
  refine x_call (fn := Try.f39) (c := bodyOf Try.f39) (bs0 := []) Try.func39 (by kernel_rfl) (by kernel_rfl) ?_
  exact x_to 15 [] onil (Tspec_l7Needed_5 n a0 n (0, []) r h) (by kernel_rfl)
/-! spec.l5Spot -/
def Dspec_l5Spot_0 (_n : Nat) (t0 t1 t2 t3 t9 _b8_0 _b8_1 _b8_2 _b8_3 : Int) : Option Spot :=
  (qt .i64 t0 t9).bind fun v3 => (qt .i64 t1 t9).bind fun v4 => (qt .i64 t2 t9).bind fun v5 => (qt .i64 t3 t9).bind fun v6 => some (Spot.mk v3 v4 v5 v6)
theorem Tspec_l5Spot_0 {Y} (n : Nat) (t0 t1 t2 t3 t9 b8_0 b8_1 b8_2 b8_3 : Int) (r : Spot) (h : Dspec_l5Spot_0 n t0 t1 t2 t3 t9 b8_0 b8_1 b8_2 b8_3 = some r) : Wk Try.prog H Y 50 [.code (cp [1, 1, 1, 0] (bodyOf Try.f50)), .code (cp [1, 1, 1, 1] (bodyOf Try.f50))] (FinX Try.prog Try.f50 [] (.agg [i64 r.X, i64 r.Y, i64 r.Z, i64 r.W]) []) ⟨[(0, i64 t0), (1, i64 t1), (2, i64 t2), (3, i64 t3), (8, .ptr 8 0), (9, i64 t9)], [(8, ⟨true, 0, [i64 b8_0, i64 b8_1, i64 b8_2, i64 b8_3]⟩)]⟩ := by
  unfold Dspec_l5Spot_0 at h
  obtain ⟨v3, hv3, h⟩ := bind_some h
  obtain ⟨v4, hv4, h⟩ := bind_some h
  obtain ⟨v5, hv5, h⟩ := bind_some h
  obtain ⟨v6, hv6, h⟩ := bind_some h
  replace h := Option.some.inj h; subst h
  exact x_end 16 [(2, .val (i64 v3)), (2, .val (i64 v4)), (2, .val (i64 v5)), (2, .val (i64 v6))] [] (ocons (qtOk hv3) (ocons (qtOk hv4) (ocons (qtOk hv5) (ocons (qtOk hv6) onil)))) onil (by kernel_rfl)
def Dspec_l5Spot (n : Nat) (a0 a1 a2 a3 : Int) : Option Spot :=
  (Dspec_l3Gcd n a0 a1).bind fun v0 => (Dspec_l3Gcd n a2 a3).bind fun v1 => (Dspec_l3Gcd n v0 v1).bind fun v2 => frk (decide (a3 < 0)) (Dspec_l5Spot_0 n a0 a1 a2 a3 (w64 (0 - v2)) 0 0 0 0) (Dspec_l5Spot_0 n a0 a1 a2 a3 v2 0 0 0 0)
theorem Tspec_l5Spot {Y} (n : Nat) (a0 a1 a2 a3 : Int) (r : Spot) (h : Dspec_l5Spot n a0 a1 a2 a3 = some r) : Big Try.prog H Y (.call 50 [i64 a0, i64 a1, i64 a2, i64 a3] (lk []) (.agg [i64 r.X, i64 r.Y, i64 r.Z, i64 r.W]) (lk [])) := by
  unfold Dspec_l5Spot at h
  refine x_call (fn := Try.f50) (c := bodyOf Try.f50) (bs0 := []) Try.func50 (by kernel_rfl) (by kernel_rfl) ?_
  obtain ⟨v0, hv0, h⟩ := bind_some h
  obtain ⟨v1, hv1, h⟩ := bind_some h
  obtain ⟨v2, hv2, h⟩ := bind_some h
  refine x_frk 21 [(3, .call [] [] (i64 v0) []), (2, .call [] [] (i64 v1) []), (0, .call [] [] (i64 v2) [])] (ocons (Tspec_l3Gcd (Y := Y) n a0 a1 _ hv0) (ocons (Tspec_l3Gcd (Y := Y) n a2 a3 _ hv1) (ocons (Tspec_l3Gcd (Y := Y) n v0 v1 _ hv2) onil))) h (by kernel_rfl) (fun h => ?_) (fun h => ?_)
  · exact x_to 6 [] onil (Tspec_l5Spot_0 n a0 a1 a2 a3 (w64 (0 - v2)) 0 0 0 0 r h) (by kernel_rfl)
  · exact x_to 2 [] onil (Tspec_l5Spot_0 n a0 a1 a2 a3 v2 0 0 0 0 r h) (by kernel_rfl)
/-! spec.l5Meet -/
def Dspec_l5Meet (n : Nat) (a0 : Pl) (a1 : Pl) (a2 : Pl) : Option (Spot × Bool) :=
  (Dspec_l4Det3 a0 a1 a2).bind fun v0 => frk (v0 == 0) (some ((Spot.mk 0 0 0 0), false)) ((Dspec_l4Det3 (Pl.mk (w64 (0 - a0.D)) a0.B a0.C 0) (Pl.mk (w64 (0 - a1.D)) a1.B a1.C 0) (Pl.mk (w64 (0 - a2.D)) a2.B a2.C 0)).bind fun v1 => (Dspec_l4Det3 (Pl.mk a0.A (w64 (0 - a0.D)) a0.C 0) (Pl.mk a1.A (w64 (0 - a1.D)) a1.C 0) (Pl.mk a2.A (w64 (0 - a2.D)) a2.C 0)).bind fun v2 => (Dspec_l4Det3 (Pl.mk a0.A a0.B (w64 (0 - a0.D)) 0) (Pl.mk a1.A a1.B (w64 (0 - a1.D)) 0) (Pl.mk a2.A a2.B (w64 (0 - a2.D)) 0)).bind fun v3 => (Dspec_l5Spot n v1 v2 v3 v0).bind fun v4 => some (v4, true))
theorem Tspec_l5Meet {Y} (n : Nat) (a0 : Pl) (a1 : Pl) (a2 : Pl) (r : (Spot × Bool)) (h : Dspec_l5Meet n a0 a1 a2 = some r) : Big Try.prog H Y (.call 74 [.agg [i64 a0.A, i64 a0.B, i64 a0.C, i64 a0.D], .agg [i64 a1.A, i64 a1.B, i64 a1.C, i64 a1.D], .agg [i64 a2.A, i64 a2.B, i64 a2.C, i64 a2.D]] (lk []) (.tup [.agg [i64 r.1.X, i64 r.1.Y, i64 r.1.Z, i64 r.1.W], bl r.2]) (lk [])) := by
  unfold Dspec_l5Meet at h
  refine x_call (fn := Try.f74) (c := bodyOf Try.f74) (bs0 := []) Try.func74 (by kernel_rfl) (by kernel_rfl) ?_
  obtain ⟨v0, hv0, h⟩ := bind_some h
  refine x_frk 22 [(8, .call [] [] (i64 v0) [])] (ocons (Tspec_l4Det3 (Y := Y) a0 a1 a2 _ hv0) onil) h (by kernel_rfl) (fun h => ?_) (fun h => ?_)
  · replace h := Option.some.inj h; subst h
    exact x_end 6 [] [] onil onil (by kernel_rfl)
  · obtain ⟨v1, hv1, h⟩ := bind_some h
    obtain ⟨v2, hv2, h⟩ := bind_some h
    obtain ⟨v3, hv3, h⟩ := bind_some h
    obtain ⟨v4, hv4, h⟩ := bind_some h
    replace h := Option.some.inj h; subst h
    exact x_end 141 [(33, .call [] [] (i64 v1) []), (31, .call [] [] (i64 v2) []), (33, .call [] [] (i64 v3) []), (1, .call [] [] (.agg [i64 v4.X, i64 v4.Y, i64 v4.Z, i64 v4.W]) [])] [] (ocons (Tspec_l4Det3 (Y := Y) (Pl.mk (w64 (0 - a0.D)) a0.B a0.C 0) (Pl.mk (w64 (0 - a1.D)) a1.B a1.C 0) (Pl.mk (w64 (0 - a2.D)) a2.B a2.C 0) _ hv1) (ocons (Tspec_l4Det3 (Y := Y) (Pl.mk a0.A (w64 (0 - a0.D)) a0.C 0) (Pl.mk a1.A (w64 (0 - a1.D)) a1.C 0) (Pl.mk a2.A (w64 (0 - a2.D)) a2.C 0) _ hv2) (ocons (Tspec_l4Det3 (Y := Y) (Pl.mk a0.A a0.B (w64 (0 - a0.D)) 0) (Pl.mk a1.A a1.B (w64 (0 - a1.D)) 0) (Pl.mk a2.A a2.B (w64 (0 - a2.D)) 0) _ hv3) (ocons (Tspec_l5Spot (Y := Y) n v1 v2 v3 v0 _ hv4) onil)))) onil (by kernel_rfl)
/-! spec.l5Side -/
def Dspec_l5Side (a0 : Pl) (a1 : Spot) : Option Int :=
  (Dspec_l3Sign (w64 ((w64 ((w64 ((w64 (a0.A * a1.X)) + (w64 (a0.B * a1.Y)))) + (w64 (a0.C * a1.Z)))) + (w64 (a0.D * a1.W))))).bind fun v0 => some v0
theorem Tspec_l5Side {Y} (a0 : Pl) (a1 : Spot) (r : Int) (h : Dspec_l5Side a0 a1 = some r) : Big Try.prog H Y (.call 77 [.agg [i64 a0.A, i64 a0.B, i64 a0.C, i64 a0.D], .agg [i64 a1.X, i64 a1.Y, i64 a1.Z, i64 a1.W]] (lk []) (i64 r) (lk [])) := by
  unfold Dspec_l5Side at h
  refine x_call (fn := Try.f77) (c := bodyOf Try.f77) (bs0 := []) Try.func77 (by kernel_rfl) (by kernel_rfl) ?_
  obtain ⟨v0, hv0, h⟩ := bind_some h
  replace h := Option.some.inj h; subst h
  exact x_end 34 [(26, .call [] [] (i64 v0) [])] [] (ocons (Tspec_l3Sign (Y := Y) (w64 ((w64 ((w64 ((w64 (a0.A * a1.X)) + (w64 (a0.B * a1.Y)))) + (w64 (a0.C * a1.Z)))) + (w64 (a0.D * a1.W)))) _ hv0) onil) onil (by kernel_rfl)
/-! spec.l7In -/
def Dspec_l7In_0 (_n : Nat) (t0 : List Pl) (b3_0 b3_1 b3_2 b3_3 : Int) (rec0 : (Int × Int) → Option Int) (a : (Int × Int)) : Option Int :=
  match a with
  | (t5, t6) => frk (decide (t6 < (t0.length : Int))) ((lget t0 t6).bind fun v0 => (Dspec_l5Side v0 (Spot.mk b3_0 b3_1 b3_2 b3_3)).bind fun v1 => frk (decide (v1 < t5)) (rec0 (v1, w64 (t6 + 1))) (rec0 (t5, w64 (t6 + 1)))) (some t5)
theorem Tspec_l7In_0 {Y} (n : Nat) (t0 : List Pl) (b3_0 b3_1 b3_2 b3_3 : Int) : ∀ (m : Nat) (a : (Int × Int)) (r : Int), loopN (Dspec_l7In_0 n t0 b3_0 b3_1 b3_2 b3_3) m a = some r → Wk Try.prog H Y 75 [.code (cp [1, 1, 0, 1, 0] (bodyOf Try.f75)), .blk 0, .code (cp [1, 1, 1] (bodyOf Try.f75))] (FinX Try.prog Try.f75 [] (i64 r) []) ⟨[(0, .sl false 4 t0.length ((ePl).f t0)), (3, .ptr 3 0), (5, i64 a.1), (6, i64 a.2)], [(3, ⟨true, 0, [i64 b3_0, i64 b3_1, i64 b3_2, i64 b3_3]⟩)]⟩ := by
  refine loopN_ind (fun _rec0 hrec0 a r h => ?_)
  obtain ⟨t5, t6⟩ := a
  unfold Dspec_l7In_0 at h
  refine x_frk 9 [] onil h (by kernel_rfl) (fun h => ?_) (fun h => ?_)
  · obtain ⟨v0, hv0, h⟩ := bind_some h
    obtain ⟨v1, hv1, h⟩ := bind_some h
    refine x_frk 19 [(2, .val (.cptr (ePl.c v0 ++ (ePl).f ((t0).drop (Int.toNat t6 + 1))))), (2, .call [] [] (i64 v1) [])] (ocons (ix ePl hv0) (ocons (Tspec_l5Side (Y := Y) v0 (Spot.mk b3_0 b3_1 b3_2 b3_3) _ hv1) onil)) h (by kernel_rfl) (fun h => ?_) (fun h => ?_)
    · exact x_to 11 [] onil (hrec0 (v1, w64 (t6 + 1)) r h) (by kernel_rfl)
    · exact x_to 8 [] onil (hrec0 (t5, w64 (t6 + 1)) r h) (by kernel_rfl)
  · replace h := Option.some.inj h; subst h
    exact x_end 6 [] [] onil onil (by kernel_rfl)
def Dspec_l7In (n : Nat) (a0 : (List Pl)) (a1 : Spot) : Option Int :=
  loopN (Dspec_l7In_0 n a0 a1.X a1.Y a1.Z a1.W) n (1, 0)
theorem Tspec_l7In {Y} (n : Nat) (a0 : (List Pl)) (a1 : Spot) (r : Int) (h : Dspec_l7In n a0 a1 = some r) : Big Try.prog H Y (.call 75 [.sl false 4 a0.length ((ePl).f a0), .agg [i64 a1.X, i64 a1.Y, i64 a1.Z, i64 a1.W]] (lk []) (i64 r) (lk [])) := by
  unfold Dspec_l7In at h
  refine x_call (fn := Try.f75) (c := bodyOf Try.f75) (bs0 := []) Try.func75 (by kernel_rfl) (by kernel_rfl) ?_
  exact x_to 15 [] onil (Tspec_l7In_0 n a0 a1.X a1.Y a1.Z a1.W n (1, 0) r h) (by kernel_rfl)
/-! spec.SpotOk -/
def Dspec_SpotOk (n : Nat) (a0 : Spot) : Option Bool :=
  (Dspec_l1In a0.W 1 1000000000).bind fun v0 => frk v0 ((Dspec_l1In a0.X (-1000000000) 1000000000).bind fun v1 => frk v1 ((Dspec_l1In a0.Y (-1000000000) 1000000000).bind fun v2 => frk v2 ((Dspec_l1In a0.Z (-1000000000) 1000000000).bind fun v3 => frk v3 ((Dspec_l3Gcd n a0.X a0.Y).bind fun v4 => (Dspec_l3Gcd n a0.Z a0.W).bind fun v5 => (Dspec_l3Gcd n v4 v5).bind fun v6 => some (v6 == 1)) (some false)) (some false)) (some false)) (some false)
theorem Tspec_SpotOk {Y} (n : Nat) (a0 : Spot) (r : Bool) (h : Dspec_SpotOk n a0 = some r) : Big Try.prog H Y (.call 140 [.agg [i64 a0.X, i64 a0.Y, i64 a0.Z, i64 a0.W]] (lk []) (bl r) (lk [])) := by
  unfold Dspec_SpotOk at h
  refine x_call (fn := Try.f140) (c := bodyOf Try.f140) (bs0 := []) Try.func140 (by kernel_rfl) (by kernel_rfl) ?_
  obtain ⟨v0, hv0, h⟩ := bind_some h
  refine x_frk 11 [(4, .call [] [] (bl v0) [])] (ocons (Tspec_l1In (Y := Y) a0.W 1 1000000000 _ hv0) onil) h (by kernel_rfl) (fun h => ?_) (fun h => ?_)
  · obtain ⟨v1, hv1, h⟩ := bind_some h
    refine x_frk 5 [(2, .call [] [] (bl v1) [])] (ocons (Tspec_l1In (Y := Y) a0.X (-1000000000) 1000000000 _ hv1) onil) h (by kernel_rfl) (fun h => ?_) (fun h => ?_)
    · obtain ⟨v2, hv2, h⟩ := bind_some h
      refine x_frk 5 [(2, .call [] [] (bl v2) [])] (ocons (Tspec_l1In (Y := Y) a0.Y (-1000000000) 1000000000 _ hv2) onil) h (by kernel_rfl) (fun h => ?_) (fun h => ?_)
      · obtain ⟨v3, hv3, h⟩ := bind_some h
        refine x_frk 5 [(2, .call [] [] (bl v3) [])] (ocons (Tspec_l1In (Y := Y) a0.Z (-1000000000) 1000000000 _ hv3) onil) h (by kernel_rfl) (fun h => ?_) (fun h => ?_)
        · obtain ⟨v4, hv4, h⟩ := bind_some h
          obtain ⟨v5, hv5, h⟩ := bind_some h
          obtain ⟨v6, hv6, h⟩ := bind_some h
          replace h := Option.some.inj h; subst h
          exact x_end 15 [(4, .call [] [] (i64 v4) []), (4, .call [] [] (i64 v5) []), (0, .call [] [] (i64 v6) [])] [] (ocons (Tspec_l3Gcd (Y := Y) n a0.X a0.Y _ hv4) (ocons (Tspec_l3Gcd (Y := Y) n a0.Z a0.W _ hv5) (ocons (Tspec_l3Gcd (Y := Y) n v4 v5 _ hv6) onil))) onil (by kernel_rfl)
        · replace h := Option.some.inj h; subst h
          exact x_end 15 [] [] onil onil (by kernel_rfl)
      · replace h := Option.some.inj h; subst h
        exact x_end 20 [] [] onil onil (by kernel_rfl)
    · replace h := Option.some.inj h; subst h
      exact x_end 25 [] [] onil onil (by kernel_rfl)
  · replace h := Option.some.inj h; subst h
    exact x_end 30 [] [] onil onil (by kernel_rfl)
/-! spec.l5Right -/
def Dspec_l5Right (n : Nat) (a0 : Spot) : Option Spot :=
  (Dspec_SpotOk n a0).bind fun v0 => frk (!v0) (some (Spot.mk 0 0 0 1)) (some a0)
theorem Tspec_l5Right {Y} (n : Nat) (a0 : Spot) (r : Spot) (h : Dspec_l5Right n a0 = some r) : Big Try.prog H Y (.call 123 [.agg [i64 a0.X, i64 a0.Y, i64 a0.Z, i64 a0.W]] (lk []) (.agg [i64 r.X, i64 r.Y, i64 r.Z, i64 r.W]) (lk [])) := by
  unfold Dspec_l5Right at h
  refine x_call (fn := Try.f123) (c := bodyOf Try.f123) (bs0 := []) Try.func123 (by kernel_rfl) (by kernel_rfl) ?_
  obtain ⟨v0, hv0, h⟩ := bind_some h
  refine x_frk 12 [(3, .call [] [] (bl v0) [])] (ocons (Tspec_SpotOk (Y := Y) n a0 _ hv0) onil) h (by kernel_rfl) (fun h => ?_) (fun h => ?_)
  · replace h := Option.some.inj h; subst h
    exact x_end 5 [] [] onil onil (by kernel_rfl)
  · replace h := Option.some.inj h; subst h
    exact x_end 6 [] [] onil onil (by kernel_rfl)
/-! spec.l3CmpInt -/
def Dspec_l3CmpInt (a0 a1 : Int) : Option Int :=
  frk (decide (a0 < a1)) (some (-1)) (frk (decide (a0 > a1)) (some 1) (some 0))
theorem Tspec_l3CmpInt {Y} (a0 a1 r : Int) (h : Dspec_l3CmpInt a0 a1 = some r) : Big Try.prog H Y (.call 118 [i64 a0, i64 a1] (lk []) (i64 r) (lk [])) := by
  unfold Dspec_l3CmpInt at h
  refine x_call (fn := Try.f118) (c := bodyOf Try.f118) (bs0 := []) Try.func118 (by kernel_rfl) (by kernel_rfl) ?_
  refine x_frk 13 [] onil h (by kernel_rfl) (fun h => ?_) (fun h => ?_)
  · replace h := Option.some.inj h; subst h
    exact x_end 4 [] [] onil onil (by kernel_rfl)
  · refine x_frk 7 [] onil h (by kernel_rfl) (fun h => ?_) (fun h => ?_)
    · replace h := Option.some.inj h; subst h
      exact x_end 4 [] [] onil onil (by kernel_rfl)
    · replace h := Option.some.inj h; subst h
      exact x_end 6 [] [] onil onil (by kernel_rfl)
/-! spec.CmpSpot -/
def Dspec_CmpSpot (n : Nat) (a0 : Spot) (a1 : Spot) : Option Int :=
  (Dspec_l5Right n a0).bind fun v0 => (Dspec_l5Right n a1).bind fun v1 => frk ((w64 (v0.X * v1.W)) != (w64 (v1.X * v0.W))) ((Dspec_l3CmpInt (w64 (v0.X * v1.W)) (w64 (v1.X * v0.W))).bind fun v2 => some v2) (frk ((w64 (v0.Y * v1.W)) != (w64 (v1.Y * v0.W))) ((Dspec_l3CmpInt (w64 (v0.Y * v1.W)) (w64 (v1.Y * v0.W))).bind fun v3 => some v3) (frk ((w64 (v0.Z * v1.W)) != (w64 (v1.Z * v0.W))) ((Dspec_l3CmpInt (w64 (v0.Z * v1.W)) (w64 (v1.Z * v0.W))).bind fun v4 => some v4) (some 0)))
theorem Tspec_CmpSpot {Y} (n : Nat) (a0 : Spot) (a1 : Spot) (r : Int) (h : Dspec_CmpSpot n a0 a1 = some r) : Big Try.prog H Y (.call 103 [.agg [i64 a0.X, i64 a0.Y, i64 a0.Z, i64 a0.W], .agg [i64 a1.X, i64 a1.Y, i64 a1.Z, i64 a1.W]] (lk []) (i64 r) (lk [])) := by
  unfold Dspec_CmpSpot at h
  refine x_call (fn := Try.f103) (c := bodyOf Try.f103) (bs0 := []) Try.func103 (by kernel_rfl) (by kernel_rfl) ?_
  obtain ⟨v0, hv0, h⟩ := bind_some h
  obtain ⟨v1, hv1, h⟩ := bind_some h
  refine x_frk 87 [(4, .call [] [] (.agg [i64 v0.X, i64 v0.Y, i64 v0.Z, i64 v0.W]) []), (2, .call [] [] (.agg [i64 v1.X, i64 v1.Y, i64 v1.Z, i64 v1.W]) [])] (ocons (Tspec_l5Right (Y := Y) n a0 _ hv0) (ocons (Tspec_l5Right (Y := Y) n a1 _ hv1) onil)) h (by kernel_rfl) (fun h => ?_) (fun h => ?_)
  · obtain ⟨v2, hv2, h⟩ := bind_some h
    replace h := Option.some.inj h; subst h
    exact x_end 13 [(8, .call [] [] (i64 v2) [])] [] (ocons (Tspec_l3CmpInt (Y := Y) (w64 (v0.X * v1.W)) (w64 (v1.X * v0.W)) _ hv2) onil) onil (by kernel_rfl)
  · refine x_frk 31 [] onil h (by kernel_rfl) (fun h => ?_) (fun h => ?_)
    · obtain ⟨v3, hv3, h⟩ := bind_some h
      replace h := Option.some.inj h; subst h
      exact x_end 13 [(8, .call [] [] (i64 v3) [])] [] (ocons (Tspec_l3CmpInt (Y := Y) (w64 (v0.Y * v1.W)) (w64 (v1.Y * v0.W)) _ hv3) onil) onil (by kernel_rfl)
    · refine x_frk 31 [] onil h (by kernel_rfl) (fun h => ?_) (fun h => ?_)
      · obtain ⟨v4, hv4, h⟩ := bind_some h
        replace h := Option.some.inj h; subst h
        exact x_end 13 [(8, .call [] [] (i64 v4) [])] [] (ocons (Tspec_l3CmpInt (Y := Y) (w64 (v0.Z * v1.W)) (w64 (v1.Z * v0.W)) _ hv4) onil) onil (by kernel_rfl)
      · replace h := Option.some.inj h; subst h
        exact x_end 21 [] [] onil onil (by kernel_rfl)
/-! spec.l7Put -/
def Dspec_l7Puto0_1 (_n : Nat) (t5 b3_0 b3_1 b3_2 b3_3 : Int) (l700 : List Spot) : Option (List Spot) :=
  (lsl l700 0 t5).bind fun v3 => chk (apB 32 (0 + v3.length)) (chk (apB 32 (([] ++ v3).length + 1)) ((lsl l700 t5 (l700.length : Int)).bind fun v6 => chk (apB 32 ((([] ++ v3) ++ [(Spot.mk b3_0 b3_1 b3_2 b3_3)]).length + v6.length)) (some ((([] ++ v3) ++ [(Spot.mk b3_0 b3_1 b3_2 b3_3)]) ++ v6))))
theorem Tspec_l7Puto0_1 {Y} (n : Nat) (t5 b3_0 b3_1 b3_2 b3_3 : Int) (l700 : List Spot) (r : (List Spot)) (h : Dspec_l7Puto0_1 n t5 b3_0 b3_1 b3_2 b3_3 l700 = some r) : Wk Try.prog H Y 76 [.code (cp [1, 1, 1, 0] (bodyOf Try.f76)), .code (cp [1, 1, 1, 1] (bodyOf Try.f76))] (FinX Try.prog Try.f76 [] (.sl true 4 r.length ((eSpot).f r)) []) ⟨[(0, .msl 700 l700.length), (3, .ptr 3 0), (5, i64 t5)], [(3, ⟨true, 0, [i64 b3_0, i64 b3_1, i64 b3_2, i64 b3_3]⟩), (700, ⟨false, 4, (eSpot).f l700⟩)]⟩ := by
  unfold Dspec_l7Puto0_1 at h
  obtain ⟨v3, hv3, h⟩ := bind_some h
  obtain ⟨c4, h⟩ := chk_some h
  obtain ⟨c5, h⟩ := chk_some h
  obtain ⟨v6, hv6, h⟩ := bind_some h
  obtain ⟨c7, h⟩ := chk_some h
  replace h := Option.some.inj h; subst h
  exact x_end 20 [(3, .val (.sl false 4 v3.length ((eSpot).f v3))), (0, .app false (List.length ([] ++ v3)) ((eSpot).f ([] ++ v3))), (2, .app false (List.length (([] ++ v3) ++ [(Spot.mk b3_0 b3_1 b3_2 b3_3)])) ((eSpot).f (([] ++ v3) ++ [(Spot.mk b3_0 b3_1 b3_2 b3_3)]))), (4, .val (.sl false 4 v6.length ((eSpot).f v6))), (0, .app false (List.length ((([] ++ v3) ++ [(Spot.mk b3_0 b3_1 b3_2 b3_3)]) ++ v6)) ((eSpot).f ((([] ++ v3) ++ [(Spot.mk b3_0 b3_1 b3_2 b3_3)]) ++ v6)))] [] (ocons (slM eSpot eSpot sSpot hv3) (ocons (len_row' (L := []) eSpot) (ocons (app_one (L := []) (M := v3) eSpot c4) (ocons (app_new (L := []) (M := v3) eSpot) (ocons (app_m (L := []) (M := v3) eSpot rfl) (ocons (len_row' (L := v3) eSpot) (ocons (len_row' (L := ([] ++ v3)) eSpot) (ocons (app_one (L := ([] ++ v3)) (M := [(Spot.mk b3_0 b3_1 b3_2 b3_3)]) eSpot c5) (ocons (app_new (L := ([] ++ v3)) (M := [(Spot.mk b3_0 b3_1 b3_2 b3_3)]) eSpot) (ocons (app_m (L := ([] ++ v3)) (M := [(Spot.mk b3_0 b3_1 b3_2 b3_3)]) eSpot rfl) (ocons (len_row' (L := [(Spot.mk b3_0 b3_1 b3_2 b3_3)]) eSpot) (ocons (Enc.noOwn eSpot (fun _ => rfl) [(Spot.mk b3_0 b3_1 b3_2 b3_3)]) (ocons (slM eSpot eSpot sSpot hv6) (ocons (len_row' (L := (([] ++ v3) ++ [(Spot.mk b3_0 b3_1 b3_2 b3_3)])) eSpot) (ocons (app_one (L := (([] ++ v3) ++ [(Spot.mk b3_0 b3_1 b3_2 b3_3)])) (M := v6) eSpot c7) (ocons (app_new (L := (([] ++ v3) ++ [(Spot.mk b3_0 b3_1 b3_2 b3_3)])) (M := v6) eSpot) (ocons (app_m (L := (([] ++ v3) ++ [(Spot.mk b3_0 b3_1 b3_2 b3_3)])) (M := v6) eSpot rfl) (ocons (len_row' (L := v6) eSpot) onil)))))))))))))))))) (ocons (len_row (L := ((([] ++ v3) ++ [(Spot.mk b3_0 b3_1 b3_2 b3_3)]) ++ v6)) eSpot) onil) (by kernel_rfl)
def Dspec_l7Puto0_0 (n : Nat) (rec0 : (Int × List Spot) → Option (List Spot)) (b3_0 b3_1 b3_2 b3_3 t5 : Int) (t20 : Bool) (l700 : List Spot) : Option (List Spot) :=
  frk t20 ((lget l700 (w64 (t5 - 1))).bind fun v2 => frk (v2.X == b3_0 && (v2.Y == b3_1 && (v2.Z == b3_2 && (v2.W == b3_3 && true)))) (some l700) (rec0 (w64 (t5 - 1), l700))) (Dspec_l7Puto0_1 n t5 b3_0 b3_1 b3_2 b3_3 l700)
theorem Tspec_l7Puto0_0 {Y} (n : Nat) (rec0 : (Int × List Spot) → Option (List Spot)) (b3_0 b3_1 b3_2 b3_3 : Int) (hrec0 : ∀ (a : (Int × List Spot)) (r : (List Spot)), rec0 a = some r → Wk Try.prog H Y 76 [.code (cp [1, 1, 0, 0] (bodyOf Try.f76)), .blk 0, .code (cp [1, 1, 1] (bodyOf Try.f76))] (FinX Try.prog Try.f76 [] (.sl true 4 r.length ((eSpot).f r)) []) ⟨[(0, .msl 700 a.2.length), (3, .ptr 3 0), (5, i64 a.1)], [(3, ⟨true, 0, [i64 b3_0, i64 b3_1, i64 b3_2, i64 b3_3]⟩), (700, ⟨false, 4, (eSpot).f a.2⟩)]⟩) (t5 : Int) (t20 : Bool) (l700 : List Spot) (r : (List Spot)) (h : Dspec_l7Puto0_0 n rec0 b3_0 b3_1 b3_2 b3_3 t5 t20 l700 = some r) : Wk Try.prog H Y 76 [.code (cp [1, 1, 0, 0, 0, 0, 1] (bodyOf Try.f76)), .code (cp [1, 1, 0, 0, 0, 1] (bodyOf Try.f76)), .lp (cp [1, 1, 0, 0] (bodyOf Try.f76)), .blk 0, .code (cp [1, 1, 1] (bodyOf Try.f76))] (FinX Try.prog Try.f76 [] (.sl true 4 r.length ((eSpot).f r)) []) ⟨[(0, .msl 700 l700.length), (3, .ptr 3 0), (5, i64 t5), (20, bl t20)], [(3, ⟨true, 0, [i64 b3_0, i64 b3_1, i64 b3_2, i64 b3_3]⟩), (700, ⟨false, 4, (eSpot).f l700⟩)]⟩ := by
  unfold Dspec_l7Puto0_0 at h
  refine x_frk 0 [] onil h (by kernel_rfl) (fun h => ?_) (fun h => ?_)
  · obtain ⟨v2, hv2, h⟩ := bind_some h
    refine x_frk 13 [(3, .unit), (0, .cells [i64 v2.X, i64 v2.Y, i64 v2.Z, i64 v2.W])] (ocons (inr hv2) (ocons (ldA eSpot hv2 0 4 rfl rfl) onil)) h (by kernel_rfl) (fun h => ?_) (fun h => ?_)
    · replace h := Option.some.inj h; subst h
      exact x_end 5 [] [] onil (ocons (len_row (L := l700) eSpot) onil) (by kernel_rfl)
    · exact x_to 8 [] onil (hrec0 (w64 (t5 - 1), l700) r h) (by kernel_rfl)
  · exact x_to 2 [] onil (Tspec_l7Puto0_1 n t5 b3_0 b3_1 b3_2 b3_3 l700 r h) (by kernel_rfl)
def Dspec_l7Puto0_2 (n : Nat) (b3_0 b3_1 b3_2 b3_3 : Int) (rec0 : (Int × List Spot) → Option (List Spot)) (a : (Int × List Spot)) : Option (List Spot) :=
  match a with
  | (t5, l700) => frk (decide (t5 > 0)) ((lget l700 (w64 (t5 - 1))).bind fun v0 => (Dspec_CmpSpot n v0 (Spot.mk b3_0 b3_1 b3_2 b3_3)).bind fun v1 => Dspec_l7Puto0_0 n rec0 b3_0 b3_1 b3_2 b3_3 t5 (decide (v1 ≥ 0)) l700) (Dspec_l7Puto0_1 n t5 b3_0 b3_1 b3_2 b3_3 l700)
theorem Tspec_l7Puto0_2 {Y} (n : Nat) (b3_0 b3_1 b3_2 b3_3 : Int) : ∀ (m : Nat) (a : (Int × List Spot)) (r : (List Spot)), loopN (Dspec_l7Puto0_2 n b3_0 b3_1 b3_2 b3_3) m a = some r → Wk Try.prog H Y 76 [.code (cp [1, 1, 0, 0] (bodyOf Try.f76)), .blk 0, .code (cp [1, 1, 1] (bodyOf Try.f76))] (FinX Try.prog Try.f76 [] (.sl true 4 r.length ((eSpot).f r)) []) ⟨[(0, .msl 700 a.2.length), (3, .ptr 3 0), (5, i64 a.1)], [(3, ⟨true, 0, [i64 b3_0, i64 b3_1, i64 b3_2, i64 b3_3]⟩), (700, ⟨false, 4, (eSpot).f a.2⟩)]⟩ := by
  refine loopN_ind (fun rec0 hrec0 a r h => ?_)
  obtain ⟨t5, l700⟩ := a
  unfold Dspec_l7Puto0_2 at h
  refine x_frk 7 [] onil h (by kernel_rfl) (fun h => ?_) (fun h => ?_)
  · obtain ⟨v0, hv0, h⟩ := bind_some h
    obtain ⟨v1, hv1, h⟩ := bind_some h
    exact x_to 10 [(3, .unit), (0, .cells [i64 v0.X, i64 v0.Y, i64 v0.Z, i64 v0.W]), (1, .call [] [] (i64 v1) [])] (ocons (inr hv0) (ocons (ldA eSpot hv0 0 4 rfl rfl) (ocons (Tspec_CmpSpot (Y := Y) n v0 (Spot.mk b3_0 b3_1 b3_2 b3_3) _ hv1) onil))) (Tspec_l7Puto0_0 n rec0 b3_0 b3_1 b3_2 b3_3 hrec0 t5 (decide (v1 ≥ 0)) l700 r h) (by kernel_rfl)
  · exact x_to 13 [] onil (Tspec_l7Puto0_1 n t5 b3_0 b3_1 b3_2 b3_3 l700 r h) (by kernel_rfl)
def Dspec_l7Puto0 (n : Nat) (a0 : (List Spot)) (a1 : Spot) : Option (List Spot) :=
  loopN (Dspec_l7Puto0_2 n a1.X a1.Y a1.Z a1.W) n ((a0.length : Int), a0)
theorem Tspec_l7Puto0 {Y} (n : Nat) (a0 : (List Spot)) (a1 : Spot) (r : (List Spot)) (h : Dspec_l7Puto0 n a0 a1 = some r) : Big Try.prog H Y (.call 76 [.sl true 4 a0.length ((eSpot).f a0), .agg [i64 a1.X, i64 a1.Y, i64 a1.Z, i64 a1.W]] (lk []) (.sl true 4 r.length ((eSpot).f r)) (lk [])) := by
  unfold Dspec_l7Puto0 at h
  refine x_call (fn := Try.f76) (c := bodyOf Try.f76) (bs0 := []) Try.func76 (by kernel_rfl) (by kernel_rfl) ?_
  exact x_to 14 [(0, .adopt 0 700 a0.length 4 ((eSpot).f a0))] (ocons (rflV (.sl true 4 a0.length ((eSpot).f a0))) (ocons (show 700 < 1000 ∧ 4 ≠ 0 by decide) onil)) (Tspec_l7Puto0_2 n a1.X a1.Y a1.Z a1.W n ((a0.length : Int), a0) r h) (by kernel_rfl)
/-! spec.l7Corners -/
def Dspec_l7Corners_0 (n : Nat) (rec2 : (Int × List Spot) → Option (List Spot)) (_rec1 : (Int × List Spot) → Option (List Spot)) (_rec0 : (Int × List Spot) → Option (List Spot)) (_t6 _t5 : Int) (_t0 : List Pl) (_t4 t7 : Int) (t54 : Bool) (b8_0 b8_1 b8_2 b8_3 : Int) (l10 : List Spot) : Option (List Spot) :=
  frk t54 ((Dspec_l7Puto0 n l10 (Spot.mk b8_0 b8_1 b8_2 b8_3)).bind fun v5 => rec2 (w64 (t7 + 1), v5)) (rec2 (w64 (t7 + 1), l10))
theorem Tspec_l7Corners_0 {Y} (n : Nat) (rec2 : (Int × List Spot) → Option (List Spot)) (rec1 : (Int × List Spot) → Option (List Spot)) (rec0 : (Int × List Spot) → Option (List Spot)) (t6 t5 : Int) (t0 : List Pl) (t4 : Int) (hrec2 : ∀ (a : (Int × List Spot)) (r : (List Spot)), rec2 a = some r → Wk Try.prog H Y 40 [.code (cp [1, 1, 1, 0, 1, 0, 0, 1, 0, 0, 1, 0, 0, 1, 0, 0, 1, 0] (bodyOf Try.f40)), .blk 4, .blk 3, .code (cp [1, 1, 1, 0, 1, 0, 0, 1, 0, 0, 1, 0, 0, 1, 1] (bodyOf Try.f40)), .lp (cp [1, 1, 1, 0, 1, 0, 0, 1, 0, 0, 1, 0] (bodyOf Try.f40)), .blk 2, .blk 1, .code (cp [1, 1, 1, 0, 1, 0, 0, 1, 1] (bodyOf Try.f40)), .lp (cp [1, 1, 1, 0, 1, 0] (bodyOf Try.f40)), .blk 0, .code (cp [1, 1, 1, 1] (bodyOf Try.f40))] (FinX Try.prog Try.f40 [] (.sl true 4 r.length ((eSpot).f r)) []) ⟨[(0, .sl false 4 t0.length ((ePl).f t0)), (3, .msl 10 a.2.length), (4, i64 t4), (5, i64 t5), (6, i64 t6), (7, i64 a.1)], [(10, ⟨false, 4, (eSpot).f a.2⟩)]⟩) (_hrec1 : ∀ (a : (Int × List Spot)) (r : (List Spot)), rec1 a = some r → Wk Try.prog H Y 40 [.code (cp [1, 1, 1, 0, 1, 0, 0, 1, 0, 0, 1, 0] (bodyOf Try.f40)), .blk 2, .blk 1, .code (cp [1, 1, 1, 0, 1, 0, 0, 1, 1] (bodyOf Try.f40)), .lp (cp [1, 1, 1, 0, 1, 0] (bodyOf Try.f40)), .blk 0, .code (cp [1, 1, 1, 1] (bodyOf Try.f40))] (FinX Try.prog Try.f40 [] (.sl true 4 r.length ((eSpot).f r)) []) ⟨[(0, .sl false 4 t0.length ((ePl).f t0)), (3, .msl 10 a.2.length), (4, i64 t4), (5, i64 t5), (6, i64 a.1)], [(10, ⟨false, 4, (eSpot).f a.2⟩)]⟩) (_hrec0 : ∀ (a : (Int × List Spot)) (r : (List Spot)), rec0 a = some r → Wk Try.prog H Y 40 [.code (cp [1, 1, 1, 0, 1, 0] (bodyOf Try.f40)), .blk 0, .code (cp [1, 1, 1, 1] (bodyOf Try.f40))] (FinX Try.prog Try.f40 [] (.sl true 4 r.length ((eSpot).f r)) []) ⟨[(0, .sl false 4 t0.length ((ePl).f t0)), (3, .msl 10 a.2.length), (4, i64 t4), (5, i64 a.1)], [(10, ⟨false, 4, (eSpot).f a.2⟩)]⟩) (t7 : Int) (t54 : Bool) (b8_0 b8_1 b8_2 b8_3 : Int) (l10 : List Spot) (r : (List Spot)) (h : Dspec_l7Corners_0 n rec2 rec1 rec0 t6 t5 t0 t4 t7 t54 b8_0 b8_1 b8_2 b8_3 l10 = some r) : Wk Try.prog H Y 40 [.code (cp [1, 1, 1, 0, 1, 0, 0, 1, 0, 0, 1, 0, 0, 1, 0, 0, 1, 0, 0, 1, 0, 0, 1, 1] (bodyOf Try.f40)), .blk 5, .code (cp [1, 1, 1, 0, 1, 0, 0, 1, 0, 0, 1, 0, 0, 1, 0, 0, 1, 0, 0, 1, 1] (bodyOf Try.f40)), .lp (cp [1, 1, 1, 0, 1, 0, 0, 1, 0, 0, 1, 0, 0, 1, 0, 0, 1, 0] (bodyOf Try.f40)), .blk 4, .blk 3, .code (cp [1, 1, 1, 0, 1, 0, 0, 1, 0, 0, 1, 0, 0, 1, 1] (bodyOf Try.f40)), .lp (cp [1, 1, 1, 0, 1, 0, 0, 1, 0, 0, 1, 0] (bodyOf Try.f40)), .blk 2, .blk 1, .code (cp [1, 1, 1, 0, 1, 0, 0, 1, 1] (bodyOf Try.f40)), .lp (cp [1, 1, 1, 0, 1, 0] (bodyOf Try.f40)), .blk 0, .code (cp [1, 1, 1, 1] (bodyOf Try.f40))] (FinX Try.prog Try.f40 [] (.sl true 4 r.length ((eSpot).f r)) []) ⟨[(0, .sl false 4 t0.length ((ePl).f t0)), (3, .msl 10 l10.length), (4, i64 t4), (5, i64 t5), (6, i64 t6), (7, i64 t7), (8, .ptr 8 0), (54, bl t54)], [(8, ⟨true, 0, [i64 b8_0, i64 b8_1, i64 b8_2, i64 b8_3]⟩), (10, ⟨false, 4, (eSpot).f l10⟩)]⟩ := by
  unfold Dspec_l7Corners_0 at h
  refine x_frk 0 [] onil h (by kernel_rfl) (fun h => ?_) (fun h => ?_)
  · obtain ⟨v5, hv5, h⟩ := bind_some h
    exact x_to 14 [(2, .call [] [] (.sl true 4 v5.length ((eSpot).f v5)) []), (4, .ren 57 10)] (ocons (Tspec_l7Puto0 (Y := Y) n l10 (Spot.mk b8_0 b8_1 b8_2 b8_3) _ hv5) (ocons (len_row (L := l10) eSpot) (ocons (show 57 < 1000 ∧ 10 < 1000 by decide) onil))) (hrec2 (w64 (t7 + 1), v5) r h) (by kernel_rfl)
  · exact x_to 8 [] onil (hrec2 (w64 (t7 + 1), l10) r h) (by kernel_rfl)
def Dspec_l7Corners_1 (n : Nat) (rec1 : (Int × List Spot) → Option (List Spot)) (rec0 : (Int × List Spot) → Option (List Spot)) (t5 : Int) (t0 : List Pl) (t4 t6 : Int) (rec2 : (Int × List Spot) → Option (List Spot)) (a : (Int × List Spot)) : Option (List Spot) :=
  match a with
  | (t7, l10) => frk (decide (t7 < t4)) ((lget t0 t5).bind fun v0 => (lget t0 t6).bind fun v1 => (lget t0 t7).bind fun v2 => (Dspec_l5Meet n v0 v1 v2).bind fun v3 => frk v3.2 ((Dspec_l7In n t0 v3.1).bind fun v4 => Dspec_l7Corners_0 n rec2 rec1 rec0 t6 t5 t0 t4 t7 (decide (v4 ≥ 0)) v3.1.X v3.1.Y v3.1.Z v3.1.W l10) (rec2 (w64 (t7 + 1), l10))) (rec1 (w64 (t6 + 1), l10))
theorem Tspec_l7Corners_1 {Y} (n : Nat) (rec1 : (Int × List Spot) → Option (List Spot)) (rec0 : (Int × List Spot) → Option (List Spot)) (t5 : Int) (t0 : List Pl) (t4 : Int) (hrec1 : ∀ (a : (Int × List Spot)) (r : (List Spot)), rec1 a = some r → Wk Try.prog H Y 40 [.code (cp [1, 1, 1, 0, 1, 0, 0, 1, 0, 0, 1, 0] (bodyOf Try.f40)), .blk 2, .blk 1, .code (cp [1, 1, 1, 0, 1, 0, 0, 1, 1] (bodyOf Try.f40)), .lp (cp [1, 1, 1, 0, 1, 0] (bodyOf Try.f40)), .blk 0, .code (cp [1, 1, 1, 1] (bodyOf Try.f40))] (FinX Try.prog Try.f40 [] (.sl true 4 r.length ((eSpot).f r)) []) ⟨[(0, .sl false 4 t0.length ((ePl).f t0)), (3, .msl 10 a.2.length), (4, i64 t4), (5, i64 t5), (6, i64 a.1)], [(10, ⟨false, 4, (eSpot).f a.2⟩)]⟩) (hrec0 : ∀ (a : (Int × List Spot)) (r : (List Spot)), rec0 a = some r → Wk Try.prog H Y 40 [.code (cp [1, 1, 1, 0, 1, 0] (bodyOf Try.f40)), .blk 0, .code (cp [1, 1, 1, 1] (bodyOf Try.f40))] (FinX Try.prog Try.f40 [] (.sl true 4 r.length ((eSpot).f r)) []) ⟨[(0, .sl false 4 t0.length ((ePl).f t0)), (3, .msl 10 a.2.length), (4, i64 t4), (5, i64 a.1)], [(10, ⟨false, 4, (eSpot).f a.2⟩)]⟩) (t6 : Int) : ∀ (m : Nat) (a : (Int × List Spot)) (r : (List Spot)), loopN (Dspec_l7Corners_1 n rec1 rec0 t5 t0 t4 t6) m a = some r → Wk Try.prog H Y 40 [.code (cp [1, 1, 1, 0, 1, 0, 0, 1, 0, 0, 1, 0, 0, 1, 0, 0, 1, 0] (bodyOf Try.f40)), .blk 4, .blk 3, .code (cp [1, 1, 1, 0, 1, 0, 0, 1, 0, 0, 1, 0, 0, 1, 1] (bodyOf Try.f40)), .lp (cp [1, 1, 1, 0, 1, 0, 0, 1, 0, 0, 1, 0] (bodyOf Try.f40)), .blk 2, .blk 1, .code (cp [1, 1, 1, 0, 1, 0, 0, 1, 1] (bodyOf Try.f40)), .lp (cp [1, 1, 1, 0, 1, 0] (bodyOf Try.f40)), .blk 0, .code (cp [1, 1, 1, 1] (bodyOf Try.f40))] (FinX Try.prog Try.f40 [] (.sl true 4 r.length ((eSpot).f r)) []) ⟨[(0, .sl false 4 t0.length ((ePl).f t0)), (3, .msl 10 a.2.length), (4, i64 t4), (5, i64 t5), (6, i64 t6), (7, i64 a.1)], [(10, ⟨false, 4, (eSpot).f a.2⟩)]⟩ := by
  refine loopN_ind (fun rec2 hrec2 a r h => ?_)
  obtain ⟨t7, l10⟩ := a
  unfold Dspec_l7Corners_1 at h
  refine x_frk 8 [] onil h (by kernel_rfl) (fun h => ?_) (fun h => ?_)
  · obtain ⟨v0, hv0, h⟩ := bind_some h
    obtain ⟨v1, hv1, h⟩ := bind_some h
    obtain ⟨v2, hv2, h⟩ := bind_some h
    obtain ⟨v3, hv3, h⟩ := bind_some h
    refine x_frk 29 [(2, .val (.cptr (ePl.c v0 ++ (ePl).f ((t0).drop (Int.toNat t5 + 1))))), (3, .val (.cptr (ePl.c v1 ++ (ePl).f ((t0).drop (Int.toNat t6 + 1))))), (3, .val (.cptr (ePl.c v2 ++ (ePl).f ((t0).drop (Int.toNat t7 + 1))))), (1, .call [] [] (.tup [.agg [i64 v3.1.X, i64 v3.1.Y, i64 v3.1.Z, i64 v3.1.W], bl v3.2]) [])] (ocons (ix ePl hv0) (ocons (ix ePl hv1) (ocons (ix ePl hv2) (ocons (Tspec_l5Meet (Y := Y) n v0 v1 v2 _ hv3) onil)))) h (by kernel_rfl) (fun h => ?_) (fun h => ?_)
    · obtain ⟨v4, hv4, h⟩ := bind_some h
      exact x_to 6 [(2, .call [] [] (i64 v4) [])] (ocons (Tspec_l7In (Y := Y) n t0 v3.1 _ hv4) onil) (Tspec_l7Corners_0 n rec2 rec1 rec0 t6 t5 t0 t4 hrec2 hrec1 hrec0 t7 (decide (v4 ≥ 0)) v3.1.X v3.1.Y v3.1.Z v3.1.W l10 r h) (by kernel_rfl)
    · exact x_to 15 [] onil (hrec2 (w64 (t7 + 1), l10) r h) (by kernel_rfl)
  · exact x_to 8 [] onil (hrec1 (w64 (t6 + 1), l10) r h) (by kernel_rfl)
def Dspec_l7Corners_2 (n : Nat) (rec0 : (Int × List Spot) → Option (List Spot)) (t0 : List Pl) (t4 t5 : Int) (rec1 : (Int × List Spot) → Option (List Spot)) (a : (Int × List Spot)) : Option (List Spot) :=
  match a with
  | (t6, l10) => frk (decide (t6 < t4)) (loopN (Dspec_l7Corners_1 n rec1 rec0 t5 t0 t4 t6) n (w64 (t6 + 1), l10)) (rec0 (w64 (t5 + 1), l10))
theorem Tspec_l7Corners_2 {Y} (n : Nat) (rec0 : (Int × List Spot) → Option (List Spot)) (t0 : List Pl) (t4 : Int) (hrec0 : ∀ (a : (Int × List Spot)) (r : (List Spot)), rec0 a = some r → Wk Try.prog H Y 40 [.code (cp [1, 1, 1, 0, 1, 0] (bodyOf Try.f40)), .blk 0, .code (cp [1, 1, 1, 1] (bodyOf Try.f40))] (FinX Try.prog Try.f40 [] (.sl true 4 r.length ((eSpot).f r)) []) ⟨[(0, .sl false 4 t0.length ((ePl).f t0)), (3, .msl 10 a.2.length), (4, i64 t4), (5, i64 a.1)], [(10, ⟨false, 4, (eSpot).f a.2⟩)]⟩) (t5 : Int) : ∀ (m : Nat) (a : (Int × List Spot)) (r : (List Spot)), loopN (Dspec_l7Corners_2 n rec0 t0 t4 t5) m a = some r → Wk Try.prog H Y 40 [.code (cp [1, 1, 1, 0, 1, 0, 0, 1, 0, 0, 1, 0] (bodyOf Try.f40)), .blk 2, .blk 1, .code (cp [1, 1, 1, 0, 1, 0, 0, 1, 1] (bodyOf Try.f40)), .lp (cp [1, 1, 1, 0, 1, 0] (bodyOf Try.f40)), .blk 0, .code (cp [1, 1, 1, 1] (bodyOf Try.f40))] (FinX Try.prog Try.f40 [] (.sl true 4 r.length ((eSpot).f r)) []) ⟨[(0, .sl false 4 t0.length ((ePl).f t0)), (3, .msl 10 a.2.length), (4, i64 t4), (5, i64 t5), (6, i64 a.1)], [(10, ⟨false, 4, (eSpot).f a.2⟩)]⟩ := by
  refine loopN_ind (fun rec1 hrec1 a r h => ?_)
  obtain ⟨t6, l10⟩ := a
  unfold Dspec_l7Corners_2 at h
  refine x_frk 8 [] onil h (by kernel_rfl) (fun h => ?_) (fun h => ?_)
  · exact x_to 10 [] onil (Tspec_l7Corners_1 n rec1 rec0 t5 t0 t4 hrec1 hrec0 t6 n (w64 (t6 + 1), l10) r h) (by kernel_rfl)
  · exact x_to 8 [] onil (hrec0 (w64 (t5 + 1), l10) r h) (by kernel_rfl)
def Dspec_l7Corners_3 (n : Nat) (t0 : List Pl) (t4 : Int) (rec0 : (Int × List Spot) → Option (List Spot)) (a : (Int × List Spot)) : Option (List Spot) :=
  match a with
  | (t5, l10) => frk (decide (t5 < t4)) (loopN (Dspec_l7Corners_2 n rec0 t0 t4 t5) n (w64 (t5 + 1), l10)) (some l10)
theorem Tspec_l7Corners_3 {Y} (n : Nat) (t0 : List Pl) (t4 : Int) : ∀ (m : Nat) (a : (Int × List Spot)) (r : (List Spot)), loopN (Dspec_l7Corners_3 n t0 t4) m a = some r → Wk Try.prog H Y 40 [.code (cp [1, 1, 1, 0, 1, 0] (bodyOf Try.f40)), .blk 0, .code (cp [1, 1, 1, 1] (bodyOf Try.f40))] (FinX Try.prog Try.f40 [] (.sl true 4 r.length ((eSpot).f r)) []) ⟨[(0, .sl false 4 t0.length ((ePl).f t0)), (3, .msl 10 a.2.length), (4, i64 t4), (5, i64 a.1)], [(10, ⟨false, 4, (eSpot).f a.2⟩)]⟩ := by
  refine loopN_ind (fun rec0 hrec0 a r h => ?_)
  obtain ⟨t5, l10⟩ := a
  unfold Dspec_l7Corners_3 at h
  refine x_frk 8 [] onil h (by kernel_rfl) (fun h => ?_) (fun h => ?_)
  · exact x_to 10 [] onil (Tspec_l7Corners_2 n rec0 t0 t4 hrec0 t5 n (w64 (t5 + 1), l10) r h) (by kernel_rfl)
  · replace h := Option.some.inj h; subst h
    exact x_end 6 [] [] onil (ocons (len_row (L := l10) eSpot) onil) (by kernel_rfl)
def Dspec_l7Corners (n : Nat) (a0 : (List Pl)) : Option (List Spot) :=
  loopN (Dspec_l7Corners_3 n a0 (a0.length : Int)) n (0, [])
theorem Tspec_l7Corners {Y} (n : Nat) (a0 : (List Pl)) (r : (List Spot)) (h : Dspec_l7Corners n a0 = some r) : Big Try.prog H Y (.call 40 [.sl false 4 a0.length ((ePl).f a0)] (lk []) (.sl true 4 r.length ((eSpot).f r)) (lk [])) := by
  unfold Dspec_l7Corners at h
  refine x_call (fn := Try.f40) (c := bodyOf Try.f40) (bs0 := []) Try.func40 (by kernel_rfl) (by kernel_rfl) ?_
  exact x_to 22 [(7, .shutb 10 ⟨true, 4, (eSpot).f []⟩)] (ocons (rflB ⟨true, 4, (eSpot).f []⟩) (ocons (show 4 ≠ 0 by decide) onil)) (Tspec_l7Corners_3 n a0 (a0.length : Int) n (0, []) r h) (by kernel_rfl)
/-! spec.l15On -/
def Dspec_l15On_0 (_n : Nat) (t0 : List Spot) (b3_0 b3_1 b3_2 b3_3 : Int) (rec0 : (Int × List Spot) → Option (List Spot)) (a : (Int × List Spot)) : Option (List Spot) :=
  match a with
  | (t6, l7) => frk (decide (t6 < (t0.length : Int))) ((lget t0 t6).bind fun v0 => (Dspec_l5Side (Pl.mk b3_0 b3_1 b3_2 b3_3) v0).bind fun v1 => frk (v1 == 0) ((lget t0 t6).bind fun v2 => chk (apB 32 (l7.length + 1)) (rec0 (w64 (t6 + 1), (l7 ++ [v2])))) (rec0 (w64 (t6 + 1), l7))) (some l7)
theorem Tspec_l15On_0 {Y} (n : Nat) (t0 : List Spot) (b3_0 b3_1 b3_2 b3_3 : Int) : ∀ (m : Nat) (a : (Int × List Spot)) (r : (List Spot)), loopN (Dspec_l15On_0 n t0 b3_0 b3_1 b3_2 b3_3) m a = some r → Wk Try.prog H Y 41 [.code (cp [1, 1, 0, 1, 0] (bodyOf Try.f41)), .blk 0, .code (cp [1, 1, 1] (bodyOf Try.f41))] (FinX Try.prog Try.f41 [] (.sl true 4 r.length ((eSpot).f r)) []) ⟨[(0, .sl false 4 t0.length ((eSpot).f t0)), (3, .ptr 3 0), (5, .msl 7 a.2.length), (6, i64 a.1)], [(3, ⟨true, 0, [i64 b3_0, i64 b3_1, i64 b3_2, i64 b3_3]⟩), (7, ⟨true, 4, (eSpot).f a.2⟩)]⟩ := by
  refine loopN_ind (fun _rec0 hrec0 a r h => ?_)
  obtain ⟨t6, l7⟩ := a
  unfold Dspec_l15On_0 at h
  refine x_frk 9 [] onil h (by kernel_rfl) (fun h => ?_) (fun h => ?_)
  · obtain ⟨v0, hv0, h⟩ := bind_some h
    obtain ⟨v1, hv1, h⟩ := bind_some h
    refine x_frk 13 [(3, .val (.cptr (eSpot.c v0 ++ (eSpot).f ((t0).drop (Int.toNat t6 + 1))))), (1, .call [] [] (i64 v1) [])] (ocons (ix eSpot hv0) (ocons (Tspec_l5Side (Y := Y) (Pl.mk b3_0 b3_1 b3_2 b3_3) v0 _ hv1) onil)) h (by kernel_rfl) (fun h => ?_) (fun h => ?_)
    · obtain ⟨v2, hv2, h⟩ := bind_some h
      obtain ⟨c3, h⟩ := chk_some h
      exact x_to 18 [(3, .val (.cptr (eSpot.c v2 ++ (eSpot).f ((t0).drop (Int.toNat t6 + 1))))), (2, .app false (List.length (l7 ++ [v2])) ((eSpot).f (l7 ++ [v2]))), (4, .ren 27 7)] (ocons (ix eSpot hv2) (ocons (len_row' (L := l7) eSpot) (ocons (app_one (L := l7) (M := [v2]) eSpot c3) (ocons (app_new (L := l7) (M := [v2]) eSpot) (ocons (app_m (L := l7) (M := [v2]) eSpot rfl) (ocons (len_row' (L := [v2]) eSpot) (ocons (Enc.noOwn eSpot (fun _ => rfl) [v2]) (ocons (show 27 < 1000 ∧ 7 < 1000 by decide) onil)))))))) (hrec0 (w64 (t6 + 1), (l7 ++ [v2])) r h) (by kernel_rfl)
    · exact x_to 8 [] onil (hrec0 (w64 (t6 + 1), l7) r h) (by kernel_rfl)
  · replace h := Option.some.inj h; subst h
    exact x_end 6 [] [] onil (ocons (len_row (L := l7) eSpot) onil) (by kernel_rfl)
def Dspec_l15On (n : Nat) (a0 : (List Spot)) (a1 : Pl) : Option (List Spot) :=
  loopN (Dspec_l15On_0 n a0 a1.A a1.B a1.C a1.D) n (0, [])
theorem Tspec_l15On {Y} (n : Nat) (a0 : (List Spot)) (a1 : Pl) (r : (List Spot)) (h : Dspec_l15On n a0 a1 = some r) : Big Try.prog H Y (.call 41 [.sl false 4 a0.length ((eSpot).f a0), .agg [i64 a1.A, i64 a1.B, i64 a1.C, i64 a1.D]] (lk []) (.sl true 4 r.length ((eSpot).f r)) (lk [])) := by
  unfold Dspec_l15On at h
  refine x_call (fn := Try.f41) (c := bodyOf Try.f41) (bs0 := []) Try.func41 (by kernel_rfl) (by kernel_rfl) ?_
  exact x_to 16 [] onil (Tspec_l15On_0 n a0 a1.A a1.B a1.C a1.D n (0, []) r h) (by kernel_rfl)
/-! spec.FaceCount -/
def Dspec_FaceCount_0 (n : Nat) (t0 : List Pl) (t4 : List Int) (t5 : List Spot) (rec0 : (Int × Int) → Option Int) (a : (Int × Int)) : Option Int :=
  match a with
  | (t3, t6) => frk (decide (t6 < (t4.length : Int))) ((lget t4 t6).bind fun v3 => (lget t0 v3).bind fun v4 => (Dspec_l15On n t5 v4).bind fun v5 => frk (decide ((v5.length : Int) > 2)) (rec0 (w64 (t3 + 1), w64 (t6 + 1))) (rec0 (t3, w64 (t6 + 1)))) (some t3)
theorem Tspec_FaceCount_0 {Y} (n : Nat) (t0 : List Pl) (t4 : List Int) (t5 : List Spot) : ∀ (m : Nat) (a : (Int × Int)) (r : Int), loopN (Dspec_FaceCount_0 n t0 t4 t5) m a = some r → Wk Try.prog H Y 15 [.code (cp [1, 1, 1, 1, 1, 0, 1, 0] (bodyOf Try.f15)), .blk 0, .code (cp [1, 1, 1, 1, 1, 1] (bodyOf Try.f15))] (FinX Try.prog Try.f15 [] (i64 r) []) ⟨[(0, .sl false 4 t0.length ((ePl).f t0)), (3, i64 a.1), (4, .sl false 1 t4.length ((eInt).f t4)), (5, .sl false 4 t5.length ((eSpot).f t5)), (6, i64 a.2)], []⟩ := by
  refine loopN_ind (fun _rec0 hrec0 a r h => ?_)
  obtain ⟨t3, t6⟩ := a
  unfold Dspec_FaceCount_0 at h
  refine x_frk 9 [] onil h (by kernel_rfl) (fun h => ?_) (fun h => ?_)
  · obtain ⟨v3, hv3, h⟩ := bind_some h
    obtain ⟨v4, hv4, h⟩ := bind_some h
    obtain ⟨v5, hv5, h⟩ := bind_some h
    refine x_frk 17 [(4, .val (.cptr (eInt.c v3 ++ (eInt).f ((t4).drop (Int.toNat t6 + 1))))), (1, .val (.cptr (ePl.c v4 ++ (ePl).f ((t0).drop (Int.toNat v3 + 1))))), (1, .call [] [] (.sl false 4 v5.length ((eSpot).f v5)) [])] (ocons (ix eInt hv3) (ocons (ix ePl hv4) (ocons (shSl (L := v5) eSpot eSpot sSpot (Tspec_l15On (Y := Y) n t5 v4 _ hv5)) onil))) h (by kernel_rfl) (fun h => ?_) (fun h => ?_)
    · exact x_to 12 [] onil (hrec0 (w64 (t3 + 1), w64 (t6 + 1)) r h) (by kernel_rfl)
    · exact x_to 8 [] onil (hrec0 (t3, w64 (t6 + 1)) r h) (by kernel_rfl)
  · replace h := Option.some.inj h; subst h
    exact x_end 6 [] [] onil onil (by kernel_rfl)
def Dspec_FaceCount (n : Nat) (a0 : (List Pl)) : Option Int :=
  (Dspec_Open n a0).bind fun v0 => frk (!v0) (some 0) ((Dspec_l7Needed n a0).bind fun v1 => (Dspec_l7Corners n a0).bind fun v2 => loopN (Dspec_FaceCount_0 n a0 v1 v2) n (0, 0))
theorem Tspec_FaceCount {Y} (n : Nat) (a0 : (List Pl)) (r : Int) (h : Dspec_FaceCount n a0 = some r) : Big Try.prog H Y (.call 15 [.sl false 4 a0.length ((ePl).f a0)] (lk []) (i64 r) (lk [])) := by
  unfold Dspec_FaceCount at h
  refine x_call (fn := Try.f15) (c := bodyOf Try.f15) (bs0 := []) Try.func15 (by kernel_rfl) (by kernel_rfl) ?_
  obtain ⟨v0, hv0, h⟩ := bind_some h
  refine x_frk 11 [(2, .call [] [] (bl v0) [])] (ocons (Tspec_Open (Y := Y) n a0 _ hv0) onil) h (by kernel_rfl) (fun h => ?_) (fun h => ?_)
  · replace h := Option.some.inj h; subst h
    exact x_end 4 [] [] onil onil (by kernel_rfl)
  · obtain ⟨v1, hv1, h⟩ := bind_some h
    obtain ⟨v2, hv2, h⟩ := bind_some h
    exact x_to 23 [(2, .call [] [] (.sl false 1 v1.length ((eInt).f v1)) []), (2, .call [] [] (.sl false 4 v2.length ((eSpot).f v2)) [])] (ocons (shSl (L := v1) eInt eInt sInt (Tspec_l7Needed (Y := Y) n a0 _ hv1)) (ocons (shSl (L := v2) eSpot eSpot sSpot (Tspec_l7Corners (Y := Y) n a0 _ hv2)) onil)) (Tspec_FaceCount_0 n a0 v1 v2 n (0, 0) r h) (by kernel_rfl)
/-! impl.inRange -/
def Dimpl_inRange (a0 a1 a2 : Int) : Option Bool :=
  frk (decide (a0 ≥ a1)) (some (decide (a0 ≤ a2))) (some false)
theorem Timpl_inRange {Y} (a0 a1 a2 : Int) (r : Bool) (h : Dimpl_inRange a0 a1 a2 = some r) : Big Try.prog H Y (.call 93 [i64 a0, i64 a1, i64 a2] (lk []) (bl r) (lk [])) := by
  unfold Dimpl_inRange at h
  refine x_call (fn := Try.f93) (c := bodyOf Try.f93) (bs0 := []) Try.func93 (by kernel_rfl) (by kernel_rfl) ?_
  refine x_frk 10 [] onil h (by kernel_rfl) (fun h => ?_) (fun h => ?_)
  · replace h := Option.some.inj h; subst h
    exact x_end 6 [] [] onil onil (by kernel_rfl)
  · replace h := Option.some.inj h; subst h
    exact x_end 6 [] [] onil onil (by kernel_rfl)
/-! impl.isCoef -/
def Dimpl_isCoef (a0 : Int) : Option Bool :=
  (Dimpl_inRange a0 (-500) 500).bind fun v0 => some v0
theorem Timpl_isCoef {Y} (a0 : Int) (r : Bool) (h : Dimpl_isCoef a0 = some r) : Big Try.prog H Y (.call 117 [i64 a0] (lk []) (bl r) (lk [])) := by
  unfold Dimpl_isCoef at h
  refine x_call (fn := Try.f117) (c := bodyOf Try.f117) (bs0 := []) Try.func117 (by kernel_rfl) (by kernel_rfl) ?_
  obtain ⟨v0, hv0, h⟩ := bind_some h
  replace h := Option.some.inj h; subst h
  exact x_end 10 [(2, .call [] [] (bl v0) [])] [] (ocons (Timpl_inRange (Y := Y) a0 (-500) 500 _ hv0) onil) onil (by kernel_rfl)
/-! impl.divisor -/
def Dimpl_divisor_0 (_n : Nat) (rec0 : (Int × Int) → Option Int) (_t6 : List Int) (_t7 t8 : Int) (rec1 : (Int × Int) → Option Int) (a : (Int × Int)) : Option Int :=
  match a with
  | (t3, t5) => frk (t5 != 0) ((rm .i64 t3 t5).bind fun v1 => rec1 (t5, v1)) (rec0 (t3, w64 (t8 + 1)))
theorem Timpl_divisor_0 {Y} (n : Nat) (rec0 : (Int × Int) → Option Int) (t6 : List Int) (t7 : Int) (hrec0 : ∀ (a : (Int × Int)) (r : Int), rec0 a = some r → Wk Try.prog H Y 107 [.code (cp [1, 1, 0, 1, 0] (bodyOf Try.f107)), .blk 0, .code (cp [1, 1, 1] (bodyOf Try.f107))] (FinX Try.prog Try.f107 [] (i64 r) []) ⟨[(3, i64 a.1), (6, .sl false 1 t6.length ((eInt).f t6)), (7, i64 t7), (8, i64 a.2)], []⟩) (t8 : Int) : ∀ (m : Nat) (a : (Int × Int)) (r : Int), loopN (Dimpl_divisor_0 n rec0 t6 t7 t8) m a = some r → Wk Try.prog H Y 107 [.code (cp [1, 1, 0, 1, 0, 0, 1, 1, 0, 0, 1, 1, 0] (bodyOf Try.f107)), .blk 2, .blk 1, .code (cp [1, 1, 0, 1, 0, 0, 1, 1, 1] (bodyOf Try.f107)), .lp (cp [1, 1, 0, 1, 0] (bodyOf Try.f107)), .blk 0, .code (cp [1, 1, 1] (bodyOf Try.f107))] (FinX Try.prog Try.f107 [] (i64 r) []) ⟨[(3, i64 a.1), (5, i64 a.2), (6, .sl false 1 t6.length ((eInt).f t6)), (7, i64 t7), (8, i64 t8)], []⟩ := by
  refine loopN_ind (fun _rec1 hrec1 a r h => ?_)
  obtain ⟨t3, t5⟩ := a
  unfold Dimpl_divisor_0 at h
  refine x_frk 7 [] onil h (by kernel_rfl) (fun h => ?_) (fun h => ?_)
  · obtain ⟨v1, hv1, h⟩ := bind_some h
    exact x_to 12 [(3, .val (i64 v1))] (ocons (rmOk hv1) onil) (hrec1 (t5, v1) r h) (by kernel_rfl)
  · exact x_to 7 [] onil (hrec0 (t3, w64 (t8 + 1)) r h) (by kernel_rfl)
def Dimpl_divisor_1 (n : Nat) (t6 : List Int) (t7 : Int) (rec0 : (Int × Int) → Option Int) (a : (Int × Int)) : Option Int :=
  match a with
  | (t3, t8) => frk (decide (t8 < t7)) ((lget t6 t8).bind fun v0 => loopN (Dimpl_divisor_0 n rec0 t6 t7 t8) n (t3, maxN v0 [w64 (0 - v0)])) (some t3)
theorem Timpl_divisor_1 {Y} (n : Nat) (t6 : List Int) (t7 : Int) : ∀ (m : Nat) (a : (Int × Int)) (r : Int), loopN (Dimpl_divisor_1 n t6 t7) m a = some r → Wk Try.prog H Y 107 [.code (cp [1, 1, 0, 1, 0] (bodyOf Try.f107)), .blk 0, .code (cp [1, 1, 1] (bodyOf Try.f107))] (FinX Try.prog Try.f107 [] (i64 r) []) ⟨[(3, i64 a.1), (6, .sl false 1 t6.length ((eInt).f t6)), (7, i64 t7), (8, i64 a.2)], []⟩ := by
  refine loopN_ind (fun rec0 hrec0 a r h => ?_)
  obtain ⟨t3, t8⟩ := a
  unfold Dimpl_divisor_1 at h
  refine x_frk 6 [] onil h (by kernel_rfl) (fun h => ?_) (fun h => ?_)
  · obtain ⟨v0, hv0, h⟩ := bind_some h
    exact x_to 18 [(0, .val (.cptr (eInt.c v0 ++ (eInt).f ((t6).drop (Int.toNat t8 + 1))))), (5, .val (.lit (.int .i64 (maxN v0 [w64 (0 - v0)]))))] (ocons (ix eInt hv0) (ocons (maxNok .i64 [w64 (0 - v0)] v0) onil)) (Timpl_divisor_0 n rec0 t6 t7 hrec0 t8 n (t3, maxN v0 [w64 (0 - v0)]) r h) (by kernel_rfl)
  · replace h := Option.some.inj h; subst h
    exact x_end 6 [] [] onil onil (by kernel_rfl)
def Dimpl_divisor (n : Nat) (a0 : (List Int)) : Option Int :=
  loopN (Dimpl_divisor_1 n a0 (a0.length : Int)) n (0, 0)
theorem Timpl_divisor {Y} (n : Nat) (a0 : (List Int)) (r : Int) (h : Dimpl_divisor n a0 = some r) : Big Try.prog H Y (.call 107 [.sl false 1 a0.length ((eInt).f a0)] (lk []) (i64 r) (lk [])) := by
  unfold Dimpl_divisor at h
  refine x_call (fn := Try.f107) (c := bodyOf Try.f107) (bs0 := []) Try.func107 (by kernel_rfl) (by kernel_rfl) ?_
  exact x_to 16 [] onil (Timpl_divisor_1 n a0 (a0.length : Int) n (0, 0) r h) (by kernel_rfl)
/-! impl.PlaneOk -/
def Dimpl_PlaneOk_0 (n : Nat) (t24 : Bool) (b1_0 b1_1 b1_2 b1_3 : Int) : Option Bool :=
  frk t24 (some false) (frk (b1_0 != 0) ((Dimpl_divisor n [b1_0, b1_1, b1_2, b1_3]).bind fun v4 => some (v4 == 1)) (frk (b1_1 != 0) ((Dimpl_divisor n [b1_0, b1_1, b1_2, b1_3]).bind fun v5 => some (v5 == 1)) (frk (b1_2 != 0) ((Dimpl_divisor n [b1_0, b1_1, b1_2, b1_3]).bind fun v6 => some (v6 == 1)) (some false))))
theorem Timpl_PlaneOk_0 {Y} (n : Nat) (t24 : Bool) (b1_0 b1_1 b1_2 b1_3 : Int) (r : Bool) (h : Dimpl_PlaneOk_0 n t24 b1_0 b1_1 b1_2 b1_3 = some r) : Wk Try.prog H Y 94 [.code (cp [1, 0, 1] (bodyOf Try.f94)), .code (cp [1, 1] (bodyOf Try.f94))] (FinX Try.prog Try.f94 [] (bl r) []) ⟨[(1, .ptr 1 0), (24, bl t24)], [(1, ⟨true, 0, [i64 b1_0, i64 b1_1, i64 b1_2, i64 b1_3]⟩)]⟩ := by
  unfold Dimpl_PlaneOk_0 at h
  refine x_frk 0 [] onil h (by kernel_rfl) (fun h => ?_) (fun h => ?_)
  · replace h := Option.some.inj h; subst h
    exact x_end 4 [] [] onil onil (by kernel_rfl)
  · refine x_frk 7 [] onil h (by kernel_rfl) (fun h => ?_) (fun h => ?_)
    · obtain ⟨v4, hv4, h⟩ := bind_some h
      replace h := Option.some.inj h; subst h
      exact x_end 24 [(19, .call [] [(eInt).f [b1_0, b1_1, b1_2, b1_3]] (i64 v4) [])] [] (ocons (Timpl_divisor (Y := Y) n [b1_0, b1_1, b1_2, b1_3] _ hv4) (ocons (len_row (L := [b1_0, b1_1, b1_2, b1_3]) eInt) (ocons (Enc.share eInt eInt sInt [b1_0, b1_1, b1_2, b1_3]) onil))) onil (by kernel_rfl)
    · refine x_frk 5 [] onil h (by kernel_rfl) (fun h => ?_) (fun h => ?_)
      · obtain ⟨v5, hv5, h⟩ := bind_some h
        replace h := Option.some.inj h; subst h
        exact x_end 19 [(14, .call [] [(eInt).f [b1_0, b1_1, b1_2, b1_3]] (i64 v5) [])] [] (ocons (Timpl_divisor (Y := Y) n [b1_0, b1_1, b1_2, b1_3] _ hv5) (ocons (len_row (L := [b1_0, b1_1, b1_2, b1_3]) eInt) (ocons (Enc.share eInt eInt sInt [b1_0, b1_1, b1_2, b1_3]) onil))) onil (by kernel_rfl)
      · refine x_frk 5 [] onil h (by kernel_rfl) (fun h => ?_) (fun h => ?_)
        · obtain ⟨v6, hv6, h⟩ := bind_some h
          replace h := Option.some.inj h; subst h
          exact x_end 14 [(9, .call [] [(eInt).f [b1_0, b1_1, b1_2, b1_3]] (i64 v6) [])] [] (ocons (Timpl_divisor (Y := Y) n [b1_0, b1_1, b1_2, b1_3] _ hv6) (ocons (len_row (L := [b1_0, b1_1, b1_2, b1_3]) eInt) (ocons (Enc.share eInt eInt sInt [b1_0, b1_1, b1_2, b1_3]) onil))) onil (by kernel_rfl)
        · replace h := Option.some.inj h; subst h
          exact x_end 14 [] [] onil onil (by kernel_rfl)
def Dimpl_PlaneOk (n : Nat) (a0 : Pl) : Option Bool :=
  (Dimpl_isCoef a0.A).bind fun v0 => frk (!v0) (some false) ((Dimpl_isCoef a0.B).bind fun v1 => frk (!v1) (some false) ((Dimpl_isCoef a0.C).bind fun v2 => frk (!v2) (some false) ((Dimpl_isCoef a0.D).bind fun v3 => Dimpl_PlaneOk_0 n (!v3) a0.A a0.B a0.C a0.D)))
theorem Timpl_PlaneOk {Y} (n : Nat) (a0 : Pl) (r : Bool) (h : Dimpl_PlaneOk n a0 = some r) : Big Try.prog H Y (.call 94 [.agg [i64 a0.A, i64 a0.B, i64 a0.C, i64 a0.D]] (lk []) (bl r) (lk [])) := by
  unfold Dimpl_PlaneOk at h
  refine x_call (fn := Try.f94) (c := bodyOf Try.f94) (bs0 := []) Try.func94 (by kernel_rfl) (by kernel_rfl) ?_
  obtain ⟨v0, hv0, h⟩ := bind_some h
  refine x_frk 13 [(4, .call [] [] (bl v0) [])] (ocons (Timpl_isCoef (Y := Y) a0.A _ hv0) onil) h (by kernel_rfl) (fun h => ?_) (fun h => ?_)
  · replace h := Option.some.inj h; subst h
    exact x_end 23 [] [] onil onil (by kernel_rfl)
  · obtain ⟨v1, hv1, h⟩ := bind_some h
    refine x_frk 6 [(2, .call [] [] (bl v1) [])] (ocons (Timpl_isCoef (Y := Y) a0.B _ hv1) onil) h (by kernel_rfl) (fun h => ?_) (fun h => ?_)
    · replace h := Option.some.inj h; subst h
      exact x_end 17 [] [] onil onil (by kernel_rfl)
    · obtain ⟨v2, hv2, h⟩ := bind_some h
      refine x_frk 6 [(2, .call [] [] (bl v2) [])] (ocons (Timpl_isCoef (Y := Y) a0.C _ hv2) onil) h (by kernel_rfl) (fun h => ?_) (fun h => ?_)
      · replace h := Option.some.inj h; subst h
        exact x_end 11 [] [] onil onil (by kernel_rfl)
      · obtain ⟨v3, hv3, h⟩ := bind_some h
        exact x_to 6 [(2, .call [] [] (bl v3) [])] (ocons (Timpl_isCoef (Y := Y) a0.D _ hv3) onil) (Timpl_PlaneOk_0 n (!v3) a0.A a0.B a0.C a0.D r h) (by kernel_rfl)
/-! impl.planesOk -/
def Dimpl_planesOk_0 (n : Nat) (t5 : List Pl) (t6 : Int) (rec0 : Int → Option Bool) (a : Int) : Option Bool :=
  match a with
  | t7 => frk (decide (t7 < t6)) ((lget t5 t7).bind fun v0 => (Dimpl_PlaneOk n v0).bind fun v1 => frk (!v1) (some false) (rec0 (w64 (t7 + 1)))) (some true)
theorem Timpl_planesOk_0 {Y} (n : Nat) (t5 : List Pl) (t6 : Int) : ∀ (m : Nat) (a : Int) (r : Bool), loopN (Dimpl_planesOk_0 n t5 t6) m a = some r → Wk Try.prog H Y 78 [.code (cp [1, 0, 1, 0] (bodyOf Try.f78)), .blk 0, .code (cp [1, 1] (bodyOf Try.f78))] (FinX Try.prog Try.f78 [] (bl r) []) ⟨[(5, .sl false 4 t5.length ((ePl).f t5)), (6, i64 t6), (7, i64 a)], []⟩ := by
  refine loopN_ind (fun _rec0 hrec0 a r h => ?_)
  obtain ⟨t7, rfl⟩ : ∃ x, x = a := ⟨a, rfl⟩
  unfold Dimpl_planesOk_0 at h
  refine x_frk 6 [] onil h (by kernel_rfl) (fun h => ?_) (fun h => ?_)
  · obtain ⟨v0, hv0, h⟩ := bind_some h
    obtain ⟨v1, hv1, h⟩ := bind_some h
    refine x_frk 16 [(0, .val (.cptr (ePl.c v0 ++ (ePl).f ((t5).drop (Int.toNat t7 + 1))))), (4, .call [] [] (bl v1) [])] (ocons (ix ePl hv0) (ocons (Timpl_PlaneOk (Y := Y) n v0 _ hv1) onil)) h (by kernel_rfl) (fun h => ?_) (fun h => ?_)
    · replace h := Option.some.inj h; subst h
      exact x_end 4 [] [] onil onil (by kernel_rfl)
    · exact x_to 7 [] onil (hrec0 (w64 (t7 + 1)) r h) (by kernel_rfl)
  · replace h := Option.some.inj h; subst h
    exact x_end 5 [] [] onil onil (by kernel_rfl)
def Dimpl_planesOk (n : Nat) (a0 : (List Pl)) : Option Bool :=
  loopN (Dimpl_planesOk_0 n a0 (a0.length : Int)) n 0
theorem Timpl_planesOk {Y} (n : Nat) (a0 : (List Pl)) (r : Bool) (h : Dimpl_planesOk n a0 = some r) : Big Try.prog H Y (.call 78 [.sl false 4 a0.length ((ePl).f a0)] (lk []) (bl r) (lk [])) := by
  unfold Dimpl_planesOk at h
  refine x_call (fn := Try.f78) (c := bodyOf Try.f78) (bs0 := []) Try.func78 (by kernel_rfl) (by kernel_rfl) ?_
  exact x_to 12 [] onil (Timpl_planesOk_0 n a0 (a0.length : Int) n 0 r h) (by kernel_rfl)
/-! impl.normal -/
def Dimpl_normal (a0 : Pl) : Option (Int × Int × Int) :=
  some (a0.A, a0.B, a0.C)
theorem Timpl_normal {Y} (a0 : Pl) (r : (Int × Int × Int)) (h : Dimpl_normal a0 = some r) : Big Try.prog H Y (.call 124 [.agg [i64 a0.A, i64 a0.B, i64 a0.C, i64 a0.D]] (lk []) (.agg [i64 r.1, i64 r.2.1, i64 r.2.2]) (lk [])) := by
  unfold Dimpl_normal at h
  refine x_call (fn := Try.f124) (c := bodyOf Try.f124) (bs0 := []) Try.func124 (by kernel_rfl) (by kernel_rfl) ?_
  replace h := Option.some.inj h; subst h
  exact x_end 16 [] [] onil onil (by kernel_rfl)
/-! impl.crossOf -/
def Dimpl_crossOf (a0 : (Int × Int × Int)) (a1 : (Int × Int × Int)) : Option (Int × Int × Int) :=
  some (w64 ((w64 (a0.2.1 * a1.2.2)) - (w64 (a0.2.2 * a1.2.1))), w64 ((w64 (a0.2.2 * a1.1)) - (w64 (a0.1 * a1.2.2))), w64 ((w64 (a0.1 * a1.2.1)) - (w64 (a0.2.1 * a1.1))))
theorem Timpl_crossOf {Y} (a0 : (Int × Int × Int)) (a1 : (Int × Int × Int)) (r : (Int × Int × Int)) (h : Dimpl_crossOf a0 a1 = some r) : Big Try.prog H Y (.call 126 [.agg [i64 a0.1, i64 a0.2.1, i64 a0.2.2], .agg [i64 a1.1, i64 a1.2.1, i64 a1.2.2]] (lk []) (.agg [i64 r.1, i64 r.2.1, i64 r.2.2]) (lk [])) := by
  unfold Dimpl_crossOf at h
  refine x_call (fn := Try.f126) (c := bodyOf Try.f126) (bs0 := []) Try.func126 (by kernel_rfl) (by kernel_rfl) ?_
  replace h := Option.some.inj h; subst h
  exact x_end 44 [] [] onil onil (by kernel_rfl)
/-! impl.dot -/
def Dimpl_dot (a0 : (Int × Int × Int)) (a1 : (Int × Int × Int)) : Option Int :=
  some (w64 ((w64 ((w64 (a0.1 * a1.1)) + (w64 (a0.2.1 * a1.2.1)))) + (w64 (a0.2.2 * a1.2.2))))
theorem Timpl_dot {Y} (a0 : (Int × Int × Int)) (a1 : (Int × Int × Int)) (r : Int) (h : Dimpl_dot a0 a1 = some r) : Big Try.prog H Y (.call 125 [.agg [i64 a0.1, i64 a0.2.1, i64 a0.2.2], .agg [i64 a1.1, i64 a1.2.1, i64 a1.2.2]] (lk []) (i64 r) (lk [])) := by
  unfold Dimpl_dot at h
  refine x_call (fn := Try.f125) (c := bodyOf Try.f125) (bs0 := []) Try.func125 (by kernel_rfl) (by kernel_rfl) ?_
  replace h := Option.some.inj h; subst h
  exact x_end 27 [] [] onil onil (by kernel_rfl)
/-! cmp.isNaN[int] -/
def Dcmp_isNaN (a0 : Int) : Option Bool :=
  some (a0 != a0)
theorem Tcmp_isNaN {Y} (a0 : Int) (r : Bool) (h : Dcmp_isNaN a0 = some r) : Big Try.prog H Y (.call 137 [i64 a0] (lk []) (bl r) (lk [])) := by
  unfold Dcmp_isNaN at h
  refine x_call (fn := Try.f137) (c := bodyOf Try.f137) (bs0 := []) Try.func137 (by kernel_rfl) (by kernel_rfl) ?_
  replace h := Option.some.inj h; subst h
  exact x_end 11 [] [] onil onil (by kernel_rfl)
/-! cmp.Compare[int] -/
def Dcmp_Compare (a0 a1 : Int) : Option Int :=
  (Dcmp_isNaN a0).bind fun v0 => (Dcmp_isNaN a1).bind fun v1 => frk v0 (frk v1 (some 0) (some (-1))) (frk v1 (some 1) (frk (decide (a0 < a1)) (some (-1)) (frk (decide (a0 > a1)) (some 1) (some 0))))
theorem Tcmp_Compare {Y} (a0 a1 r : Int) (h : Dcmp_Compare a0 a1 = some r) : Big Try.prog H Y (.call 111 [i64 a0, i64 a1] (lk []) (i64 r) (lk [])) := by
  unfold Dcmp_Compare at h
  refine x_call (fn := Try.f111) (c := bodyOf Try.f111) (bs0 := []) Try.func111 (by kernel_rfl) (by kernel_rfl) ?_
  obtain ⟨v0, hv0, h⟩ := bind_some h
  obtain ⟨v1, hv1, h⟩ := bind_some h
  refine x_frk 21 [(2, .call [] [] (bl v0) []), (2, .call [] [] (bl v1) [])] (ocons (Tcmp_isNaN (Y := Y) a0 _ hv0) (ocons (Tcmp_isNaN (Y := Y) a1 _ hv1) onil)) h (by kernel_rfl) (fun h => ?_) (fun h => ?_)
  · refine x_frk 5 [] onil h (by kernel_rfl) (fun h => ?_) (fun h => ?_)
    · replace h := Option.some.inj h; subst h
      exact x_end 4 [] [] onil onil (by kernel_rfl)
    · replace h := Option.some.inj h; subst h
      exact x_end 5 [] [] onil onil (by kernel_rfl)
  · refine x_frk 6 [] onil h (by kernel_rfl) (fun h => ?_) (fun h => ?_)
    · replace h := Option.some.inj h; subst h
      exact x_end 4 [] [] onil onil (by kernel_rfl)
    · refine x_frk 8 [] onil h (by kernel_rfl) (fun h => ?_) (fun h => ?_)
      · replace h := Option.some.inj h; subst h
        exact x_end 4 [] [] onil onil (by kernel_rfl)
      · refine x_frk 8 [] onil h (by kernel_rfl) (fun h => ?_) (fun h => ?_)
        · replace h := Option.some.inj h; subst h
          exact x_end 4 [] [] onil onil (by kernel_rfl)
        · replace h := Option.some.inj h; subst h
          exact x_end 5 [] [] onil onil (by kernel_rfl)
/-! impl.sign -/
def Dimpl_sign (a0 : Int) : Option Int :=
  (Dcmp_Compare a0 0).bind fun v0 => some v0
theorem Timpl_sign {Y} (a0 r : Int) (h : Dimpl_sign a0 = some r) : Big Try.prog H Y (.call 88 [i64 a0] (lk []) (i64 r) (lk [])) := by
  unfold Dimpl_sign at h
  refine x_call (fn := Try.f88) (c := bodyOf Try.f88) (bs0 := []) Try.func88 (by kernel_rfl) (by kernel_rfl) ?_
  obtain ⟨v0, hv0, h⟩ := bind_some h
  replace h := Option.some.inj h; subst h
  exact x_end 10 [(2, .call [] [] (i64 v0) [])] [] (ocons (Tcmp_Compare (Y := Y) a0 0 _ hv0) onil) onil (by kernel_rfl)
/-! impl.parallel -/
def Dimpl_parallel (a0 : Pl) (a1 : Pl) : Option Int :=
  (Dimpl_normal a0).bind fun v0 => (Dimpl_normal a1).bind fun v1 => (Dimpl_crossOf v0 v1).bind fun v2 => frk (!(v2.1 == 0 && (v2.2.1 == 0 && (v2.2.2 == 0 && true)))) (some 0) ((Dimpl_normal a0).bind fun v3 => (Dimpl_normal a1).bind fun v4 => (Dimpl_dot v3 v4).bind fun v5 => (Dimpl_sign v5).bind fun v6 => some v6)
theorem Timpl_parallel {Y} (a0 : Pl) (a1 : Pl) (r : Int) (h : Dimpl_parallel a0 a1 = some r) : Big Try.prog H Y (.call 138 [.agg [i64 a0.A, i64 a0.B, i64 a0.C, i64 a0.D], .agg [i64 a1.A, i64 a1.B, i64 a1.C, i64 a1.D]] (lk []) (i64 r) (lk [])) := by
  unfold Dimpl_parallel at h
  refine x_call (fn := Try.f138) (c := bodyOf Try.f138) (bs0 := []) Try.func138 (by kernel_rfl) (by kernel_rfl) ?_
  obtain ⟨v0, hv0, h⟩ := bind_some h
  obtain ⟨v1, hv1, h⟩ := bind_some h
  obtain ⟨v2, hv2, h⟩ := bind_some h
  refine x_frk 17 [(4, .call [] [] (.agg [i64 v0.1, i64 v0.2.1, i64 v0.2.2]) []), (1, .call [] [] (.agg [i64 v1.1, i64 v1.2.1, i64 v1.2.2]) []), (0, .call [] [] (.agg [i64 v2.1, i64 v2.2.1, i64 v2.2.2]) [])] (ocons (Timpl_normal (Y := Y) a0 _ hv0) (ocons (Timpl_normal (Y := Y) a1 _ hv1) (ocons (Timpl_crossOf (Y := Y) v0 v1 _ hv2) onil))) h (by kernel_rfl) (fun h => ?_) (fun h => ?_)
  · replace h := Option.some.inj h; subst h
    exact x_end 4 [] [] onil onil (by kernel_rfl)
  · obtain ⟨v3, hv3, h⟩ := bind_some h
    obtain ⟨v4, hv4, h⟩ := bind_some h
    obtain ⟨v5, hv5, h⟩ := bind_some h
    obtain ⟨v6, hv6, h⟩ := bind_some h
    replace h := Option.some.inj h; subst h
    exact x_end 11 [(1, .call [] [] (.agg [i64 v3.1, i64 v3.2.1, i64 v3.2.2]) []), (1, .call [] [] (.agg [i64 v4.1, i64 v4.2.1, i64 v4.2.2]) []), (0, .call [] [] (i64 v5) []), (0, .call [] [] (i64 v6) [])] [] (ocons (Timpl_normal (Y := Y) a0 _ hv3) (ocons (Timpl_normal (Y := Y) a1 _ hv4) (ocons (Timpl_dot (Y := Y) v3 v4 _ hv5) (ocons (Timpl_sign (Y := Y) v5 _ hv6) onil)))) onil (by kernel_rfl)
/-! impl.clash2 -/
def Dimpl_clash2 (_n : Nat) (a0 : Pl) (a1 : Pl) : Option Bool :=
  (Dimpl_parallel a0 a1).bind fun v0 => frk (decide (v0 ≥ 0)) (some false) ((Dimpl_normal a0).bind fun v1 => (Dimpl_normal a1).bind fun v2 => frk (v1.1 != 0) (some (decide ((w64 ((w64 (a0.D * (maxN v2.1 [w64 (0 - v2.1)]))) + (w64 (a1.D * (maxN v1.1 [w64 (0 - v1.1)]))))) ≤ 0))) (frk (v1.2.1 != 0) (some (decide ((w64 ((w64 (a0.D * (maxN v2.2.1 [w64 (0 - v2.2.1)]))) + (w64 (a1.D * (maxN v1.2.1 [w64 (0 - v1.2.1)]))))) ≤ 0))) (frk (v1.2.2 != 0) (some (decide ((w64 ((w64 (a0.D * (maxN v2.2.2 [w64 (0 - v2.2.2)]))) + (w64 (a1.D * (maxN v1.2.2 [w64 (0 - v1.2.2)]))))) ≤ 0))) (some false))))
theorem Timpl_clash2 {Y} (n : Nat) (a0 : Pl) (a1 : Pl) (r : Bool) (h : Dimpl_clash2 n a0 a1 = some r) : Big Try.prog H Y (.call 112 [.agg [i64 a0.A, i64 a0.B, i64 a0.C, i64 a0.D], .agg [i64 a1.A, i64 a1.B, i64 a1.C, i64 a1.D]] (lk []) (bl r) (lk [])) := by
  unfold Dimpl_clash2 at h
  refine x_call (fn := Try.f112) (c := bodyOf Try.f112) (bs0 := []) Try.func112 (by kernel_rfl) (by kernel_rfl) ?_
  obtain ⟨v0, hv0, h⟩ := bind_some h
  refine x_frk 14 [(5, .call [] [] (i64 v0) [])] (ocons (Timpl_parallel (Y := Y) a0 a1 _ hv0) onil) h (by kernel_rfl) (fun h => ?_) (fun h => ?_)
  · replace h := Option.some.inj h; subst h
    exact x_end 4 [] [] onil onil (by kernel_rfl)
  · obtain ⟨v1, hv1, h⟩ := bind_some h
    obtain ⟨v2, hv2, h⟩ := bind_some h
    refine x_frk 40 [(1, .call [] [] (.agg [i64 v1.1, i64 v1.2.1, i64 v1.2.2]) []), (1, .call [] [] (.agg [i64 v2.1, i64 v2.2.1, i64 v2.2.2]) [])] (ocons (Timpl_normal (Y := Y) a0 _ hv1) (ocons (Timpl_normal (Y := Y) a1 _ hv2) onil)) h (by kernel_rfl) (fun h => ?_) (fun h => ?_)
    · replace h := Option.some.inj h; subst h
      exact x_end 28 [(9, .val (.lit (.int .i64 (maxN v2.1 [w64 (0 - v2.1)])))), (10, .val (.lit (.int .i64 (maxN v1.1 [w64 (0 - v1.1)]))))] [] (ocons (maxNok .i64 [w64 (0 - v2.1)] v2.1) (ocons (maxNok .i64 [w64 (0 - v1.1)] v1.1) onil)) onil (by kernel_rfl)
    · refine x_frk 29 [] onil h (by kernel_rfl) (fun h => ?_) (fun h => ?_)
      · replace h := Option.some.inj h; subst h
        exact x_end 28 [(9, .val (.lit (.int .i64 (maxN v2.2.1 [w64 (0 - v2.2.1)])))), (10, .val (.lit (.int .i64 (maxN v1.2.1 [w64 (0 - v1.2.1)]))))] [] (ocons (maxNok .i64 [w64 (0 - v2.2.1)] v2.2.1) (ocons (maxNok .i64 [w64 (0 - v1.2.1)] v1.2.1) onil)) onil (by kernel_rfl)
      · refine x_frk 29 [] onil h (by kernel_rfl) (fun h => ?_) (fun h => ?_)
        · replace h := Option.some.inj h; subst h
          exact x_end 28 [(9, .val (.lit (.int .i64 (maxN v2.2.2 [w64 (0 - v2.2.2)])))), (10, .val (.lit (.int .i64 (maxN v1.2.2 [w64 (0 - v1.2.2)]))))] [] (ocons (maxNok .i64 [w64 (0 - v2.2.2)] v2.2.2) (ocons (maxNok .i64 [w64 (0 - v1.2.2)] v1.2.2) onil)) onil (by kernel_rfl)
        · replace h := Option.some.inj h; subst h
          exact x_end 19 [] [] onil onil (by kernel_rfl)
/-! impl.det -/
def Dimpl_det (a0 : (Int × Int × Int)) (a1 : (Int × Int × Int)) (a2 : (Int × Int × Int)) : Option Int :=
  (Dimpl_crossOf a1 a2).bind fun v0 => (Dimpl_dot a0 v0).bind fun v1 => some v1
theorem Timpl_det {Y} (a0 : (Int × Int × Int)) (a1 : (Int × Int × Int)) (a2 : (Int × Int × Int)) (r : Int) (h : Dimpl_det a0 a1 a2 = some r) : Big Try.prog H Y (.call 106 [.agg [i64 a0.1, i64 a0.2.1, i64 a0.2.2], .agg [i64 a1.1, i64 a1.2.1, i64 a1.2.2], .agg [i64 a2.1, i64 a2.2.1, i64 a2.2.2]] (lk []) (i64 r) (lk [])) := by
  unfold Dimpl_det at h
  refine x_call (fn := Try.f106) (c := bodyOf Try.f106) (bs0 := []) Try.func106 (by kernel_rfl) (by kernel_rfl) ?_
  obtain ⟨v0, hv0, h⟩ := bind_some h
  obtain ⟨v1, hv1, h⟩ := bind_some h
  replace h := Option.some.inj h; subst h
  exact x_end 16 [(7, .call [] [] (.agg [i64 v0.1, i64 v0.2.1, i64 v0.2.2]) []), (0, .call [] [] (i64 v1) [])] [] (ocons (Timpl_crossOf (Y := Y) a1 a2 _ hv0) (ocons (Timpl_dot (Y := Y) a0 v0 _ hv1) onil)) onil (by kernel_rfl)
/-! impl.weighs -/
def Dimpl_weighs_0 (_n : Nat) (rec0 : (Int × Int) → Option Bool) (t1 : List Int) (_t5 : Int) (_t13 : List Int) (_t14 t6 t7 t8 t15 : Int) (t27 : Bool) : Option Bool :=
  frk t27 (some false) ((lget t1 t7).bind fun v4 => rec0 (w64 (t6 + (w64 (t8 * v4))), w64 (t15 + 1)))
theorem Timpl_weighs_0 {Y} (n : Nat) (rec0 : (Int × Int) → Option Bool) (t1 : List Int) (t5 : Int) (t13 : List Int) (t14 : Int) (hrec0 : ∀ (a : (Int × Int)) (r : Bool), rec0 a = some r → Wk Try.prog H Y 139 [.code (cp [1, 1, 1, 0, 1, 0] (bodyOf Try.f139)), .blk 0, .code (cp [1, 1, 1, 1] (bodyOf Try.f139))] (FinX Try.prog Try.f139 [] (bl r) []) ⟨[(1, .sl false 1 t1.length ((eInt).f t1)), (5, i64 t5), (6, i64 a.1), (13, .sl false 1 t13.length ((eInt).f t13)), (14, i64 t14), (15, i64 a.2)], []⟩) (t6 t7 t8 t15 : Int) (t27 r : Bool) (h : Dimpl_weighs_0 n rec0 t1 t5 t13 t14 t6 t7 t8 t15 t27 = some r) : Wk Try.prog H Y 139 [.code (cp [1, 1, 1, 0, 1, 0, 0, 1, 1, 0, 0, 1, 0, 1] (bodyOf Try.f139)), .code (cp [1, 1, 1, 0, 1, 0, 0, 1, 1, 0, 0, 1, 1] (bodyOf Try.f139)), .blk 1, .code (cp [1, 1, 1, 0, 1, 0, 0, 1, 1, 1] (bodyOf Try.f139)), .lp (cp [1, 1, 1, 0, 1, 0] (bodyOf Try.f139)), .blk 0, .code (cp [1, 1, 1, 1] (bodyOf Try.f139))] (FinX Try.prog Try.f139 [] (bl r) []) ⟨[(1, .sl false 1 t1.length ((eInt).f t1)), (5, i64 t5), (6, i64 t6), (7, i64 t7), (8, i64 t8), (13, .sl false 1 t13.length ((eInt).f t13)), (14, i64 t14), (15, i64 t15), (27, bl t27)], []⟩ := by
  unfold Dimpl_weighs_0 at h
  refine x_frk 0 [] onil h (by kernel_rfl) (fun h => ?_) (fun h => ?_)
  · replace h := Option.some.inj h; subst h
    exact x_end 4 [] [] onil onil (by kernel_rfl)
  · obtain ⟨v4, hv4, h⟩ := bind_some h
    exact x_to 18 [(4, .val (.cptr (eInt.c v4 ++ (eInt).f ((t1).drop (Int.toNat t7 + 1)))))] (ocons (ix eInt hv4) onil) (hrec0 (w64 (t6 + (w64 (t8 * v4))), w64 (t15 + 1)) r h) (by kernel_rfl)
def Dimpl_weighs_1 (n : Nat) (t1 : List Int) (t5 : Int) (t13 : List Int) (t14 : Int) (rec0 : (Int × Int) → Option Bool) (a : (Int × Int)) : Option Bool :=
  match a with
  | (t6, t15) => frk (decide (t15 < t14)) ((lget t13 t15).bind fun v2 => frk (t5 == 0) (some false) ((Dimpl_sign v2).bind fun v3 => Dimpl_weighs_0 n rec0 t1 t5 t13 t14 t6 t15 v2 t15 (v3 != t5))) (some (decide ((w64 (t6 * t5)) ≤ 0)))
theorem Timpl_weighs_1 {Y} (n : Nat) (t1 : List Int) (t5 : Int) (t13 : List Int) (t14 : Int) : ∀ (m : Nat) (a : (Int × Int)) (r : Bool), loopN (Dimpl_weighs_1 n t1 t5 t13 t14) m a = some r → Wk Try.prog H Y 139 [.code (cp [1, 1, 1, 0, 1, 0] (bodyOf Try.f139)), .blk 0, .code (cp [1, 1, 1, 1] (bodyOf Try.f139))] (FinX Try.prog Try.f139 [] (bl r) []) ⟨[(1, .sl false 1 t1.length ((eInt).f t1)), (5, i64 t5), (6, i64 a.1), (13, .sl false 1 t13.length ((eInt).f t13)), (14, i64 t14), (15, i64 a.2)], []⟩ := by
  refine loopN_ind (fun rec0 hrec0 a r h => ?_)
  obtain ⟨t6, t15⟩ := a
  unfold Dimpl_weighs_1 at h
  refine x_frk 6 [] onil h (by kernel_rfl) (fun h => ?_) (fun h => ?_)
  · obtain ⟨v2, hv2, h⟩ := bind_some h
    refine x_frk 17 [(1, .val (.cptr (eInt.c v2 ++ (eInt).f ((t13).drop (Int.toNat t15 + 1)))))] (ocons (ix eInt hv2) onil) h (by kernel_rfl) (fun h => ?_) (fun h => ?_)
    · replace h := Option.some.inj h; subst h
      exact x_end 11 [] [] onil onil (by kernel_rfl)
    · obtain ⟨v3, hv3, h⟩ := bind_some h
      exact x_to 6 [(1, .call [] [] (i64 v3) [])] (ocons (Timpl_sign (Y := Y) v2 _ hv3) onil) (Timpl_weighs_0 n rec0 t1 t5 t13 t14 hrec0 t6 t15 v2 t15 (v3 != t5) r h) (by kernel_rfl)
  · replace h := Option.some.inj h; subst h
    exact x_end 9 [] [] onil onil (by kernel_rfl)
def Dimpl_weighs (n : Nat) (a0 : (List Int)) (a1 : (List Int)) : Option Bool :=
  (lget a0 0).bind fun v0 => (Dimpl_sign v0).bind fun v1 => loopN (Dimpl_weighs_1 n a1 v1 a0 (a0.length : Int)) n (0, 0)
theorem Timpl_weighs {Y} (n : Nat) (a0 : (List Int)) (a1 : (List Int)) (r : Bool) (h : Dimpl_weighs n a0 a1 = some r) : Big Try.prog H Y (.call 139 [.sl false 1 a0.length ((eInt).f a0), .sl false 1 a1.length ((eInt).f a1)] (lk []) (bl r) (lk [])) := by
  unfold Dimpl_weighs at h
  refine x_call (fn := Try.f139) (c := bodyOf Try.f139) (bs0 := []) Try.func139 (by kernel_rfl) (by kernel_rfl) ?_
  obtain ⟨v0, hv0, h⟩ := bind_some h
  obtain ⟨v1, hv1, h⟩ := bind_some h
  exact x_to 24 [(2, .val (.cptr (eInt.c v0 ++ (eInt).f ((a0).drop (Int.toNat 0 + 1))))), (1, .call [] [] (i64 v1) [])] (ocons (ix eInt hv0) (ocons (Timpl_sign (Y := Y) v0 _ hv1) onil)) (Timpl_weighs_1 n a1 v1 a0 (a0.length : Int) n (0, 0) r h) (by kernel_rfl)
/-! impl.clash3 -/
def Dimpl_clash3 (n : Nat) (a0 : Pl) (a1 : Pl) (a2 : Pl) : Option Bool :=
  (Dimpl_normal a0).bind fun v0 => (Dimpl_normal a1).bind fun v1 => (Dimpl_normal a2).bind fun v2 => (Dimpl_det v0 v1 v2).bind fun v3 => frk (v3 != 0) (some false) ((Dimpl_crossOf v0 v1).bind fun v4 => (Dimpl_crossOf v1 v2).bind fun v5 => (Dimpl_dot v5 v4).bind fun v6 => (Dimpl_crossOf v2 v0).bind fun v7 => (Dimpl_dot v7 v4).bind fun v8 => (Dimpl_dot v4 v4).bind fun v9 => (Dimpl_weighs n [v6, v8, v9] [a0.D, a1.D, a2.D]).bind fun v10 => some v10)
theorem Timpl_clash3 {Y} (n : Nat) (a0 : Pl) (a1 : Pl) (a2 : Pl) (r : Bool) (h : Dimpl_clash3 n a0 a1 a2 = some r) : Big Try.prog H Y (.call 113 [.agg [i64 a0.A, i64 a0.B, i64 a0.C, i64 a0.D], .agg [i64 a1.A, i64 a1.B, i64 a1.C, i64 a1.D], .agg [i64 a2.A, i64 a2.B, i64 a2.C, i64 a2.D]] (lk []) (bl r) (lk [])) := by
  unfold Dimpl_clash3 at h
  refine x_call (fn := Try.f113) (c := bodyOf Try.f113) (bs0 := []) Try.func113 (by kernel_rfl) (by kernel_rfl) ?_
  obtain ⟨v0, hv0, h⟩ := bind_some h
  obtain ⟨v1, hv1, h⟩ := bind_some h
  obtain ⟨v2, hv2, h⟩ := bind_some h
  obtain ⟨v3, hv3, h⟩ := bind_some h
  refine x_frk 31 [(5, .call [] [] (.agg [i64 v0.1, i64 v0.2.1, i64 v0.2.2]) []), (1, .call [] [] (.agg [i64 v1.1, i64 v1.2.1, i64 v1.2.2]) []), (1, .call [] [] (.agg [i64 v2.1, i64 v2.2.1, i64 v2.2.2]) []), (9, .call [] [] (i64 v3) [])] (ocons (Timpl_normal (Y := Y) a0 _ hv0) (ocons (Timpl_normal (Y := Y) a1 _ hv1) (ocons (Timpl_normal (Y := Y) a2 _ hv2) (ocons (Timpl_det (Y := Y) v0 v1 v2 _ hv3) onil)))) h (by kernel_rfl) (fun h => ?_) (fun h => ?_)
  · replace h := Option.some.inj h; subst h
    exact x_end 4 [] [] onil onil (by kernel_rfl)
  · obtain ⟨v4, hv4, h⟩ := bind_some h
    obtain ⟨v5, hv5, h⟩ := bind_some h
    obtain ⟨v6, hv6, h⟩ := bind_some h
    obtain ⟨v7, hv7, h⟩ := bind_some h
    obtain ⟨v8, hv8, h⟩ := bind_some h
    obtain ⟨v9, hv9, h⟩ := bind_some h
    obtain ⟨v10, hv10, h⟩ := bind_some h
    replace h := Option.some.inj h; subst h
    exact x_end 35 [(2, .call [] [] (.agg [i64 v4.1, i64 v4.2.1, i64 v4.2.2]) []), (4, .call [] [] (.agg [i64 v5.1, i64 v5.2.1, i64 v5.2.2]) []), (1, .call [] [] (i64 v6) []), (2, .call [] [] (.agg [i64 v7.1, i64 v7.2.1, i64 v7.2.2]) []), (1, .call [] [] (i64 v8) []), (2, .call [] [] (i64 v9) []), (8, .call [] [(eInt).f [a0.D, a1.D, a2.D], (eInt).f [v6, v8, v9]] (bl v10) [])] [] (ocons (Timpl_crossOf (Y := Y) v0 v1 _ hv4) (ocons (Timpl_crossOf (Y := Y) v1 v2 _ hv5) (ocons (Timpl_dot (Y := Y) v5 v4 _ hv6) (ocons (Timpl_crossOf (Y := Y) v2 v0 _ hv7) (ocons (Timpl_dot (Y := Y) v7 v4 _ hv8) (ocons (Timpl_dot (Y := Y) v4 v4 _ hv9) (ocons (Timpl_weighs (Y := Y) n [v6, v8, v9] [a0.D, a1.D, a2.D] _ hv10) (ocons (len_row (L := [v6, v8, v9]) eInt) (ocons (Enc.share eInt eInt sInt [v6, v8, v9]) (ocons (len_row (L := [a0.D, a1.D, a2.D]) eInt) (ocons (Enc.share eInt eInt sInt [a0.D, a1.D, a2.D]) onil))))))))))) onil (by kernel_rfl)
/-! impl.det3 -/
def Dimpl_det3 (a0 : Pl) (a1 : Pl) (a2 : Pl) : Option Int :=
  (Dimpl_normal a0).bind fun v0 => (Dimpl_normal a1).bind fun v1 => (Dimpl_normal a2).bind fun v2 => (Dimpl_det v0 v1 v2).bind fun v3 => some v3
theorem Timpl_det3 {Y} (a0 : Pl) (a1 : Pl) (a2 : Pl) (r : Int) (h : Dimpl_det3 a0 a1 a2 = some r) : Big Try.prog H Y (.call 105 [.agg [i64 a0.A, i64 a0.B, i64 a0.C, i64 a0.D], .agg [i64 a1.A, i64 a1.B, i64 a1.C, i64 a1.D], .agg [i64 a2.A, i64 a2.B, i64 a2.C, i64 a2.D]] (lk []) (i64 r) (lk [])) := by
  unfold Dimpl_det3 at h
  refine x_call (fn := Try.f105) (c := bodyOf Try.f105) (bs0 := []) Try.func105 (by kernel_rfl) (by kernel_rfl) ?_
  obtain ⟨v0, hv0, h⟩ := bind_some h
  obtain ⟨v1, hv1, h⟩ := bind_some h
  obtain ⟨v2, hv2, h⟩ := bind_some h
  obtain ⟨v3, hv3, h⟩ := bind_some h
  replace h := Option.some.inj h; subst h
  exact x_end 18 [(5, .call [] [] (.agg [i64 v0.1, i64 v0.2.1, i64 v0.2.2]) []), (1, .call [] [] (.agg [i64 v1.1, i64 v1.2.1, i64 v1.2.2]) []), (1, .call [] [] (.agg [i64 v2.1, i64 v2.2.1, i64 v2.2.2]) []), (0, .call [] [] (i64 v3) [])] [] (ocons (Timpl_normal (Y := Y) a0 _ hv0) (ocons (Timpl_normal (Y := Y) a1 _ hv1) (ocons (Timpl_normal (Y := Y) a2 _ hv2) (ocons (Timpl_det (Y := Y) v0 v1 v2 _ hv3) onil)))) onil (by kernel_rfl)
/-! impl.clash4 -/
def Dimpl_clash4 (n : Nat) (a0 : Pl) (a1 : Pl) (a2 : Pl) (a3 : Pl) : Option Bool :=
  (Dimpl_det3 a1 a2 a3).bind fun v0 => (Dimpl_det3 a0 a2 a3).bind fun v1 => (Dimpl_det3 a0 a1 a3).bind fun v2 => (Dimpl_det3 a0 a1 a2).bind fun v3 => (Dimpl_weighs n [v0, w64 (0 - v1), v2, w64 (0 - v3)] [a0.D, a1.D, a2.D, a3.D]).bind fun v4 => some v4
theorem Timpl_clash4 {Y} (n : Nat) (a0 : Pl) (a1 : Pl) (a2 : Pl) (a3 : Pl) (r : Bool) (h : Dimpl_clash4 n a0 a1 a2 a3 = some r) : Big Try.prog H Y (.call 114 [.agg [i64 a0.A, i64 a0.B, i64 a0.C, i64 a0.D], .agg [i64 a1.A, i64 a1.B, i64 a1.C, i64 a1.D], .agg [i64 a2.A, i64 a2.B, i64 a2.C, i64 a2.D], .agg [i64 a3.A, i64 a3.B, i64 a3.C, i64 a3.D]] (lk []) (bl r) (lk [])) := by
  unfold Dimpl_clash4 at h
  refine x_call (fn := Try.f114) (c := bodyOf Try.f114) (bs0 := []) Try.func114 (by kernel_rfl) (by kernel_rfl) ?_
  obtain ⟨v0, hv0, h⟩ := bind_some h
  obtain ⟨v1, hv1, h⟩ := bind_some h
  obtain ⟨v2, hv2, h⟩ := bind_some h
  obtain ⟨v3, hv3, h⟩ := bind_some h
  obtain ⟨v4, hv4, h⟩ := bind_some h
  replace h := Option.some.inj h; subst h
  exact x_end 46 [(8, .call [] [] (i64 v0) []), (3, .call [] [] (i64 v1) []), (4, .call [] [] (i64 v2) []), (3, .call [] [] (i64 v3) []), (13, .call [] [(eInt).f [a0.D, a1.D, a2.D, a3.D], (eInt).f [v0, w64 (0 - v1), v2, w64 (0 - v3)]] (bl v4) [])] [] (ocons (Timpl_det3 (Y := Y) a1 a2 a3 _ hv0) (ocons (Timpl_det3 (Y := Y) a0 a2 a3 _ hv1) (ocons (Timpl_det3 (Y := Y) a0 a1 a3 _ hv2) (ocons (Timpl_det3 (Y := Y) a0 a1 a2 _ hv3) (ocons (Timpl_weighs (Y := Y) n [v0, w64 (0 - v1), v2, w64 (0 - v3)] [a0.D, a1.D, a2.D, a3.D] _ hv4) (ocons (len_row (L := [v0, w64 (0 - v1), v2, w64 (0 - v3)]) eInt) (ocons (Enc.share eInt eInt sInt [v0, w64 (0 - v1), v2, w64 (0 - v3)]) (ocons (len_row (L := [a0.D, a1.D, a2.D, a3.D]) eInt) (ocons (Enc.share eInt eInt sInt [a0.D, a1.D, a2.D, a3.D]) onil))))))))) onil (by kernel_rfl)
/-! impl.room -/
def Dimpl_room_0 (n : Nat) (rec1 : Int → Option Bool) (_rec0 : Int → Option Bool) (_t13 : Int) (_t23 : List Pl) (_t24 b6_0 b6_1 b6_2 b6_3 : Int) (_t0 : List Pl) (_t11 : List Pl) (_t12 b3_0 b3_1 b3_2 b3_3 t25 : Int) (t36 : List Pl) (t37 b8_0 b8_1 b8_2 b8_3 : Int) (rec2 : Int → Option Bool) (a : Int) : Option Bool :=
  match a with
  | t38 => frk (decide (t38 < t37)) ((lget t36 t38).bind fun v6 => (Dimpl_clash4 n v6 (Pl.mk b8_0 b8_1 b8_2 b8_3) (Pl.mk b6_0 b6_1 b6_2 b6_3) (Pl.mk b3_0 b3_1 b3_2 b3_3)).bind fun v7 => frk v7 (some false) (rec2 (w64 (t38 + 1)))) (rec1 (w64 (t25 + 1)))
theorem Timpl_room_0 {Y} (n : Nat) (rec1 : Int → Option Bool) (rec0 : Int → Option Bool) (t13 : Int) (t23 : List Pl) (t24 b6_0 b6_1 b6_2 b6_3 : Int) (t0 : List Pl) (t11 : List Pl) (t12 b3_0 b3_1 b3_2 b3_3 : Int) (hrec1 : ∀ (a : Int) (r : Bool), rec1 a = some r → Wk Try.prog H Y 87 [.code (cp [1, 0, 1, 0, 0, 1, 1, 0, 0, 1, 1, 1, 0] (bodyOf Try.f87)), .blk 2, .blk 1, .code (cp [1, 0, 1, 0, 0, 1, 1, 1] (bodyOf Try.f87)), .lp (cp [1, 0, 1, 0] (bodyOf Try.f87)), .blk 0, .code (cp [1, 1] (bodyOf Try.f87))] (FinX Try.prog Try.f87 [] (bl r) []) ⟨[(0, .sl false 4 t0.length ((ePl).f t0)), (3, .ptr 3 0), (6, .ptr 6 0), (11, .sl false 4 t11.length ((ePl).f t11)), (12, i64 t12), (13, i64 t13), (23, .sl false 4 t23.length ((ePl).f t23)), (24, i64 t24), (25, i64 a)], [(3, ⟨true, 0, [i64 b3_0, i64 b3_1, i64 b3_2, i64 b3_3]⟩), (6, ⟨true, 0, [i64 b6_0, i64 b6_1, i64 b6_2, i64 b6_3]⟩)]⟩) (_hrec0 : ∀ (a : Int) (r : Bool), rec0 a = some r → Wk Try.prog H Y 87 [.code (cp [1, 0, 1, 0] (bodyOf Try.f87)), .blk 0, .code (cp [1, 1] (bodyOf Try.f87))] (FinX Try.prog Try.f87 [] (bl r) []) ⟨[(0, .sl false 4 t0.length ((ePl).f t0)), (3, .ptr 3 0), (11, .sl false 4 t11.length ((ePl).f t11)), (12, i64 t12), (13, i64 a)], [(3, ⟨true, 0, [i64 b3_0, i64 b3_1, i64 b3_2, i64 b3_3]⟩)]⟩) (t25 : Int) (t36 : List Pl) (t37 b8_0 b8_1 b8_2 b8_3 : Int) : ∀ (m : Nat) (a : Int) (r : Bool), loopN (Dimpl_room_0 n rec1 rec0 t13 t23 t24 b6_0 b6_1 b6_2 b6_3 t0 t11 t12 b3_0 b3_1 b3_2 b3_3 t25 t36 t37 b8_0 b8_1 b8_2 b8_3) m a = some r → Wk Try.prog H Y 87 [.code (cp [1, 0, 1, 0, 0, 1, 1, 0, 0, 1, 1, 1, 0, 0, 1, 1, 0, 0, 1, 1, 1, 0] (bodyOf Try.f87)), .blk 4, .blk 3, .code (cp [1, 0, 1, 0, 0, 1, 1, 0, 0, 1, 1, 1, 0, 0, 1, 1, 1] (bodyOf Try.f87)), .lp (cp [1, 0, 1, 0, 0, 1, 1, 0, 0, 1, 1, 1, 0] (bodyOf Try.f87)), .blk 2, .blk 1, .code (cp [1, 0, 1, 0, 0, 1, 1, 1] (bodyOf Try.f87)), .lp (cp [1, 0, 1, 0] (bodyOf Try.f87)), .blk 0, .code (cp [1, 1] (bodyOf Try.f87))] (FinX Try.prog Try.f87 [] (bl r) []) ⟨[(0, .sl false 4 t0.length ((ePl).f t0)), (3, .ptr 3 0), (6, .ptr 6 0), (8, .ptr 8 0), (11, .sl false 4 t11.length ((ePl).f t11)), (12, i64 t12), (13, i64 t13), (23, .sl false 4 t23.length ((ePl).f t23)), (24, i64 t24), (25, i64 t25), (36, .sl false 4 t36.length ((ePl).f t36)), (37, i64 t37), (38, i64 a)], [(3, ⟨true, 0, [i64 b3_0, i64 b3_1, i64 b3_2, i64 b3_3]⟩), (6, ⟨true, 0, [i64 b6_0, i64 b6_1, i64 b6_2, i64 b6_3]⟩), (8, ⟨true, 0, [i64 b8_0, i64 b8_1, i64 b8_2, i64 b8_3]⟩)]⟩ := by
  refine loopN_ind (fun _rec2 hrec2 a r h => ?_)
  obtain ⟨t38, rfl⟩ : ∃ x, x = a := ⟨a, rfl⟩
  unfold Dimpl_room_0 at h
  refine x_frk 6 [] onil h (by kernel_rfl) (fun h => ?_) (fun h => ?_)
  · obtain ⟨v6, hv6, h⟩ := bind_some h
    obtain ⟨v7, hv7, h⟩ := bind_some h
    refine x_frk 18 [(0, .val (.cptr (ePl.c v6 ++ (ePl).f ((t36).drop (Int.toNat t38 + 1))))), (7, .call [] [] (bl v7) [])] (ocons (ix ePl hv6) (ocons (Timpl_clash4 (Y := Y) n v6 (Pl.mk b8_0 b8_1 b8_2 b8_3) (Pl.mk b6_0 b6_1 b6_2 b6_3) (Pl.mk b3_0 b3_1 b3_2 b3_3) _ hv7) onil)) h (by kernel_rfl) (fun h => ?_) (fun h => ?_)
    · replace h := Option.some.inj h; subst h
      exact x_end 4 [] [] onil onil (by kernel_rfl)
    · exact x_to 7 [] onil (hrec2 (w64 (t38 + 1)) r h) (by kernel_rfl)
  · exact x_to 7 [] onil (hrec1 (w64 (t25 + 1)) r h) (by kernel_rfl)
def Dimpl_room_1 (n : Nat) (rec0 : Int → Option Bool) (t0 : List Pl) (t11 : List Pl) (t12 b3_0 b3_1 b3_2 b3_3 t13 : Int) (t23 : List Pl) (t24 b6_0 b6_1 b6_2 b6_3 : Int) (rec1 : Int → Option Bool) (a : Int) : Option Bool :=
  match a with
  | t25 => frk (decide (t25 < t24)) ((lget t23 t25).bind fun v3 => (Dimpl_clash3 n v3 (Pl.mk b6_0 b6_1 b6_2 b6_3) (Pl.mk b3_0 b3_1 b3_2 b3_3)).bind fun v4 => frk v4 (some false) ((lsl t0 0 t25).bind fun v5 => loopN (Dimpl_room_0 n rec1 rec0 t13 t23 t24 b6_0 b6_1 b6_2 b6_3 t0 t11 t12 b3_0 b3_1 b3_2 b3_3 t25 v5 (v5.length : Int) v3.A v3.B v3.C v3.D) n 0)) (rec0 (w64 (t13 + 1)))
theorem Timpl_room_1 {Y} (n : Nat) (rec0 : Int → Option Bool) (t0 : List Pl) (t11 : List Pl) (t12 b3_0 b3_1 b3_2 b3_3 : Int) (hrec0 : ∀ (a : Int) (r : Bool), rec0 a = some r → Wk Try.prog H Y 87 [.code (cp [1, 0, 1, 0] (bodyOf Try.f87)), .blk 0, .code (cp [1, 1] (bodyOf Try.f87))] (FinX Try.prog Try.f87 [] (bl r) []) ⟨[(0, .sl false 4 t0.length ((ePl).f t0)), (3, .ptr 3 0), (11, .sl false 4 t11.length ((ePl).f t11)), (12, i64 t12), (13, i64 a)], [(3, ⟨true, 0, [i64 b3_0, i64 b3_1, i64 b3_2, i64 b3_3]⟩)]⟩) (t13 : Int) (t23 : List Pl) (t24 b6_0 b6_1 b6_2 b6_3 : Int) : ∀ (m : Nat) (a : Int) (r : Bool), loopN (Dimpl_room_1 n rec0 t0 t11 t12 b3_0 b3_1 b3_2 b3_3 t13 t23 t24 b6_0 b6_1 b6_2 b6_3) m a = some r → Wk Try.prog H Y 87 [.code (cp [1, 0, 1, 0, 0, 1, 1, 0, 0, 1, 1, 1, 0] (bodyOf Try.f87)), .blk 2, .blk 1, .code (cp [1, 0, 1, 0, 0, 1, 1, 1] (bodyOf Try.f87)), .lp (cp [1, 0, 1, 0] (bodyOf Try.f87)), .blk 0, .code (cp [1, 1] (bodyOf Try.f87))] (FinX Try.prog Try.f87 [] (bl r) []) ⟨[(0, .sl false 4 t0.length ((ePl).f t0)), (3, .ptr 3 0), (6, .ptr 6 0), (11, .sl false 4 t11.length ((ePl).f t11)), (12, i64 t12), (13, i64 t13), (23, .sl false 4 t23.length ((ePl).f t23)), (24, i64 t24), (25, i64 a)], [(3, ⟨true, 0, [i64 b3_0, i64 b3_1, i64 b3_2, i64 b3_3]⟩), (6, ⟨true, 0, [i64 b6_0, i64 b6_1, i64 b6_2, i64 b6_3]⟩)]⟩ := by
  refine loopN_ind (fun rec1 hrec1 a r h => ?_)
  obtain ⟨t25, rfl⟩ : ∃ x, x = a := ⟨a, rfl⟩
  unfold Dimpl_room_1 at h
  refine x_frk 6 [] onil h (by kernel_rfl) (fun h => ?_) (fun h => ?_)
  · obtain ⟨v3, hv3, h⟩ := bind_some h
    obtain ⟨v4, hv4, h⟩ := bind_some h
    refine x_frk 20 [(1, .val (.cptr (ePl.c v3 ++ (ePl).f ((t23).drop (Int.toNat t25 + 1))))), (7, .call [] [] (bl v4) [])] (ocons (ix ePl hv3) (ocons (Timpl_clash3 (Y := Y) n v3 (Pl.mk b6_0 b6_1 b6_2 b6_3) (Pl.mk b3_0 b3_1 b3_2 b3_3) _ hv4) onil)) h (by kernel_rfl) (fun h => ?_) (fun h => ?_)
    · replace h := Option.some.inj h; subst h
      exact x_end 4 [] [] onil onil (by kernel_rfl)
    · obtain ⟨v5, hv5, h⟩ := bind_some h
      exact x_to 10 [(2, .val (.sl false 4 v5.length ((ePl).f v5)))] (ocons (slF ePl hv5) onil) (Timpl_room_0 n rec1 rec0 t13 t23 t24 b6_0 b6_1 b6_2 b6_3 t0 t11 t12 b3_0 b3_1 b3_2 b3_3 hrec1 hrec0 t25 v5 (v5.length : Int) v3.A v3.B v3.C v3.D n 0 r h) (by kernel_rfl)
  · exact x_to 7 [] onil (hrec0 (w64 (t13 + 1)) r h) (by kernel_rfl)
def Dimpl_room_2 (n : Nat) (t0 : List Pl) (t11 : List Pl) (t12 b3_0 b3_1 b3_2 b3_3 : Int) (rec0 : Int → Option Bool) (a : Int) : Option Bool :=
  match a with
  | t13 => frk (decide (t13 < t12)) ((lget t11 t13).bind fun v0 => (Dimpl_clash2 n v0 (Pl.mk b3_0 b3_1 b3_2 b3_3)).bind fun v1 => frk v1 (some false) ((lsl t0 0 t13).bind fun v2 => loopN (Dimpl_room_1 n rec0 t0 t11 t12 b3_0 b3_1 b3_2 b3_3 t13 v2 (v2.length : Int) v0.A v0.B v0.C v0.D) n 0)) (some true)
theorem Timpl_room_2 {Y} (n : Nat) (t0 : List Pl) (t11 : List Pl) (t12 b3_0 b3_1 b3_2 b3_3 : Int) : ∀ (m : Nat) (a : Int) (r : Bool), loopN (Dimpl_room_2 n t0 t11 t12 b3_0 b3_1 b3_2 b3_3) m a = some r → Wk Try.prog H Y 87 [.code (cp [1, 0, 1, 0] (bodyOf Try.f87)), .blk 0, .code (cp [1, 1] (bodyOf Try.f87))] (FinX Try.prog Try.f87 [] (bl r) []) ⟨[(0, .sl false 4 t0.length ((ePl).f t0)), (3, .ptr 3 0), (11, .sl false 4 t11.length ((ePl).f t11)), (12, i64 t12), (13, i64 a)], [(3, ⟨true, 0, [i64 b3_0, i64 b3_1, i64 b3_2, i64 b3_3]⟩)]⟩ := by
  refine loopN_ind (fun rec0 hrec0 a r h => ?_)
  obtain ⟨t13, rfl⟩ : ∃ x, x = a := ⟨a, rfl⟩
  unfold Dimpl_room_2 at h
  refine x_frk 6 [] onil h (by kernel_rfl) (fun h => ?_) (fun h => ?_)
  · obtain ⟨v0, hv0, h⟩ := bind_some h
    obtain ⟨v1, hv1, h⟩ := bind_some h
    refine x_frk 19 [(1, .val (.cptr (ePl.c v0 ++ (ePl).f ((t11).drop (Int.toNat t13 + 1))))), (6, .call [] [] (bl v1) [])] (ocons (ix ePl hv0) (ocons (Timpl_clash2 (Y := Y) n v0 (Pl.mk b3_0 b3_1 b3_2 b3_3) _ hv1) onil)) h (by kernel_rfl) (fun h => ?_) (fun h => ?_)
    · replace h := Option.some.inj h; subst h
      exact x_end 4 [] [] onil onil (by kernel_rfl)
    · obtain ⟨v2, hv2, h⟩ := bind_some h
      exact x_to 10 [(2, .val (.sl false 4 v2.length ((ePl).f v2)))] (ocons (slF ePl hv2) onil) (Timpl_room_1 n rec0 t0 t11 t12 b3_0 b3_1 b3_2 b3_3 hrec0 t13 v2 (v2.length : Int) v0.A v0.B v0.C v0.D n 0 r h) (by kernel_rfl)
  · replace h := Option.some.inj h; subst h
    exact x_end 5 [] [] onil onil (by kernel_rfl)
def Dimpl_room (n : Nat) (a0 : (List Pl)) (a1 : Pl) : Option Bool :=
  loopN (Dimpl_room_2 n a0 a0 (a0.length : Int) a1.A a1.B a1.C a1.D) n 0
theorem Timpl_room {Y} (n : Nat) (a0 : (List Pl)) (a1 : Pl) (r : Bool) (h : Dimpl_room n a0 a1 = some r) : Big Try.prog H Y (.call 87 [.sl false 4 a0.length ((ePl).f a0), .agg [i64 a1.A, i64 a1.B, i64 a1.C, i64 a1.D]] (lk []) (bl r) (lk [])) := by
  unfold Dimpl_room at h
  refine x_call (fn := Try.f87) (c := bodyOf Try.f87) (bs0 := []) Try.func87 (by kernel_rfl) (by kernel_rfl) ?_
  exact x_to 13 [] onil (Timpl_room_2 n a0 a0 (a0.length : Int) a1.A a1.B a1.C a1.D n 0 r h) (by kernel_rfl)
/-! impl.open -/
def Dimpl_open_0 (n : Nat) (t0 : List Pl) (t5 : List Pl) (t6 : Int) (rec0 : Int → Option Bool) (a : Int) : Option Bool :=
  match a with
  | t7 => frk (decide (t7 < t6)) ((lget t5 t7).bind fun v0 => (lsl t0 0 t7).bind fun v1 => (Dimpl_room n v1 v0).bind fun v2 => frk (!v2) (some false) (rec0 (w64 (t7 + 1)))) (some true)
theorem Timpl_open_0 {Y} (n : Nat) (t0 : List Pl) (t5 : List Pl) (t6 : Int) : ∀ (m : Nat) (a : Int) (r : Bool), loopN (Dimpl_open_0 n t0 t5 t6) m a = some r → Wk Try.prog H Y 79 [.code (cp [1, 0, 1, 0] (bodyOf Try.f79)), .blk 0, .code (cp [1, 1] (bodyOf Try.f79))] (FinX Try.prog Try.f79 [] (bl r) []) ⟨[(0, .sl false 4 t0.length ((ePl).f t0)), (5, .sl false 4 t5.length ((ePl).f t5)), (6, i64 t6), (7, i64 a)], []⟩ := by
  refine loopN_ind (fun _rec0 hrec0 a r h => ?_)
  obtain ⟨t7, rfl⟩ : ∃ x, x = a := ⟨a, rfl⟩
  unfold Dimpl_open_0 at h
  refine x_frk 6 [] onil h (by kernel_rfl) (fun h => ?_) (fun h => ?_)
  · obtain ⟨v0, hv0, h⟩ := bind_some h
    obtain ⟨v1, hv1, h⟩ := bind_some h
    obtain ⟨v2, hv2, h⟩ := bind_some h
    refine x_frk 21 [(1, .val (.cptr (ePl.c v0 ++ (ePl).f ((t5).drop (Int.toNat t7 + 1))))), (6, .val (.sl false 4 v1.length ((ePl).f v1))), (1, .call [] [] (bl v2) [])] (ocons (ix ePl hv0) (ocons (slF ePl hv1) (ocons (Timpl_room (Y := Y) n v1 v0 _ hv2) onil))) h (by kernel_rfl) (fun h => ?_) (fun h => ?_)
    · replace h := Option.some.inj h; subst h
      exact x_end 4 [] [] onil onil (by kernel_rfl)
    · exact x_to 7 [] onil (hrec0 (w64 (t7 + 1)) r h) (by kernel_rfl)
  · replace h := Option.some.inj h; subst h
    exact x_end 5 [] [] onil onil (by kernel_rfl)
def Dimpl_open (n : Nat) (a0 : (List Pl)) : Option Bool :=
  loopN (Dimpl_open_0 n a0 a0 (a0.length : Int)) n 0
theorem Timpl_open {Y} (n : Nat) (a0 : (List Pl)) (r : Bool) (h : Dimpl_open n a0 = some r) : Big Try.prog H Y (.call 79 [.sl false 4 a0.length ((ePl).f a0)] (lk []) (bl r) (lk [])) := by
  unfold Dimpl_open at h
  refine x_call (fn := Try.f79) (c := bodyOf Try.f79) (bs0 := []) Try.func79 (by kernel_rfl) (by kernel_rfl) ?_
  exact x_to 12 [] onil (Timpl_open_0 n a0 a0 (a0.length : Int) n 0 r h) (by kernel_rfl)
/-! impl.Open -/
def Dimpl_Open (n : Nat) (a0 : (List Pl)) : Option Bool :=
  frk (decide ((a0.length : Int) ≤ 24)) ((Dimpl_planesOk n a0).bind fun v0 => frk v0 ((Dimpl_open n a0).bind fun v1 => some v1) (some false)) (some false)
theorem Timpl_Open {Y} (n : Nat) (a0 : (List Pl)) (r : Bool) (h : Dimpl_Open n a0 = some r) : Big Try.prog H Y (.call 42 [.sl false 4 a0.length ((ePl).f a0)] (lk []) (bl r) (lk [])) := by
  unfold Dimpl_Open at h
  refine x_call (fn := Try.f42) (c := bodyOf Try.f42) (bs0 := []) Try.func42 (by kernel_rfl) (by kernel_rfl) ?_
  refine x_frk 10 [] onil h (by kernel_rfl) (fun h => ?_) (fun h => ?_)
  · obtain ⟨v0, hv0, h⟩ := bind_some h
    refine x_frk 4 [(1, .call [] [] (bl v0) [])] (ocons (Timpl_planesOk (Y := Y) n a0 _ hv0) onil) h (by kernel_rfl) (fun h => ?_) (fun h => ?_)
    · obtain ⟨v1, hv1, h⟩ := bind_some h
      replace h := Option.some.inj h; subst h
      exact x_end 5 [(1, .call [] [] (bl v1) [])] [] (ocons (Timpl_open (Y := Y) n a0 _ hv1) onil) onil (by kernel_rfl)
    · replace h := Option.some.inj h; subst h
      exact x_end 5 [] [] onil onil (by kernel_rfl)
  · replace h := Option.some.inj h; subst h
    exact x_end 9 [] [] onil onil (by kernel_rfl)
/-! impl.meet3 -/
def Dimpl_meet3_0 (_n : Nat) (t8 t9 t10 t11 t12 _b6_0 _b6_1 _b6_2 _b6_3 : Int) : Option (Spot × Bool) :=
  (qt .i64 t9 t12).bind fun v5 => (qt .i64 t10 t12).bind fun v6 => (qt .i64 t11 t12).bind fun v7 => (qt .i64 t8 t12).bind fun v8 => some ((Spot.mk v5 v6 v7 v8), true)
theorem Timpl_meet3_0 {Y} (n : Nat) (t8 t9 t10 t11 t12 b6_0 b6_1 b6_2 b6_3 : Int) (r : (Spot × Bool)) (h : Dimpl_meet3_0 n t8 t9 t10 t11 t12 b6_0 b6_1 b6_2 b6_3 = some r) : Wk Try.prog H Y 80 [.code (cp [1, 1, 1, 1, 1, 1, 1, 1, 0] (bodyOf Try.f80)), .code (cp [1, 1, 1, 1, 1, 1, 1, 1, 1] (bodyOf Try.f80))] (FinX Try.prog Try.f80 [] (.tup [.agg [i64 r.1.X, i64 r.1.Y, i64 r.1.Z, i64 r.1.W], bl r.2]) []) ⟨[(6, .ptr 6 0), (8, i64 t8), (9, i64 t9), (10, i64 t10), (11, i64 t11), (12, i64 t12)], [(6, ⟨true, 0, [i64 b6_0, i64 b6_1, i64 b6_2, i64 b6_3]⟩)]⟩ := by
  unfold Dimpl_meet3_0 at h
  obtain ⟨v5, hv5, h⟩ := bind_some h
  obtain ⟨v6, hv6, h⟩ := bind_some h
  obtain ⟨v7, hv7, h⟩ := bind_some h
  obtain ⟨v8, hv8, h⟩ := bind_some h
  replace h := Option.some.inj h; subst h
  exact x_end 17 [(2, .val (i64 v5)), (2, .val (i64 v6)), (2, .val (i64 v7)), (2, .val (i64 v8))] [] (ocons (qtOk hv5) (ocons (qtOk hv6) (ocons (qtOk hv7) (ocons (qtOk hv8) onil)))) onil (by kernel_rfl)
def Dimpl_meet3 (n : Nat) (a0 : Pl) (a1 : Pl) (a2 : Pl) : Option (Spot × Bool) :=
  (Dimpl_det3 a0 a1 a2).bind fun v0 => frk (v0 == 0) (some ((Spot.mk 0 0 0 0), false)) ((Dimpl_det (w64 (0 - a0.D), a0.B, a0.C) (w64 (0 - a1.D), a1.B, a1.C) (w64 (0 - a2.D), a2.B, a2.C)).bind fun v1 => (Dimpl_det (a0.A, w64 (0 - a0.D), a0.C) (a1.A, w64 (0 - a1.D), a1.C) (a2.A, w64 (0 - a2.D), a2.C)).bind fun v2 => (Dimpl_det (a0.A, a0.B, w64 (0 - a0.D)) (a1.A, a1.B, w64 (0 - a1.D)) (a2.A, a2.B, w64 (0 - a2.D))).bind fun v3 => (Dimpl_divisor n [v1, v2, v3, v0]).bind fun v4 => frk (decide (v0 < 0)) (Dimpl_meet3_0 n v0 v1 v2 v3 (w64 (0 - v4)) 0 0 0 0) (Dimpl_meet3_0 n v0 v1 v2 v3 v4 0 0 0 0))
theorem Timpl_meet3 {Y} (n : Nat) (a0 : Pl) (a1 : Pl) (a2 : Pl) (r : (Spot × Bool)) (h : Dimpl_meet3 n a0 a1 a2 = some r) : Big Try.prog H Y (.call 80 [.agg [i64 a0.A, i64 a0.B, i64 a0.C, i64 a0.D], .agg [i64 a1.A, i64 a1.B, i64 a1.C, i64 a1.D], .agg [i64 a2.A, i64 a2.B, i64 a2.C, i64 a2.D]] (lk []) (.tup [.agg [i64 r.1.X, i64 r.1.Y, i64 r.1.Z, i64 r.1.W], bl r.2]) (lk [])) := by
  unfold Dimpl_meet3 at h
  refine x_call (fn := Try.f80) (c := bodyOf Try.f80) (bs0 := []) Try.func80 (by kernel_rfl) (by kernel_rfl) ?_
  obtain ⟨v0, hv0, h⟩ := bind_some h
  refine x_frk 22 [(8, .call [] [] (i64 v0) [])] (ocons (Timpl_det3 (Y := Y) a0 a1 a2 _ hv0) onil) h (by kernel_rfl) (fun h => ?_) (fun h => ?_)
  · replace h := Option.some.inj h; subst h
    exact x_end 6 [] [] onil onil (by kernel_rfl)
  · obtain ⟨v1, hv1, h⟩ := bind_some h
    obtain ⟨v2, hv2, h⟩ := bind_some h
    obtain ⟨v3, hv3, h⟩ := bind_some h
    obtain ⟨v4, hv4, h⟩ := bind_some h
    refine x_frk 104 [(24, .call [] [] (i64 v1) []), (25, .call [] [] (i64 v2) []), (25, .call [] [] (i64 v3) []), (6, .call [] [(eInt).f [v1, v2, v3, v0]] (i64 v4) [])] (ocons (Timpl_det (Y := Y) (w64 (0 - a0.D), a0.B, a0.C) (w64 (0 - a1.D), a1.B, a1.C) (w64 (0 - a2.D), a2.B, a2.C) _ hv1) (ocons (Timpl_det (Y := Y) (a0.A, w64 (0 - a0.D), a0.C) (a1.A, w64 (0 - a1.D), a1.C) (a2.A, w64 (0 - a2.D), a2.C) _ hv2) (ocons (Timpl_det (Y := Y) (a0.A, a0.B, w64 (0 - a0.D)) (a1.A, a1.B, w64 (0 - a1.D)) (a2.A, a2.B, w64 (0 - a2.D)) _ hv3) (ocons (Timpl_divisor (Y := Y) n [v1, v2, v3, v0] _ hv4) (ocons (len_row (L := [v1, v2, v3, v0]) eInt) (ocons (Enc.share eInt eInt sInt [v1, v2, v3, v0]) onil)))))) h (by kernel_rfl) (fun h => ?_) (fun h => ?_)
    · exact x_to 6 [] onil (Timpl_meet3_0 n v0 v1 v2 v3 (w64 (0 - v4)) 0 0 0 0 r h) (by kernel_rfl)
    · exact x_to 2 [] onil (Timpl_meet3_0 n v0 v1 v2 v3 v4 0 0 0 0 r h) (by kernel_rfl)
/-! impl.sideAt -/
def Dimpl_sideAt (a0 : Pl) (a1 : Spot) : Option Int :=
  (Dimpl_sign (w64 ((w64 ((w64 ((w64 (a0.A * a1.X)) + (w64 (a0.B * a1.Y)))) + (w64 (a0.C * a1.Z)))) + (w64 (a0.D * a1.W))))).bind fun v0 => some v0
theorem Timpl_sideAt {Y} (a0 : Pl) (a1 : Spot) (r : Int) (h : Dimpl_sideAt a0 a1 = some r) : Big Try.prog H Y (.call 45 [.agg [i64 a0.A, i64 a0.B, i64 a0.C, i64 a0.D], .agg [i64 a1.X, i64 a1.Y, i64 a1.Z, i64 a1.W]] (lk []) (i64 r) (lk [])) := by
  unfold Dimpl_sideAt at h
  refine x_call (fn := Try.f45) (c := bodyOf Try.f45) (bs0 := []) Try.func45 (by kernel_rfl) (by kernel_rfl) ?_
  obtain ⟨v0, hv0, h⟩ := bind_some h
  replace h := Option.some.inj h; subst h
  exact x_end 34 [(26, .call [] [] (i64 v0) [])] [] (ocons (Timpl_sign (Y := Y) (w64 ((w64 ((w64 ((w64 (a0.A * a1.X)) + (w64 (a0.B * a1.Y)))) + (w64 (a0.C * a1.Z)))) + (w64 (a0.D * a1.W)))) _ hv0) onil) onil (by kernel_rfl)
/-! impl.inCell -/
def Dimpl_inCell_0 (_n : Nat) (t8 : List Pl) (t9 b3_0 b3_1 b3_2 b3_3 : Int) (rec0 : (Int × Int) → Option Int) (a : (Int × Int)) : Option Int :=
  match a with
  | (t5, t10) => frk (decide (t10 < t9)) ((lget t8 t10).bind fun v0 => (Dimpl_sideAt v0 (Spot.mk b3_0 b3_1 b3_2 b3_3)).bind fun v1 => rec0 (minN t5 [v1], w64 (t10 + 1))) (some t5)
theorem Timpl_inCell_0 {Y} (n : Nat) (t8 : List Pl) (t9 b3_0 b3_1 b3_2 b3_3 : Int) : ∀ (m : Nat) (a : (Int × Int)) (r : Int), loopN (Dimpl_inCell_0 n t8 t9 b3_0 b3_1 b3_2 b3_3) m a = some r → Wk Try.prog H Y 81 [.code (cp [1, 1, 0, 1, 0] (bodyOf Try.f81)), .blk 0, .code (cp [1, 1, 1] (bodyOf Try.f81))] (FinX Try.prog Try.f81 [] (i64 r) []) ⟨[(3, .ptr 3 0), (5, i64 a.1), (8, .sl false 4 t8.length ((ePl).f t8)), (9, i64 t9), (10, i64 a.2)], [(3, ⟨true, 0, [i64 b3_0, i64 b3_1, i64 b3_2, i64 b3_3]⟩)]⟩ := by
  refine loopN_ind (fun _rec0 hrec0 a r h => ?_)
  obtain ⟨t5, t10⟩ := a
  unfold Dimpl_inCell_0 at h
  refine x_frk 6 [] onil h (by kernel_rfl) (fun h => ?_) (fun h => ?_)
  · obtain ⟨v0, hv0, h⟩ := bind_some h
    obtain ⟨v1, hv1, h⟩ := bind_some h
    exact x_to 24 [(0, .val (.cptr (ePl.c v0 ++ (ePl).f ((t8).drop (Int.toNat t10 + 1))))), (6, .call [] [] (i64 v1) []), (0, .val (.lit (.int .i64 (minN t5 [v1]))))] (ocons (ix ePl hv0) (ocons (Timpl_sideAt (Y := Y) v0 (Spot.mk b3_0 b3_1 b3_2 b3_3) _ hv1) (ocons (minNok .i64 [v1] t5) onil))) (hrec0 (minN t5 [v1], w64 (t10 + 1)) r h) (by kernel_rfl)
  · replace h := Option.some.inj h; subst h
    exact x_end 6 [] [] onil onil (by kernel_rfl)
def Dimpl_inCell (n : Nat) (a0 : (List Pl)) (a1 : Spot) : Option Int :=
  loopN (Dimpl_inCell_0 n a0 (a0.length : Int) a1.X a1.Y a1.Z a1.W) n (1, 0)
theorem Timpl_inCell {Y} (n : Nat) (a0 : (List Pl)) (a1 : Spot) (r : Int) (h : Dimpl_inCell n a0 a1 = some r) : Big Try.prog H Y (.call 81 [.sl false 4 a0.length ((ePl).f a0), .agg [i64 a1.X, i64 a1.Y, i64 a1.Z, i64 a1.W]] (lk []) (i64 r) (lk [])) := by
  unfold Dimpl_inCell at h
  refine x_call (fn := Try.f81) (c := bodyOf Try.f81) (bs0 := []) Try.func81 (by kernel_rfl) (by kernel_rfl) ?_
  exact x_to 17 [] onil (Timpl_inCell_0 n a0 (a0.length : Int) a1.X a1.Y a1.Z a1.W n (1, 0) r h) (by kernel_rfl)
/-! cmp.Or[int] -/
def Dcmp_Or_0 (_n : Nat) (t3 : Int) (t6 : List Int) (t7 : Int) (rec0 : Int → Option Int) (a : Int) : Option Int :=
  match a with
  | t8 => frk (decide (t8 < t7)) ((lget t6 t8).bind fun v0 => frk (v0 != t3) (some v0) (rec0 (w64 (t8 + 1)))) (some t3)
theorem Tcmp_Or_0 {Y} (n : Nat) (t3 : Int) (t6 : List Int) (t7 : Int) : ∀ (m : Nat) (a r : Int), loopN (Dcmp_Or_0 n t3 t6 t7) m a = some r → Wk Try.prog H Y 110 [.code (cp [1, 1, 0, 1, 0] (bodyOf Try.f110)), .blk 0, .code (cp [1, 1, 1] (bodyOf Try.f110))] (FinX Try.prog Try.f110 [] (i64 r) []) ⟨[(3, i64 t3), (6, .sl false 1 t6.length ((eInt).f t6)), (7, i64 t7), (8, i64 a)], []⟩ := by
  refine loopN_ind (fun _rec0 hrec0 a r h => ?_)
  obtain ⟨t8, rfl⟩ : ∃ x, x = a := ⟨a, rfl⟩
  unfold Dcmp_Or_0 at h
  refine x_frk 6 [] onil h (by kernel_rfl) (fun h => ?_) (fun h => ?_)
  · obtain ⟨v0, hv0, h⟩ := bind_some h
    refine x_frk 15 [(0, .val (.cptr (eInt.c v0 ++ (eInt).f ((t6).drop (Int.toNat t8 + 1)))))] (ocons (ix eInt hv0) onil) h (by kernel_rfl) (fun h => ?_) (fun h => ?_)
    · replace h := Option.some.inj h; subst h
      exact x_end 5 [] [] onil onil (by kernel_rfl)
    · exact x_to 7 [] onil (hrec0 (w64 (t8 + 1)) r h) (by kernel_rfl)
  · replace h := Option.some.inj h; subst h
    exact x_end 6 [] [] onil onil (by kernel_rfl)
def Dcmp_Or (n : Nat) (a0 : (List Int)) : Option Int :=
  loopN (Dcmp_Or_0 n 0 a0 (a0.length : Int)) n 0
theorem Tcmp_Or {Y} (n : Nat) (a0 : (List Int)) (r : Int) (h : Dcmp_Or n a0 = some r) : Big Try.prog H Y (.call 110 [.sl false 1 a0.length ((eInt).f a0)] (lk []) (i64 r) (lk [])) := by
  unfold Dcmp_Or at h
  refine x_call (fn := Try.f110) (c := bodyOf Try.f110) (bs0 := []) Try.func110 (by kernel_rfl) (by kernel_rfl) ?_
  exact x_to 16 [] onil (Tcmp_Or_0 n 0 a0 (a0.length : Int) n 0 r h) (by kernel_rfl)
/-! impl.cmpSpot -/
def Dimpl_cmpSpot (n : Nat) (a0 : Spot) (a1 : Spot) : Option Int :=
  (Dcmp_Compare (w64 (a0.X * a1.W)) (w64 (a1.X * a0.W))).bind fun v0 => (Dcmp_Compare (w64 (a0.Y * a1.W)) (w64 (a1.Y * a0.W))).bind fun v1 => (Dcmp_Compare (w64 (a0.Z * a1.W)) (w64 (a1.Z * a0.W))).bind fun v2 => (Dcmp_Or n [v0, v1, v2]).bind fun v3 => some v3
theorem Timpl_cmpSpot {Y} (n : Nat) (a0 : Spot) (a1 : Spot) (r : Int) (h : Dimpl_cmpSpot n a0 a1 = some r) : Big Try.prog H Y (.call 83 [.agg [i64 a0.X, i64 a0.Y, i64 a0.Z, i64 a0.W], .agg [i64 a1.X, i64 a1.Y, i64 a1.Z, i64 a1.W]] (lk []) (i64 r) (lk [])) := by
  unfold Dimpl_cmpSpot at h
  refine x_call (fn := Try.f83) (c := bodyOf Try.f83) (bs0 := []) Try.func83 (by kernel_rfl) (by kernel_rfl) ?_
  obtain ⟨v0, hv0, h⟩ := bind_some h
  obtain ⟨v1, hv1, h⟩ := bind_some h
  obtain ⟨v2, hv2, h⟩ := bind_some h
  obtain ⟨v3, hv3, h⟩ := bind_some h
  replace h := Option.some.inj h; subst h
  exact x_end 45 [(13, .call [] [] (i64 v0) []), (10, .call [] [] (i64 v1) []), (10, .call [] [] (i64 v2) []), (1, .call [] [(eInt).f [v0, v1, v2]] (i64 v3) [])] [] (ocons (Tcmp_Compare (Y := Y) (w64 (a0.X * a1.W)) (w64 (a1.X * a0.W)) _ hv0) (ocons (Tcmp_Compare (Y := Y) (w64 (a0.Y * a1.W)) (w64 (a1.Y * a0.W)) _ hv1) (ocons (Tcmp_Compare (Y := Y) (w64 (a0.Z * a1.W)) (w64 (a1.Z * a0.W)) _ hv2) (ocons (Tcmp_Or (Y := Y) n [v0, v1, v2] _ hv3) (ocons (len_row (L := [v0, v1, v2]) eInt) (ocons (Enc.share eInt eInt sInt [v0, v1, v2]) onil)))))) onil (by kernel_rfl)
theorem cmpD (a b : Int) : Dcmp_Compare a b = some (cmpI a b) := by
  unfold Dcmp_Compare Dcmp_isNaN cmpI frk
  simp only [Option.bind_some, bne_self_eq_false]
  by_cases h1 : a < b
  · simp [h1]
  · by_cases h2 : a > b <;> simp [h1, h2]
theorem orD3 (a b c : Int) : Dcmp_Or 9 [a, b, c] = some (or3 a b c) := by
  unfold Dcmp_Or or3
  by_cases ha : a = 0
  · by_cases hb : b = 0
    · by_cases hc : c = 0
      · subst ha hb hc; rfl
      · subst ha hb; simp [loopN, Dcmp_Or_0, frk, lget, w64, IntKind.wrap, IntKind.bits, IntKind.signed, hc]
    · subst ha; simp [loopN, Dcmp_Or_0, frk, lget, w64, IntKind.wrap, IntKind.bits, IntKind.signed, hb]
  · simp [loopN, Dcmp_Or_0, frk, lget, ha]
theorem cmpSpot_D {x y : Spot} (hx : SpG x) (hy : SpG y) : Dimpl_cmpSpot 9 x y = some (cmpS x y) := by
  obtain ⟨⟨x1, x2⟩, x3, x4, x5, -⟩ := hx
  obtain ⟨⟨y1, y2⟩, y3, y4, y5, -⟩ := hy
  have hxw : x.W.natAbs ≤ 1000000000 := by omega
  have hyw : y.W.natAbs ≤ 1000000000 := by omega
  unfold Dimpl_cmpSpot
  simp only [cmpD, Option.bind_some, orD3, w64m x3 hyw, w64m y3 hxw, w64m x4 hyw, w64m y4 hxw, w64m x5 hyw, w64m y5 hxw]
  rfl
theorem srtSpot_t {l l' : List Spot} (h : DsrtSpot l = some l') : l'.length = l.length ∧ TurnOk Try.prog 82 (fun u => #[u, .func (.func 83) #[] #[]]) (.sl true 4 l.length (eSpot.f l)) (.tuple #[]) (.sl true 4 l.length (eSpot.f l')) := by
  unfold DsrtSpot at h
  split at h
  · rename_i hl
    replace h := Option.some.inj h; subst h
    refine ⟨by rw [List.length_map, List.length_mergeSort, List.length_pmap], ?_⟩
    have := sort_turn Try.sortSpot 4 (by decide) Try.isAgg80 Try.sizeOf80 vSpt vSpt_k vSpt_pl cmpSt swoS totS 83 (Go.Proofs.enters_of Try.func83 (by kernel_rfl) rfl) (cmp_of eqW mixW (by decide) vSpt_pl fun x y => Timpl_cmpSpot 9 x.1 y.1 _ (cmpSpot_D x.2 y.2)) (l.pmap Subtype.mk hl.1) (by rw [List.length_pmap]; exact hl.2)
    have e : (l.pmap Subtype.mk hl.1).map (fun x : Spt => x.1) = l := by simp [List.map_pmap]
    rw [vSpt_f, vSpt_f, e, List.length_pmap] at this
    exact this
  · cases h
theorem cutSpot_t {l l' : List Spot} (h : DcutSpot l = some l') : CutOk Try.prog 85 84 (.sl true 4 l.length (eSpot.f l)) (.sl true 4 l'.length (eSpot.f l')) := by
  unfold DcutSpot at h
  split at h
  · rename_i hl
    replace h := Option.some.inj h; subst h
    have := cut_turn Try.cutSpot (by decide) vSp vSp_k vSp_pl (fun x y w => (eqSp (⟨by kernel_rfl, by kernel_rfl, by kernel_rfl, by kernel_rfl, by kernel_rfl⟩ : EqS Try.prog 80) (by kernel_rfl) x y w).1) (fun x y w => (eqSp (⟨by kernel_rfl, by kernel_rfl, by kernel_rfl, by kernel_rfl, by kernel_rfl⟩ : EqS Try.prog 80) (by kernel_rfl) x y w).2.1) (fun op a b x y w => (eqSp (⟨by kernel_rfl, by kernel_rfl, by kernel_rfl, by kernel_rfl, by kernel_rfl⟩ : EqS Try.prog 80) (by kernel_rfl) x y w).2.2 op a b) ⟨0, 0, 0, 0⟩ Try.zeroValue80 Try.clipSpot Try.cutNilSpot l (Nat.le_of_lt hl)
    rw [vSp_f, vSp_f] at this
    exact this
  · cases h
/-! impl.corners -/
def Dimpl_corners_0 (_n : Nat) (rec2 : (Int × List Spot) → Option (List Spot)) (_rec1 : (Int × List Spot) → Option (List Spot)) (_rec0 : (Int × List Spot) → Option (List Spot)) (_t23 : Int) (_t30 : List Pl) (_t31 _b7_0 _b7_1 _b7_2 _b7_3 _t14 : Int) (_t21 : List Pl) (_t22 _b5_0 _b5_1 _b5_2 _b5_3 : Int) (_t0 : List Pl) (_t12 : List Pl) (_t13 t32 : Int) (t49 : Bool) (b10_0 b10_1 b10_2 b10_3 : Int) (l503 : List Spot) : Option (List Spot) :=
  frk t49 (chk (apB 32 (l503.length + 1)) (rec2 (w64 (t32 + 1), (l503 ++ [(Spot.mk b10_0 b10_1 b10_2 b10_3)])))) (rec2 (w64 (t32 + 1), l503))
theorem Timpl_corners_0 {Y} (n : Nat) (rec2 : (Int × List Spot) → Option (List Spot)) (rec1 : (Int × List Spot) → Option (List Spot)) (rec0 : (Int × List Spot) → Option (List Spot)) (t23 : Int) (t30 : List Pl) (t31 b7_0 b7_1 b7_2 b7_3 t14 : Int) (t21 : List Pl) (t22 b5_0 b5_1 b5_2 b5_3 : Int) (t0 : List Pl) (t12 : List Pl) (t13 : Int) (hrec2 : ∀ (a : (Int × List Spot)) (r : (List Spot)), rec2 a = some r → Wk Try.prog H Y 43 [.code (cp [1, 1, 0, 1, 0, 0, 1, 1, 0, 0, 1, 1, 0, 0, 1, 1, 0, 0, 1, 1, 0] (bodyOf Try.f43)), .blk 4, .blk 3, .code (cp [1, 1, 0, 1, 0, 0, 1, 1, 0, 0, 1, 1, 0, 0, 1, 1, 1] (bodyOf Try.f43)), .lp (cp [1, 1, 0, 1, 0, 0, 1, 1, 0, 0, 1, 1, 0] (bodyOf Try.f43)), .blk 2, .blk 1, .code (cp [1, 1, 0, 1, 0, 0, 1, 1, 1] (bodyOf Try.f43)), .lp (cp [1, 1, 0, 1, 0] (bodyOf Try.f43)), .blk 0, .code (cp [1, 1, 1] (bodyOf Try.f43))] (FinX Try.prog Try.f43 [] (.sl true 4 r.length ((eSpot).f r)) []) ⟨[(0, .sl false 4 t0.length ((ePl).f t0)), (3, .msl 503 a.2.length), (5, .ptr 5 0), (7, .ptr 7 0), (12, .sl false 4 t12.length ((ePl).f t12)), (13, i64 t13), (14, i64 t14), (21, .sl false 4 t21.length ((ePl).f t21)), (22, i64 t22), (23, i64 t23), (30, .sl false 4 t30.length ((ePl).f t30)), (31, i64 t31), (32, i64 a.1)], [(5, ⟨true, 0, [i64 b5_0, i64 b5_1, i64 b5_2, i64 b5_3]⟩), (7, ⟨true, 0, [i64 b7_0, i64 b7_1, i64 b7_2, i64 b7_3]⟩), (503, ⟨true, 4, (eSpot).f a.2⟩)]⟩) (_hrec1 : ∀ (a : (Int × List Spot)) (r : (List Spot)), rec1 a = some r → Wk Try.prog H Y 43 [.code (cp [1, 1, 0, 1, 0, 0, 1, 1, 0, 0, 1, 1, 0] (bodyOf Try.f43)), .blk 2, .blk 1, .code (cp [1, 1, 0, 1, 0, 0, 1, 1, 1] (bodyOf Try.f43)), .lp (cp [1, 1, 0, 1, 0] (bodyOf Try.f43)), .blk 0, .code (cp [1, 1, 1] (bodyOf Try.f43))] (FinX Try.prog Try.f43 [] (.sl true 4 r.length ((eSpot).f r)) []) ⟨[(0, .sl false 4 t0.length ((ePl).f t0)), (3, .msl 503 a.2.length), (5, .ptr 5 0), (12, .sl false 4 t12.length ((ePl).f t12)), (13, i64 t13), (14, i64 t14), (21, .sl false 4 t21.length ((ePl).f t21)), (22, i64 t22), (23, i64 a.1)], [(5, ⟨true, 0, [i64 b5_0, i64 b5_1, i64 b5_2, i64 b5_3]⟩), (503, ⟨true, 4, (eSpot).f a.2⟩)]⟩) (_hrec0 : ∀ (a : (Int × List Spot)) (r : (List Spot)), rec0 a = some r → Wk Try.prog H Y 43 [.code (cp [1, 1, 0, 1, 0] (bodyOf Try.f43)), .blk 0, .code (cp [1, 1, 1] (bodyOf Try.f43))] (FinX Try.prog Try.f43 [] (.sl true 4 r.length ((eSpot).f r)) []) ⟨[(0, .sl false 4 t0.length ((ePl).f t0)), (3, .msl 503 a.2.length), (12, .sl false 4 t12.length ((ePl).f t12)), (13, i64 t13), (14, i64 a.1)], [(503, ⟨true, 4, (eSpot).f a.2⟩)]⟩) (t32 : Int) (t49 : Bool) (b10_0 b10_1 b10_2 b10_3 : Int) (l503 : List Spot) (r : (List Spot)) (h : Dimpl_corners_0 n rec2 rec1 rec0 t23 t30 t31 b7_0 b7_1 b7_2 b7_3 t14 t21 t22 b5_0 b5_1 b5_2 b5_3 t0 t12 t13 t32 t49 b10_0 b10_1 b10_2 b10_3 l503 = some r) : Wk Try.prog H Y 43 [.code (cp [1, 1, 0, 1, 0, 0, 1, 1, 0, 0, 1, 1, 0, 0, 1, 1, 0, 0, 1, 1, 0, 0, 1, 1, 0, 0, 1, 1, 1] (bodyOf Try.f43)), .blk 5, .code (cp [1, 1, 0, 1, 0, 0, 1, 1, 0, 0, 1, 1, 0, 0, 1, 1, 0, 0, 1, 1, 0, 0, 1, 1, 1] (bodyOf Try.f43)), .lp (cp [1, 1, 0, 1, 0, 0, 1, 1, 0, 0, 1, 1, 0, 0, 1, 1, 0, 0, 1, 1, 0] (bodyOf Try.f43)), .blk 4, .blk 3, .code (cp [1, 1, 0, 1, 0, 0, 1, 1, 0, 0, 1, 1, 0, 0, 1, 1, 1] (bodyOf Try.f43)), .lp (cp [1, 1, 0, 1, 0, 0, 1, 1, 0, 0, 1, 1, 0] (bodyOf Try.f43)), .blk 2, .blk 1, .code (cp [1, 1, 0, 1, 0, 0, 1, 1, 1] (bodyOf Try.f43)), .lp (cp [1, 1, 0, 1, 0] (bodyOf Try.f43)), .blk 0, .code (cp [1, 1, 1] (bodyOf Try.f43))] (FinX Try.prog Try.f43 [] (.sl true 4 r.length ((eSpot).f r)) []) ⟨[(0, .sl false 4 t0.length ((ePl).f t0)), (3, .msl 503 l503.length), (5, .ptr 5 0), (7, .ptr 7 0), (10, .ptr 10 0), (12, .sl false 4 t12.length ((ePl).f t12)), (13, i64 t13), (14, i64 t14), (21, .sl false 4 t21.length ((ePl).f t21)), (22, i64 t22), (23, i64 t23), (30, .sl false 4 t30.length ((ePl).f t30)), (31, i64 t31), (32, i64 t32), (49, bl t49)], [(5, ⟨true, 0, [i64 b5_0, i64 b5_1, i64 b5_2, i64 b5_3]⟩), (7, ⟨true, 0, [i64 b7_0, i64 b7_1, i64 b7_2, i64 b7_3]⟩), (10, ⟨true, 0, [i64 b10_0, i64 b10_1, i64 b10_2, i64 b10_3]⟩), (503, ⟨true, 4, (eSpot).f l503⟩)]⟩ := by
  unfold Dimpl_corners_0 at h
  refine x_frk 0 [] onil h (by kernel_rfl) (fun h => ?_) (fun h => ?_)
  · obtain ⟨c7, h⟩ := chk_some h
    exact x_to 14 [(3, .app false (List.length (l503 ++ [(Spot.mk b10_0 b10_1 b10_2 b10_3)])) ((eSpot).f (l503 ++ [(Spot.mk b10_0 b10_1 b10_2 b10_3)]))), (3, .ren 53 503)] (ocons (len_row' (L := l503) eSpot) (ocons (app_one (L := l503) (M := [(Spot.mk b10_0 b10_1 b10_2 b10_3)]) eSpot c7) (ocons (app_new (L := l503) (M := [(Spot.mk b10_0 b10_1 b10_2 b10_3)]) eSpot) (ocons (app_m (L := l503) (M := [(Spot.mk b10_0 b10_1 b10_2 b10_3)]) eSpot rfl) (ocons (len_row' (L := [(Spot.mk b10_0 b10_1 b10_2 b10_3)]) eSpot) (ocons (Enc.noOwn eSpot (fun _ => rfl) [(Spot.mk b10_0 b10_1 b10_2 b10_3)]) (ocons (show 53 < 1000 ∧ 503 < 1000 by decide) onil))))))) (hrec2 (w64 (t32 + 1), (l503 ++ [(Spot.mk b10_0 b10_1 b10_2 b10_3)])) r h) (by kernel_rfl)
  · exact x_to 7 [] onil (hrec2 (w64 (t32 + 1), l503) r h) (by kernel_rfl)
def Dimpl_corners_1 (n : Nat) (rec1 : (Int × List Spot) → Option (List Spot)) (rec0 : (Int × List Spot) → Option (List Spot)) (t14 : Int) (t21 : List Pl) (t22 b5_0 b5_1 b5_2 b5_3 : Int) (t0 : List Pl) (t12 : List Pl) (t13 t23 : Int) (t30 : List Pl) (t31 b7_0 b7_1 b7_2 b7_3 : Int) (rec2 : (Int × List Spot) → Option (List Spot)) (a : (Int × List Spot)) : Option (List Spot) :=
  match a with
  | (t32, l503) => frk (decide (t32 < t31)) ((lget t30 t32).bind fun v4 => (Dimpl_meet3 n (Pl.mk b5_0 b5_1 b5_2 b5_3) (Pl.mk b7_0 b7_1 b7_2 b7_3) v4).bind fun v5 => frk v5.2 ((Dimpl_inCell n t0 v5.1).bind fun v6 => Dimpl_corners_0 n rec2 rec1 rec0 t23 t30 t31 b7_0 b7_1 b7_2 b7_3 t14 t21 t22 b5_0 b5_1 b5_2 b5_3 t0 t12 t13 t32 (decide (v6 ≥ 0)) v5.1.X v5.1.Y v5.1.Z v5.1.W l503) (rec2 (w64 (t32 + 1), l503))) (rec1 (w64 (t23 + 1), l503))
theorem Timpl_corners_1 {Y} (n : Nat) (rec1 : (Int × List Spot) → Option (List Spot)) (rec0 : (Int × List Spot) → Option (List Spot)) (t14 : Int) (t21 : List Pl) (t22 b5_0 b5_1 b5_2 b5_3 : Int) (t0 : List Pl) (t12 : List Pl) (t13 : Int) (hrec1 : ∀ (a : (Int × List Spot)) (r : (List Spot)), rec1 a = some r → Wk Try.prog H Y 43 [.code (cp [1, 1, 0, 1, 0, 0, 1, 1, 0, 0, 1, 1, 0] (bodyOf Try.f43)), .blk 2, .blk 1, .code (cp [1, 1, 0, 1, 0, 0, 1, 1, 1] (bodyOf Try.f43)), .lp (cp [1, 1, 0, 1, 0] (bodyOf Try.f43)), .blk 0, .code (cp [1, 1, 1] (bodyOf Try.f43))] (FinX Try.prog Try.f43 [] (.sl true 4 r.length ((eSpot).f r)) []) ⟨[(0, .sl false 4 t0.length ((ePl).f t0)), (3, .msl 503 a.2.length), (5, .ptr 5 0), (12, .sl false 4 t12.length ((ePl).f t12)), (13, i64 t13), (14, i64 t14), (21, .sl false 4 t21.length ((ePl).f t21)), (22, i64 t22), (23, i64 a.1)], [(5, ⟨true, 0, [i64 b5_0, i64 b5_1, i64 b5_2, i64 b5_3]⟩), (503, ⟨true, 4, (eSpot).f a.2⟩)]⟩) (hrec0 : ∀ (a : (Int × List Spot)) (r : (List Spot)), rec0 a = some r → Wk Try.prog H Y 43 [.code (cp [1, 1, 0, 1, 0] (bodyOf Try.f43)), .blk 0, .code (cp [1, 1, 1] (bodyOf Try.f43))] (FinX Try.prog Try.f43 [] (.sl true 4 r.length ((eSpot).f r)) []) ⟨[(0, .sl false 4 t0.length ((ePl).f t0)), (3, .msl 503 a.2.length), (12, .sl false 4 t12.length ((ePl).f t12)), (13, i64 t13), (14, i64 a.1)], [(503, ⟨true, 4, (eSpot).f a.2⟩)]⟩) (t23 : Int) (t30 : List Pl) (t31 b7_0 b7_1 b7_2 b7_3 : Int) : ∀ (m : Nat) (a : (Int × List Spot)) (r : (List Spot)), loopN (Dimpl_corners_1 n rec1 rec0 t14 t21 t22 b5_0 b5_1 b5_2 b5_3 t0 t12 t13 t23 t30 t31 b7_0 b7_1 b7_2 b7_3) m a = some r → Wk Try.prog H Y 43 [.code (cp [1, 1, 0, 1, 0, 0, 1, 1, 0, 0, 1, 1, 0, 0, 1, 1, 0, 0, 1, 1, 0] (bodyOf Try.f43)), .blk 4, .blk 3, .code (cp [1, 1, 0, 1, 0, 0, 1, 1, 0, 0, 1, 1, 0, 0, 1, 1, 1] (bodyOf Try.f43)), .lp (cp [1, 1, 0, 1, 0, 0, 1, 1, 0, 0, 1, 1, 0] (bodyOf Try.f43)), .blk 2, .blk 1, .code (cp [1, 1, 0, 1, 0, 0, 1, 1, 1] (bodyOf Try.f43)), .lp (cp [1, 1, 0, 1, 0] (bodyOf Try.f43)), .blk 0, .code (cp [1, 1, 1] (bodyOf Try.f43))] (FinX Try.prog Try.f43 [] (.sl true 4 r.length ((eSpot).f r)) []) ⟨[(0, .sl false 4 t0.length ((ePl).f t0)), (3, .msl 503 a.2.length), (5, .ptr 5 0), (7, .ptr 7 0), (12, .sl false 4 t12.length ((ePl).f t12)), (13, i64 t13), (14, i64 t14), (21, .sl false 4 t21.length ((ePl).f t21)), (22, i64 t22), (23, i64 t23), (30, .sl false 4 t30.length ((ePl).f t30)), (31, i64 t31), (32, i64 a.1)], [(5, ⟨true, 0, [i64 b5_0, i64 b5_1, i64 b5_2, i64 b5_3]⟩), (7, ⟨true, 0, [i64 b7_0, i64 b7_1, i64 b7_2, i64 b7_3]⟩), (503, ⟨true, 4, (eSpot).f a.2⟩)]⟩ := by
  refine loopN_ind (fun rec2 hrec2 a r h => ?_)
  obtain ⟨t32, l503⟩ := a
  unfold Dimpl_corners_1 at h
  refine x_frk 6 [] onil h (by kernel_rfl) (fun h => ?_) (fun h => ?_)
  · obtain ⟨v4, hv4, h⟩ := bind_some h
    obtain ⟨v5, hv5, h⟩ := bind_some h
    refine x_frk 27 [(0, .val (.cptr (ePl.c v4 ++ (ePl).f ((t30).drop (Int.toNat t32 + 1))))), (6, .call [] [] (.tup [.agg [i64 v5.1.X, i64 v5.1.Y, i64 v5.1.Z, i64 v5.1.W], bl v5.2]) [])] (ocons (ix ePl hv4) (ocons (Timpl_meet3 (Y := Y) n (Pl.mk b5_0 b5_1 b5_2 b5_3) (Pl.mk b7_0 b7_1 b7_2 b7_3) v4 _ hv5) onil)) h (by kernel_rfl) (fun h => ?_) (fun h => ?_)
    · obtain ⟨v6, hv6, h⟩ := bind_some h
      exact x_to 6 [(2, .call [] [] (i64 v6) [])] (ocons (Timpl_inCell (Y := Y) n t0 v5.1 _ hv6) onil) (Timpl_corners_0 n rec2 rec1 rec0 t23 t30 t31 b7_0 b7_1 b7_2 b7_3 t14 t21 t22 b5_0 b5_1 b5_2 b5_3 t0 t12 t13 hrec2 hrec1 hrec0 t32 (decide (v6 ≥ 0)) v5.1.X v5.1.Y v5.1.Z v5.1.W l503 r h) (by kernel_rfl)
    · exact x_to 14 [] onil (hrec2 (w64 (t32 + 1), l503) r h) (by kernel_rfl)
  · exact x_to 7 [] onil (hrec1 (w64 (t23 + 1), l503) r h) (by kernel_rfl)
def Dimpl_corners_2 (n : Nat) (rec0 : (Int × List Spot) → Option (List Spot)) (t0 : List Pl) (t12 : List Pl) (t13 t14 : Int) (t21 : List Pl) (t22 b5_0 b5_1 b5_2 b5_3 : Int) (rec1 : (Int × List Spot) → Option (List Spot)) (a : (Int × List Spot)) : Option (List Spot) :=
  match a with
  | (t23, l503) => frk (decide (t23 < t22)) ((lget t21 t23).bind fun v2 => (lsl t0 0 t23).bind fun v3 => loopN (Dimpl_corners_1 n rec1 rec0 t14 t21 t22 b5_0 b5_1 b5_2 b5_3 t0 t12 t13 t23 v3 (v3.length : Int) v2.A v2.B v2.C v2.D) n (0, l503)) (rec0 (w64 (t14 + 1), l503))
theorem Timpl_corners_2 {Y} (n : Nat) (rec0 : (Int × List Spot) → Option (List Spot)) (t0 : List Pl) (t12 : List Pl) (t13 : Int) (hrec0 : ∀ (a : (Int × List Spot)) (r : (List Spot)), rec0 a = some r → Wk Try.prog H Y 43 [.code (cp [1, 1, 0, 1, 0] (bodyOf Try.f43)), .blk 0, .code (cp [1, 1, 1] (bodyOf Try.f43))] (FinX Try.prog Try.f43 [] (.sl true 4 r.length ((eSpot).f r)) []) ⟨[(0, .sl false 4 t0.length ((ePl).f t0)), (3, .msl 503 a.2.length), (12, .sl false 4 t12.length ((ePl).f t12)), (13, i64 t13), (14, i64 a.1)], [(503, ⟨true, 4, (eSpot).f a.2⟩)]⟩) (t14 : Int) (t21 : List Pl) (t22 b5_0 b5_1 b5_2 b5_3 : Int) : ∀ (m : Nat) (a : (Int × List Spot)) (r : (List Spot)), loopN (Dimpl_corners_2 n rec0 t0 t12 t13 t14 t21 t22 b5_0 b5_1 b5_2 b5_3) m a = some r → Wk Try.prog H Y 43 [.code (cp [1, 1, 0, 1, 0, 0, 1, 1, 0, 0, 1, 1, 0] (bodyOf Try.f43)), .blk 2, .blk 1, .code (cp [1, 1, 0, 1, 0, 0, 1, 1, 1] (bodyOf Try.f43)), .lp (cp [1, 1, 0, 1, 0] (bodyOf Try.f43)), .blk 0, .code (cp [1, 1, 1] (bodyOf Try.f43))] (FinX Try.prog Try.f43 [] (.sl true 4 r.length ((eSpot).f r)) []) ⟨[(0, .sl false 4 t0.length ((ePl).f t0)), (3, .msl 503 a.2.length), (5, .ptr 5 0), (12, .sl false 4 t12.length ((ePl).f t12)), (13, i64 t13), (14, i64 t14), (21, .sl false 4 t21.length ((ePl).f t21)), (22, i64 t22), (23, i64 a.1)], [(5, ⟨true, 0, [i64 b5_0, i64 b5_1, i64 b5_2, i64 b5_3]⟩), (503, ⟨true, 4, (eSpot).f a.2⟩)]⟩ := by
  refine loopN_ind (fun rec1 hrec1 a r h => ?_)
  obtain ⟨t23, l503⟩ := a
  unfold Dimpl_corners_2 at h
  refine x_frk 6 [] onil h (by kernel_rfl) (fun h => ?_) (fun h => ?_)
  · obtain ⟨v2, hv2, h⟩ := bind_some h
    obtain ⟨v3, hv3, h⟩ := bind_some h
    exact x_to 21 [(1, .val (.cptr (ePl.c v2 ++ (ePl).f ((t21).drop (Int.toNat t23 + 1))))), (6, .val (.sl false 4 v3.length ((ePl).f v3)))] (ocons (ix ePl hv2) (ocons (slF ePl hv3) onil)) (Timpl_corners_1 n rec1 rec0 t14 t21 t22 b5_0 b5_1 b5_2 b5_3 t0 t12 t13 hrec1 hrec0 t23 v3 (v3.length : Int) v2.A v2.B v2.C v2.D n (0, l503) r h) (by kernel_rfl)
  · exact x_to 7 [] onil (hrec0 (w64 (t14 + 1), l503) r h) (by kernel_rfl)
def Dimpl_corners_4 (_n : Nat) (l503 : List Spot) : Option (List Spot) :=
  (DcutSpot l503).bind fun v9 => some v9
theorem Timpl_corners_4 {Y} (n : Nat) (l503 : List Spot) (r : (List Spot)) (h : Dimpl_corners_4 n l503 = some r) : Wk Try.prog H Y 43 [.code (cp [1, 1, 1, 1, 0] (bodyOf Try.f43)), .code (cp [1, 1, 1, 1, 1] (bodyOf Try.f43))] (FinX Try.prog Try.f43 [] (.sl true 4 r.length ((eSpot).f r)) []) ⟨[(3, .msl 503 l503.length)], [(503, ⟨true, 4, (eSpot).f l503⟩)]⟩ := by
  unfold Dimpl_corners_4 at h
  obtain ⟨v9, hv9, h⟩ := bind_some h
  refine x_cut (f := 85) (g := 84) (ta := 3) (d0 := 59) (d1 := 60) (d2 := 61) (da := 2) (b := 503) (n := l503.length) (z := 4) (st := true) (cs := eSpot.f l503) (T := .sl true 4 v9.length (eSpot.f v9)) rfl (fun _ _ _ h => h) (by kernel_rfl) (by kernel_rfl) (by kernel_rfl) (by simp [nlkLs, nlk, nlkL, nLk, nLkSp]) (by decide) (Enc.len _ _) (cutSpot_t hv9) ?_
  replace h := Option.some.inj h; subst h
  exact x_end 0 [] [] onil onil (by kernel_rfl)
def Dimpl_corners_3 (n : Nat) (l503 : List Spot) : Option (List Spot) :=
  (DsrtSpot l503).bind fun v8 => Dimpl_corners_4 n v8
theorem Timpl_corners_3 {Y} (n : Nat) (l503 : List Spot) (r : (List Spot)) (h : Dimpl_corners_3 n l503 = some r) : Wk Try.prog H Y 43 [.code (cp [1, 1, 1, 0] (bodyOf Try.f43)), .code (cp [1, 1, 1, 1] (bodyOf Try.f43))] (FinX Try.prog Try.f43 [] (.sl true 4 r.length ((eSpot).f r)) []) ⟨[(3, .msl 503 l503.length)], [(503, ⟨true, 4, (eSpot).f l503⟩)]⟩ := by
  unfold Dimpl_corners_3 at h
  obtain ⟨v8, hv8, h⟩ := bind_some h
  obtain ⟨hlv8, htv8⟩ := srtSpot_t hv8
  refine x_sort (f := 82) (ta := 3) (dl := 57) (dr := 58) (b := 503) (n := l503.length) (z := 4) (g := 83) (st := true) (cs := eSpot.f l503) (cs' := eSpot.f v8) (rv := .tuple #[]) rfl (fun _ _ _ h => h) (by kernel_rfl) (by kernel_rfl) (by kernel_rfl) (by simp [nlkLs, nlk, nlkL, nLk, nLkSp]) (by decide) (Enc.len _ _) (by rw [Enc.len, hlv8]; rfl) (nLkSp _) htv8 ?_
  exact x_to 2 [(0, .fix 3 (.msl 503 v8.length))] (ocons (congrArg (AV.msl 503) hlv8.symm) onil) (Timpl_corners_4 n v8 r h) (by kernel_rfl)
def Dimpl_corners_5 (n : Nat) (t0 : List Pl) (t12 : List Pl) (t13 : Int) (rec0 : (Int × List Spot) → Option (List Spot)) (a : (Int × List Spot)) : Option (List Spot) :=
  match a with
  | (t14, l503) => frk (decide (t14 < t13)) ((lget t12 t14).bind fun v0 => (lsl t0 0 t14).bind fun v1 => loopN (Dimpl_corners_2 n rec0 t0 t12 t13 t14 v1 (v1.length : Int) v0.A v0.B v0.C v0.D) n (0, l503)) (Dimpl_corners_3 n l503)
theorem Timpl_corners_5 {Y} (n : Nat) (t0 : List Pl) (t12 : List Pl) (t13 : Int) : ∀ (m : Nat) (a : (Int × List Spot)) (r : (List Spot)), loopN (Dimpl_corners_5 n t0 t12 t13) m a = some r → Wk Try.prog H Y 43 [.code (cp [1, 1, 0, 1, 0] (bodyOf Try.f43)), .blk 0, .code (cp [1, 1, 1] (bodyOf Try.f43))] (FinX Try.prog Try.f43 [] (.sl true 4 r.length ((eSpot).f r)) []) ⟨[(0, .sl false 4 t0.length ((ePl).f t0)), (3, .msl 503 a.2.length), (12, .sl false 4 t12.length ((ePl).f t12)), (13, i64 t13), (14, i64 a.1)], [(503, ⟨true, 4, (eSpot).f a.2⟩)]⟩ := by
  refine loopN_ind (fun rec0 hrec0 a r h => ?_)
  obtain ⟨t14, l503⟩ := a
  unfold Dimpl_corners_5 at h
  refine x_frk 6 [] onil h (by kernel_rfl) (fun h => ?_) (fun h => ?_)
  · obtain ⟨v0, hv0, h⟩ := bind_some h
    obtain ⟨v1, hv1, h⟩ := bind_some h
    exact x_to 21 [(1, .val (.cptr (ePl.c v0 ++ (ePl).f ((t12).drop (Int.toNat t14 + 1))))), (6, .val (.sl false 4 v1.length ((ePl).f v1)))] (ocons (ix ePl hv0) (ocons (slF ePl hv1) onil)) (Timpl_corners_2 n rec0 t0 t12 t13 hrec0 t14 v1 (v1.length : Int) v0.A v0.B v0.C v0.D n (0, l503) r h) (by kernel_rfl)
  · exact x_to 2 [] onil (Timpl_corners_3 n l503 r h) (by kernel_rfl)
def Dimpl_corners (n : Nat) (a0 : (List Pl)) : Option (List Spot) :=
  loopN (Dimpl_corners_5 n a0 a0 (a0.length : Int)) n (0, [])
theorem Timpl_corners {Y} (n : Nat) (a0 : (List Pl)) (r : (List Spot)) (h : Dimpl_corners n a0 = some r) : Big Try.prog H Y (.call 43 [.sl false 4 a0.length ((ePl).f a0)] (lk []) (.sl true 4 r.length ((eSpot).f r)) (lk [])) := by
  unfold Dimpl_corners at h
  refine x_call (fn := Try.f43) (c := bodyOf Try.f43) (bs0 := []) Try.func43 (by kernel_rfl) (by kernel_rfl) ?_
  exact x_to 17 [(2, .virt 3 503 4)] (ocons (rflV .nil) (ocons (show 503 < 1000 ∧ 4 ≠ 0 by decide) onil)) (Timpl_corners_5 n a0 a0 (a0.length : Int) n (0, []) r h) (by kernel_rfl)
/-! impl.Plane] -/
def Dslices_Index_0 (_n : Nat) (t0 : List Pl) (t7 b3_0 b3_1 b3_2 b3_3 : Int) (rec0 : Int → Option Int) (a : Int) : Option Int :=
  match a with
  | t8 => frk (decide (t8 < t7)) ((lget t0 t8).bind fun v0 => frk (b3_0 == v0.A && (b3_1 == v0.B && (b3_2 == v0.C && (b3_3 == v0.D && true)))) (some t8) (rec0 (w64 (t8 + 1)))) (some (-1))
theorem Tslices_Index_0 {Y} (n : Nat) (t0 : List Pl) (t7 b3_0 b3_1 b3_2 b3_3 : Int) : ∀ (m : Nat) (a r : Int), loopN (Dslices_Index_0 n t0 t7 b3_0 b3_1 b3_2 b3_3) m a = some r → Wk Try.prog H Y 86 [.code (cp [1, 0, 1, 0] (bodyOf Try.f86)), .blk 0, .code (cp [1, 1] (bodyOf Try.f86))] (FinX Try.prog Try.f86 [] (i64 r) []) ⟨[(0, .sl false 4 t0.length ((ePl).f t0)), (3, .ptr 3 0), (7, i64 t7), (8, i64 a)], [(3, ⟨true, 0, [i64 b3_0, i64 b3_1, i64 b3_2, i64 b3_3]⟩)]⟩ := by
  refine loopN_ind (fun _rec0 hrec0 a r h => ?_)
  obtain ⟨t8, rfl⟩ : ∃ x, x = a := ⟨a, rfl⟩
  unfold Dslices_Index_0 at h
  refine x_frk 6 [] onil h (by kernel_rfl) (fun h => ?_) (fun h => ?_)
  · obtain ⟨v0, hv0, h⟩ := bind_some h
    refine x_frk 17 [(5, .val (.cptr (ePl.c v0 ++ (ePl).f ((t0).drop (Int.toNat t8 + 1)))))] (ocons (ix ePl hv0) onil) h (by kernel_rfl) (fun h => ?_) (fun h => ?_)
    · replace h := Option.some.inj h; subst h
      exact x_end 5 [] [] onil onil (by kernel_rfl)
    · exact x_to 7 [] onil (hrec0 (w64 (t8 + 1)) r h) (by kernel_rfl)
  · replace h := Option.some.inj h; subst h
    exact x_end 5 [] [] onil onil (by kernel_rfl)
def Dslices_Index (n : Nat) (a0 : (List Pl)) (a1 : Pl) : Option Int :=
  loopN (Dslices_Index_0 n a0 (a0.length : Int) a1.A a1.B a1.C a1.D) n 0
theorem Tslices_Index {Y} (n : Nat) (a0 : (List Pl)) (a1 : Pl) (r : Int) (h : Dslices_Index n a0 a1 = some r) : Big Try.prog H Y (.call 86 [.sl false 4 a0.length ((ePl).f a0), .agg [i64 a1.A, i64 a1.B, i64 a1.C, i64 a1.D]] (lk []) (i64 r) (lk [])) := by
  unfold Dslices_Index at h
  refine x_call (fn := Try.f86) (c := bodyOf Try.f86) (bs0 := []) Try.func86 (by kernel_rfl) (by kernel_rfl) ?_
  exact x_to 13 [] onil (Tslices_Index_0 n a0 (a0.length : Int) a1.A a1.B a1.C a1.D n 0 r h) (by kernel_rfl)
/-! impl.flip -/
def Dimpl_flip (a0 : Pl) : Option Pl :=
  some (Pl.mk (w64 (0 - a0.A)) (w64 (0 - a0.B)) (w64 (0 - a0.C)) (w64 (0 - a0.D)))
theorem Timpl_flip {Y} (a0 : Pl) (r : Pl) (h : Dimpl_flip a0 = some r) : Big Try.prog H Y (.call 69 [.agg [i64 a0.A, i64 a0.B, i64 a0.C, i64 a0.D]] (lk []) (.agg [i64 r.A, i64 r.B, i64 r.C, i64 r.D]) (lk [])) := by
  unfold Dimpl_flip at h
  refine x_call (fn := Try.f69) (c := bodyOf Try.f69) (bs0 := []) Try.func69 (by kernel_rfl) (by kernel_rfl) ?_
  replace h := Option.some.inj h; subst h
  exact x_end 22 [] [] onil onil (by kernel_rfl)
/-! impl.needed -/
def Dimpl_needed_0 (n : Nat) (rec0 : (Int × List Int) → Option (List Int)) (_t0 : List Pl) (_t9 : List Pl) (_t10 t4 t11 b5_0 b5_1 b5_2 b5_3 : Int) (l503 : List Int) (l506 : List Pl) : Option (List Int) :=
  (Dimpl_flip (Pl.mk b5_0 b5_1 b5_2 b5_3)).bind fun v4 => (Dimpl_room n l506 v4).bind fun v5 => frk v5 (chk (apB 8 (l503.length + 1)) (rec0 (w64 (t11 + 1), (l503 ++ [t4])))) (rec0 (w64 (t11 + 1), l503))
theorem Timpl_needed_0 {Y} (n : Nat) (rec0 : (Int × List Int) → Option (List Int)) (t0 : List Pl) (t9 : List Pl) (t10 : Int) (hrec0 : ∀ (a : (Int × List Int)) (r : (List Int)), rec0 a = some r → Wk Try.prog H Y 44 [.code (cp [1, 1, 0, 1, 0] (bodyOf Try.f44)), .blk 0, .code (cp [1, 1, 1] (bodyOf Try.f44))] (FinX Try.prog Try.f44 [] (.sl true 1 r.length ((eInt).f r)) []) ⟨[(0, .sl false 4 t0.length ((ePl).f t0)), (3, .msl 503 a.2.length), (9, .sl false 4 t9.length ((ePl).f t9)), (10, i64 t10), (11, i64 a.1)], [(503, ⟨true, 1, (eInt).f a.2⟩)]⟩) (t4 t11 b5_0 b5_1 b5_2 b5_3 : Int) (l503 : List Int) (l506 : List Pl) (r : (List Int)) (h : Dimpl_needed_0 n rec0 t0 t9 t10 t4 t11 b5_0 b5_1 b5_2 b5_3 l503 l506 = some r) : Wk Try.prog H Y 44 [.code (cp [1, 1, 0, 1, 0, 0, 1, 1, 0, 0, 1, 1, 1, 1, 0] (bodyOf Try.f44)), .code (cp [1, 1, 0, 1, 0, 0, 1, 1, 0, 0, 1, 1, 1, 1, 1] (bodyOf Try.f44)), .blk 1, .code (cp [1, 1, 0, 1, 0, 0, 1, 1, 1] (bodyOf Try.f44)), .lp (cp [1, 1, 0, 1, 0] (bodyOf Try.f44)), .blk 0, .code (cp [1, 1, 1] (bodyOf Try.f44))] (FinX Try.prog Try.f44 [] (.sl true 1 r.length ((eInt).f r)) []) ⟨[(0, .sl false 4 t0.length ((ePl).f t0)), (3, .msl 503 l503.length), (4, i64 t4), (5, .ptr 5 0), (6, .msl 506 l506.length), (9, .sl false 4 t9.length ((ePl).f t9)), (10, i64 t10), (11, i64 t11)], [(5, ⟨true, 0, [i64 b5_0, i64 b5_1, i64 b5_2, i64 b5_3]⟩), (503, ⟨true, 1, (eInt).f l503⟩), (506, ⟨true, 4, (ePl).f l506⟩)]⟩ := by
  unfold Dimpl_needed_0 at h
  obtain ⟨v4, hv4, h⟩ := bind_some h
  obtain ⟨v5, hv5, h⟩ := bind_some h
  refine x_frk 6 [(2, .call [] [] (.agg [i64 v4.A, i64 v4.B, i64 v4.C, i64 v4.D]) []), (0, .call [] [(ePl).f l506] (bl v5) [])] (ocons (Timpl_flip (Y := Y) (Pl.mk b5_0 b5_1 b5_2 b5_3) _ hv4) (ocons (Timpl_room (Y := Y) n l506 v4 _ hv5) (ocons (len_row (L := l506) ePl) (ocons (Enc.share ePl ePl sPl l506) onil)))) h (by kernel_rfl) (fun h => ?_) (fun h => ?_)
  · obtain ⟨c6, h⟩ := chk_some h
    exact x_to 14 [(3, .app false (List.length (l503 ++ [t4])) ((eInt).f (l503 ++ [t4]))), (3, .ren 42 503)] (ocons (len_row' (L := l503) eInt) (ocons (app_one (L := l503) (M := [t4]) eInt c6) (ocons (app_new (L := l503) (M := [t4]) eInt) (ocons (app_m (L := l503) (M := [t4]) eInt rfl) (ocons (len_row' (L := [t4]) eInt) (ocons (Enc.noOwn eInt (fun _ => rfl) [t4]) (ocons (show 42 < 1000 ∧ 503 < 1000 by decide) onil))))))) (hrec0 (w64 (t11 + 1), (l503 ++ [t4])) r h) (by kernel_rfl)
  · exact x_to 7 [] onil (hrec0 (w64 (t11 + 1), l503) r h) (by kernel_rfl)
def Dimpl_needed_1 (n : Nat) (rec0 : (Int × List Int) → Option (List Int)) (t0 : List Pl) (t9 : List Pl) (t10 t4 t11 t22 b5_0 b5_1 b5_2 b5_3 : Int) (l503 : List Int) (rec1 : (Int × List Pl) → Option (List Int)) (a : (Int × List Pl)) : Option (List Int) :=
  match a with
  | (t23, l506) => frk (decide (t23 < t22)) ((lget t0 t23).bind fun v2 => frk (!(v2.A == b5_0 && (v2.B == b5_1 && (v2.C == b5_2 && (v2.D == b5_3 && true))))) (chk (apB 32 (l506.length + 1)) (rec1 (w64 (t23 + 1), (l506 ++ [v2])))) (rec1 (w64 (t23 + 1), l506))) (Dimpl_needed_0 n rec0 t0 t9 t10 t4 t11 b5_0 b5_1 b5_2 b5_3 l503 l506)
theorem Timpl_needed_1 {Y} (n : Nat) (rec0 : (Int × List Int) → Option (List Int)) (t0 : List Pl) (t9 : List Pl) (t10 : Int) (hrec0 : ∀ (a : (Int × List Int)) (r : (List Int)), rec0 a = some r → Wk Try.prog H Y 44 [.code (cp [1, 1, 0, 1, 0] (bodyOf Try.f44)), .blk 0, .code (cp [1, 1, 1] (bodyOf Try.f44))] (FinX Try.prog Try.f44 [] (.sl true 1 r.length ((eInt).f r)) []) ⟨[(0, .sl false 4 t0.length ((ePl).f t0)), (3, .msl 503 a.2.length), (9, .sl false 4 t9.length ((ePl).f t9)), (10, i64 t10), (11, i64 a.1)], [(503, ⟨true, 1, (eInt).f a.2⟩)]⟩) (t4 t11 t22 b5_0 b5_1 b5_2 b5_3 : Int) (l503 : List Int) : ∀ (m : Nat) (a : (Int × List Pl)) (r : (List Int)), loopN (Dimpl_needed_1 n rec0 t0 t9 t10 t4 t11 t22 b5_0 b5_1 b5_2 b5_3 l503) m a = some r → Wk Try.prog H Y 44 [.code (cp [1, 1, 0, 1, 0, 0, 1, 1, 0, 0, 1, 1, 1, 0, 1, 0] (bodyOf Try.f44)), .blk 2, .code (cp [1, 1, 0, 1, 0, 0, 1, 1, 0, 0, 1, 1, 1, 1] (bodyOf Try.f44)), .blk 1, .code (cp [1, 1, 0, 1, 0, 0, 1, 1, 1] (bodyOf Try.f44)), .lp (cp [1, 1, 0, 1, 0] (bodyOf Try.f44)), .blk 0, .code (cp [1, 1, 1] (bodyOf Try.f44))] (FinX Try.prog Try.f44 [] (.sl true 1 r.length ((eInt).f r)) []) ⟨[(0, .sl false 4 t0.length ((ePl).f t0)), (3, .msl 503 l503.length), (4, i64 t4), (5, .ptr 5 0), (6, .msl 506 a.2.length), (9, .sl false 4 t9.length ((ePl).f t9)), (10, i64 t10), (11, i64 t11), (21, .sl false 4 t0.length ((ePl).f t0)), (22, i64 t22), (23, i64 a.1)], [(5, ⟨true, 0, [i64 b5_0, i64 b5_1, i64 b5_2, i64 b5_3]⟩), (503, ⟨true, 1, (eInt).f l503⟩), (506, ⟨true, 4, (ePl).f a.2⟩)]⟩ := by
  refine loopN_ind (fun _rec1 hrec1 a r h => ?_)
  obtain ⟨t23, l506⟩ := a
  unfold Dimpl_needed_1 at h
  refine x_frk 6 [] onil h (by kernel_rfl) (fun h => ?_) (fun h => ?_)
  · obtain ⟨v2, hv2, h⟩ := bind_some h
    refine x_frk 16 [(0, .val (.cptr (ePl.c v2 ++ (ePl).f ((t0).drop (Int.toNat t23 + 1)))))] (ocons (ix ePl hv2) onil) h (by kernel_rfl) (fun h => ?_) (fun h => ?_)
    · obtain ⟨c3, h⟩ := chk_some h
      exact x_to 14 [(3, .app false (List.length (l506 ++ [v2])) ((ePl).f (l506 ++ [v2]))), (3, .ren 33 506)] (ocons (len_row' (L := l506) ePl) (ocons (app_one (L := l506) (M := [v2]) ePl c3) (ocons (app_new (L := l506) (M := [v2]) ePl) (ocons (app_m (L := l506) (M := [v2]) ePl rfl) (ocons (len_row' (L := [v2]) ePl) (ocons (Enc.noOwn ePl (fun _ => rfl) [v2]) (ocons (show 33 < 1000 ∧ 506 < 1000 by decide) onil))))))) (hrec1 (w64 (t23 + 1), (l506 ++ [v2])) r h) (by kernel_rfl)
    · exact x_to 7 [] onil (hrec1 (w64 (t23 + 1), l506) r h) (by kernel_rfl)
  · exact x_to 2 [] onil (Timpl_needed_0 n rec0 t0 t9 t10 hrec0 t4 t11 b5_0 b5_1 b5_2 b5_3 l503 l506 r h) (by kernel_rfl)
def Dimpl_needed_2 (n : Nat) (t0 : List Pl) (t9 : List Pl) (t10 : Int) (rec0 : (Int × List Int) → Option (List Int)) (a : (Int × List Int)) : Option (List Int) :=
  match a with
  | (t11, l503) => frk (decide (t11 < t10)) ((lget t9 t11).bind fun v0 => (Dslices_Index n t0 v0).bind fun v1 => frk (v1 != t11) (rec0 (w64 (t11 + 1), l503)) (loopN (Dimpl_needed_1 n rec0 t0 t9 t10 t11 t11 (t0.length : Int) v0.A v0.B v0.C v0.D l503) n (0, []))) (some l503)
theorem Timpl_needed_2 {Y} (n : Nat) (t0 : List Pl) (t9 : List Pl) (t10 : Int) : ∀ (m : Nat) (a : (Int × List Int)) (r : (List Int)), loopN (Dimpl_needed_2 n t0 t9 t10) m a = some r → Wk Try.prog H Y 44 [.code (cp [1, 1, 0, 1, 0] (bodyOf Try.f44)), .blk 0, .code (cp [1, 1, 1] (bodyOf Try.f44))] (FinX Try.prog Try.f44 [] (.sl true 1 r.length ((eInt).f r)) []) ⟨[(0, .sl false 4 t0.length ((ePl).f t0)), (3, .msl 503 a.2.length), (9, .sl false 4 t9.length ((ePl).f t9)), (10, i64 t10), (11, i64 a.1)], [(503, ⟨true, 1, (eInt).f a.2⟩)]⟩ := by
  refine loopN_ind (fun rec0 hrec0 a r h => ?_)
  obtain ⟨t11, l503⟩ := a
  unfold Dimpl_needed_2 at h
  refine x_frk 6 [] onil h (by kernel_rfl) (fun h => ?_) (fun h => ?_)
  · obtain ⟨v0, hv0, h⟩ := bind_some h
    obtain ⟨v1, hv1, h⟩ := bind_some h
    refine x_frk 21 [(1, .val (.cptr (ePl.c v0 ++ (ePl).f ((t9).drop (Int.toNat t11 + 1))))), (6, .call [] [] (i64 v1) [])] (ocons (ix ePl hv0) (ocons (Tslices_Index (Y := Y) n t0 v0 _ hv1) onil)) h (by kernel_rfl) (fun h => ?_) (fun h => ?_)
    · exact x_to 6 [] onil (hrec0 (w64 (t11 + 1), l503) r h) (by kernel_rfl)
    · exact x_to 14 [(1, .virt 6 506 4)] (ocons (rflV .nil) (ocons (show 506 < 1000 ∧ 4 ≠ 0 by decide) onil)) (Timpl_needed_1 n rec0 t0 t9 t10 hrec0 t11 t11 (t0.length : Int) v0.A v0.B v0.C v0.D l503 n (0, []) r h) (by kernel_rfl)
  · replace h := Option.some.inj h; subst h
    exact x_end 6 [] [] onil (ocons (len_row (L := l503) eInt) onil) (by kernel_rfl)
def Dimpl_needed (n : Nat) (a0 : (List Pl)) : Option (List Int) :=
  loopN (Dimpl_needed_2 n a0 a0 (a0.length : Int)) n (0, [])
theorem Timpl_needed {Y} (n : Nat) (a0 : (List Pl)) (r : (List Int)) (h : Dimpl_needed n a0 = some r) : Big Try.prog H Y (.call 44 [.sl false 4 a0.length ((ePl).f a0)] (lk []) (.sl true 1 r.length ((eInt).f r)) (lk [])) := by
  unfold Dimpl_needed at h
  refine x_call (fn := Try.f44) (c := bodyOf Try.f44) (bs0 := []) Try.func44 (by kernel_rfl) (by kernel_rfl) ?_
  exact x_to 17 [(2, .virt 3 503 1)] (ocons (rflV .nil) (ocons (show 503 < 1000 ∧ 1 ≠ 0 by decide) onil)) (Timpl_needed_2 n a0 a0 (a0.length : Int) n (0, []) r h) (by kernel_rfl)
/-! impl.FaceCount -/
def Dimpl_FaceCount_0 (_n : Nat) (rec0 : (Int × Int) → Option Int) (_t0 : List Pl) (_t3 : List Spot) (_t16 : List Int) (_t17 t4 t18 : Int) (t39 : Bool) : Option Int :=
  frk t39 (rec0 (w64 (t4 + 1), w64 (t18 + 1))) (rec0 (t4, w64 (t18 + 1)))
theorem Timpl_FaceCount_0 {Y} (n : Nat) (rec0 : (Int × Int) → Option Int) (t0 : List Pl) (t3 : List Spot) (t16 : List Int) (t17 : Int) (hrec0 : ∀ (a : (Int × Int)) (r : Int), rec0 a = some r → Wk Try.prog H Y 17 [.code (cp [1, 1, 1, 1, 0, 1, 0] (bodyOf Try.f17)), .blk 0, .code (cp [1, 1, 1, 1, 1] (bodyOf Try.f17))] (FinX Try.prog Try.f17 [] (i64 r) []) ⟨[(0, .sl false 4 t0.length ((ePl).f t0)), (3, .sl false 4 t3.length ((eSpot).f t3)), (4, i64 a.1), (16, .sl false 1 t16.length ((eInt).f t16)), (17, i64 t17), (18, i64 a.2)], []⟩) (t4 t18 : Int) (t39 : Bool) (r : Int) (h : Dimpl_FaceCount_0 n rec0 t0 t3 t16 t17 t4 t18 t39 = some r) : Wk Try.prog H Y 17 [.code (cp [1, 1, 1, 1, 0, 1, 0, 0, 1, 1, 0, 0, 1, 1, 1, 1] (bodyOf Try.f17)), .blk 1, .code (cp [1, 1, 1, 1, 0, 1, 0, 0, 1, 1, 1] (bodyOf Try.f17)), .lp (cp [1, 1, 1, 1, 0, 1, 0] (bodyOf Try.f17)), .blk 0, .code (cp [1, 1, 1, 1, 1] (bodyOf Try.f17))] (FinX Try.prog Try.f17 [] (i64 r) []) ⟨[(0, .sl false 4 t0.length ((ePl).f t0)), (3, .sl false 4 t3.length ((eSpot).f t3)), (4, i64 t4), (16, .sl false 1 t16.length ((eInt).f t16)), (17, i64 t17), (18, i64 t18), (39, bl t39)], []⟩ := by
  unfold Dimpl_FaceCount_0 at h
  refine x_frk 0 [] onil h (by kernel_rfl) (fun h => ?_) (fun h => ?_)
  · exact x_to 11 [] onil (hrec0 (w64 (t4 + 1), w64 (t18 + 1)) r h) (by kernel_rfl)
  · exact x_to 7 [] onil (hrec0 (t4, w64 (t18 + 1)) r h) (by kernel_rfl)
def Dimpl_FaceCount_1 (n : Nat) (rec0 : (Int × Int) → Option Int) (t0 : List Pl) (t3 : List Spot) (t16 : List Int) (t17 t4 t6 t18 t23 : Int) (rec1 : (Int × Int) → Option Int) (a : (Int × Int)) : Option Int :=
  match a with
  | (t7, t24) => frk (decide (t24 < t23)) ((lget t3 t24).bind fun v4 => (lget t0 t6).bind fun v5 => (Dimpl_sideAt v5 v4).bind fun v6 => frk (v6 == 0) (rec1 (w64 (t7 + 1), w64 (t24 + 1))) (rec1 (t7, w64 (t24 + 1)))) (Dimpl_FaceCount_0 n rec0 t0 t3 t16 t17 t4 t18 (decide (t7 ≥ 3)))
theorem Timpl_FaceCount_1 {Y} (n : Nat) (rec0 : (Int × Int) → Option Int) (t0 : List Pl) (t3 : List Spot) (t16 : List Int) (t17 : Int) (hrec0 : ∀ (a : (Int × Int)) (r : Int), rec0 a = some r → Wk Try.prog H Y 17 [.code (cp [1, 1, 1, 1, 0, 1, 0] (bodyOf Try.f17)), .blk 0, .code (cp [1, 1, 1, 1, 1] (bodyOf Try.f17))] (FinX Try.prog Try.f17 [] (i64 r) []) ⟨[(0, .sl false 4 t0.length ((ePl).f t0)), (3, .sl false 4 t3.length ((eSpot).f t3)), (4, i64 a.1), (16, .sl false 1 t16.length ((eInt).f t16)), (17, i64 t17), (18, i64 a.2)], []⟩) (t4 t6 t18 t23 : Int) : ∀ (m : Nat) (a : (Int × Int)) (r : Int), loopN (Dimpl_FaceCount_1 n rec0 t0 t3 t16 t17 t4 t6 t18 t23) m a = some r → Wk Try.prog H Y 17 [.code (cp [1, 1, 1, 1, 0, 1, 0, 0, 1, 1, 0, 0, 1, 1, 0, 1, 0] (bodyOf Try.f17)), .blk 2, .code (cp [1, 1, 1, 1, 0, 1, 0, 0, 1, 1, 0, 0, 1, 1, 1] (bodyOf Try.f17)), .blk 1, .code (cp [1, 1, 1, 1, 0, 1, 0, 0, 1, 1, 1] (bodyOf Try.f17)), .lp (cp [1, 1, 1, 1, 0, 1, 0] (bodyOf Try.f17)), .blk 0, .code (cp [1, 1, 1, 1, 1] (bodyOf Try.f17))] (FinX Try.prog Try.f17 [] (i64 r) []) ⟨[(0, .sl false 4 t0.length ((ePl).f t0)), (3, .sl false 4 t3.length ((eSpot).f t3)), (4, i64 t4), (6, i64 t6), (7, i64 a.1), (16, .sl false 1 t16.length ((eInt).f t16)), (17, i64 t17), (18, i64 t18), (22, .sl false 4 t3.length ((eSpot).f t3)), (23, i64 t23), (24, i64 a.2)], []⟩ := by
  refine loopN_ind (fun _rec1 hrec1 a r h => ?_)
  obtain ⟨t7, t24⟩ := a
  unfold Dimpl_FaceCount_1 at h
  refine x_frk 6 [] onil h (by kernel_rfl) (fun h => ?_) (fun h => ?_)
  · obtain ⟨v4, hv4, h⟩ := bind_some h
    obtain ⟨v5, hv5, h⟩ := bind_some h
    obtain ⟨v6, hv6, h⟩ := bind_some h
    refine x_frk 20 [(0, .val (.cptr (eSpot.c v4 ++ (eSpot).f ((t3).drop (Int.toNat t24 + 1))))), (5, .val (.cptr (ePl.c v5 ++ (ePl).f ((t0).drop (Int.toNat t6 + 1))))), (2, .call [] [] (i64 v6) [])] (ocons (ix eSpot hv4) (ocons (ix ePl hv5) (ocons (Timpl_sideAt (Y := Y) v5 v4 _ hv6) onil))) h (by kernel_rfl) (fun h => ?_) (fun h => ?_)
    · exact x_to 11 [] onil (hrec1 (w64 (t7 + 1), w64 (t24 + 1)) r h) (by kernel_rfl)
    · exact x_to 7 [] onil (hrec1 (t7, w64 (t24 + 1)) r h) (by kernel_rfl)
  · exact x_to 6 [] onil (Timpl_FaceCount_0 n rec0 t0 t3 t16 t17 hrec0 t4 t18 (decide (t7 ≥ 3)) r h) (by kernel_rfl)
def Dimpl_FaceCount_2 (n : Nat) (t0 : List Pl) (t3 : List Spot) (t16 : List Int) (t17 : Int) (rec0 : (Int × Int) → Option Int) (a : (Int × Int)) : Option Int :=
  match a with
  | (t4, t18) => frk (decide (t18 < t17)) ((lget t16 t18).bind fun v3 => loopN (Dimpl_FaceCount_1 n rec0 t0 t3 t16 t17 t4 v3 t18 (t3.length : Int)) n (0, 0)) (some t4)
theorem Timpl_FaceCount_2 {Y} (n : Nat) (t0 : List Pl) (t3 : List Spot) (t16 : List Int) (t17 : Int) : ∀ (m : Nat) (a : (Int × Int)) (r : Int), loopN (Dimpl_FaceCount_2 n t0 t3 t16 t17) m a = some r → Wk Try.prog H Y 17 [.code (cp [1, 1, 1, 1, 0, 1, 0] (bodyOf Try.f17)), .blk 0, .code (cp [1, 1, 1, 1, 1] (bodyOf Try.f17))] (FinX Try.prog Try.f17 [] (i64 r) []) ⟨[(0, .sl false 4 t0.length ((ePl).f t0)), (3, .sl false 4 t3.length ((eSpot).f t3)), (4, i64 a.1), (16, .sl false 1 t16.length ((eInt).f t16)), (17, i64 t17), (18, i64 a.2)], []⟩ := by
  refine loopN_ind (fun rec0 hrec0 a r h => ?_)
  obtain ⟨t4, t18⟩ := a
  unfold Dimpl_FaceCount_2 at h
  refine x_frk 6 [] onil h (by kernel_rfl) (fun h => ?_) (fun h => ?_)
  · obtain ⟨v3, hv3, h⟩ := bind_some h
    exact x_to 21 [(0, .val (.cptr (eInt.c v3 ++ (eInt).f ((t16).drop (Int.toNat t18 + 1)))))] (ocons (ix eInt hv3) onil) (Timpl_FaceCount_1 n rec0 t0 t3 t16 t17 hrec0 t4 v3 t18 (t3.length : Int) n (0, 0) r h) (by kernel_rfl)
  · replace h := Option.some.inj h; subst h
    exact x_end 6 [] [] onil onil (by kernel_rfl)
def Dimpl_FaceCount (n : Nat) (a0 : (List Pl)) : Option Int :=
  (Dimpl_Open n a0).bind fun v0 => frk (!v0) (some 0) ((Dimpl_corners n a0).bind fun v1 => (Dimpl_needed n a0).bind fun v2 => loopN (Dimpl_FaceCount_2 n a0 v1 v2 (v2.length : Int)) n (0, 0))
theorem Timpl_FaceCount {Y} (n : Nat) (a0 : (List Pl)) (r : Int) (h : Dimpl_FaceCount n a0 = some r) : Big Try.prog H Y (.call 17 [.sl false 4 a0.length ((ePl).f a0)] (lk []) (i64 r) (lk [])) := by
  unfold Dimpl_FaceCount at h
  refine x_call (fn := Try.f17) (c := bodyOf Try.f17) (bs0 := []) Try.func17 (by kernel_rfl) (by kernel_rfl) ?_
  obtain ⟨v0, hv0, h⟩ := bind_some h
  refine x_frk 11 [(2, .call [] [] (bl v0) [])] (ocons (Timpl_Open (Y := Y) n a0 _ hv0) onil) h (by kernel_rfl) (fun h => ?_) (fun h => ?_)
  · replace h := Option.some.inj h; subst h
    exact x_end 4 [] [] onil onil (by kernel_rfl)
  · obtain ⟨v1, hv1, h⟩ := bind_some h
    obtain ⟨v2, hv2, h⟩ := bind_some h
    exact x_to 20 [(1, .call [] [] (.sl false 4 v1.length ((eSpot).f v1)) []), (3, .call [] [] (.sl false 1 v2.length ((eInt).f v2)) [])] (ocons (shSl (L := v1) eSpot eSpot sSpot (Timpl_corners (Y := Y) n a0 _ hv1)) (ocons (shSl (L := v2) eInt eInt sInt (Timpl_needed (Y := Y) n a0 _ hv2)) onil)) (Timpl_FaceCount_2 n a0 v1 v2 (v2.length : Int) n (0, 0) r h) (by kernel_rfl)
/-! laws.eqPlane -/
def Dlaws_eqPlane (a0 : Pl) (a1 : Pl) : Option Bool :=
  frk (a0.A != a1.A) (some false) (frk (a0.B != a1.B) (some false) (frk (a0.C != a1.C) (some false) (frk (a0.D != a1.D) (some false) (some true))))
theorem Tlaws_eqPlane {Y} (a0 : Pl) (a1 : Pl) (r : Bool) (h : Dlaws_eqPlane a0 a1 = some r) : Big Try.prog H Y (.call 31 [.agg [i64 a0.A, i64 a0.B, i64 a0.C, i64 a0.D], .agg [i64 a1.A, i64 a1.B, i64 a1.C, i64 a1.D]] (lk []) (bl r) (lk [])) := by
  unfold Dlaws_eqPlane at h
  refine x_call (fn := Try.f31) (c := bodyOf Try.f31) (bs0 := []) Try.func31 (by kernel_rfl) (by kernel_rfl) ?_
  refine x_frk 15 [] onil h (by kernel_rfl) (fun h => ?_) (fun h => ?_)
  · replace h := Option.some.inj h; subst h
    exact x_end 4 [] [] onil onil (by kernel_rfl)
  · refine x_frk 10 [] onil h (by kernel_rfl) (fun h => ?_) (fun h => ?_)
    · replace h := Option.some.inj h; subst h
      exact x_end 4 [] [] onil onil (by kernel_rfl)
    · refine x_frk 10 [] onil h (by kernel_rfl) (fun h => ?_) (fun h => ?_)
      · replace h := Option.some.inj h; subst h
        exact x_end 4 [] [] onil onil (by kernel_rfl)
      · refine x_frk 10 [] onil h (by kernel_rfl) (fun h => ?_) (fun h => ?_)
        · replace h := Option.some.inj h; subst h
          exact x_end 4 [] [] onil onil (by kernel_rfl)
        · replace h := Option.some.inj h; subst h
          exact x_end 5 [] [] onil onil (by kernel_rfl)
/-! laws.eqPlaneS -/
def Dlaws_eqPlaneS_0 (_n : Nat) (t0 : List Pl) (t1 : List Pl) (rec0 : Int → Option Bool) (a : Int) : Option Bool :=
  match a with
  | t5 => frk (decide (t5 < (t0.length : Int))) ((lget t0 t5).bind fun v0 => (lget t1 t5).bind fun v1 => (Dlaws_eqPlane v0 v1).bind fun v2 => frk (!v2) (some false) (rec0 (w64 (t5 + 1)))) (some true)
theorem Tlaws_eqPlaneS_0 {Y} (n : Nat) (t0 : List Pl) (t1 : List Pl) : ∀ (m : Nat) (a : Int) (r : Bool), loopN (Dlaws_eqPlaneS_0 n t0 t1) m a = some r → Wk Try.prog H Y 18 [.code (cp [1, 1, 0, 1, 0] (bodyOf Try.f18)), .blk 0, .code (cp [1, 1, 1] (bodyOf Try.f18))] (FinX Try.prog Try.f18 [] (bl r) []) ⟨[(0, .sl false 4 t0.length ((ePl).f t0)), (1, .sl false 4 t1.length ((ePl).f t1)), (5, i64 a)], []⟩ := by
  refine loopN_ind (fun _rec0 hrec0 a r h => ?_)
  obtain ⟨t5, rfl⟩ : ∃ x, x = a := ⟨a, rfl⟩
  unfold Dlaws_eqPlaneS_0 at h
  refine x_frk 9 [] onil h (by kernel_rfl) (fun h => ?_) (fun h => ?_)
  · obtain ⟨v0, hv0, h⟩ := bind_some h
    obtain ⟨v1, hv1, h⟩ := bind_some h
    obtain ⟨v2, hv2, h⟩ := bind_some h
    refine x_frk 16 [(2, .val (.cptr (ePl.c v0 ++ (ePl).f ((t0).drop (Int.toNat t5 + 1))))), (3, .val (.cptr (ePl.c v1 ++ (ePl).f ((t1).drop (Int.toNat t5 + 1))))), (1, .call [] [] (bl v2) [])] (ocons (ix ePl hv0) (ocons (ix ePl hv1) (ocons (Tlaws_eqPlane (Y := Y) v0 v1 _ hv2) onil))) h (by kernel_rfl) (fun h => ?_) (fun h => ?_)
    · replace h := Option.some.inj h; subst h
      exact x_end 4 [] [] onil onil (by kernel_rfl)
    · exact x_to 8 [] onil (hrec0 (w64 (t5 + 1)) r h) (by kernel_rfl)
  · replace h := Option.some.inj h; subst h
    exact x_end 5 [] [] onil onil (by kernel_rfl)
def Dlaws_eqPlaneS (n : Nat) (a0 : (List Pl)) (a1 : (List Pl)) : Option Bool :=
  frk ((a0.length : Int) != (a1.length : Int)) (some false) (loopN (Dlaws_eqPlaneS_0 n a0 a1) n 0)
theorem Tlaws_eqPlaneS {Y} (n : Nat) (a0 : (List Pl)) (a1 : (List Pl)) (r : Bool) (h : Dlaws_eqPlaneS n a0 a1 = some r) : Big Try.prog H Y (.call 18 [.sl false 4 a0.length ((ePl).f a0), .sl false 4 a1.length ((ePl).f a1)] (lk []) (bl r) (lk [])) := by
  unfold Dlaws_eqPlaneS at h
  refine x_call (fn := Try.f18) (c := bodyOf Try.f18) (bs0 := []) Try.func18 (by kernel_rfl) (by kernel_rfl) ?_
  refine x_frk 13 [] onil h (by kernel_rfl) (fun h => ?_) (fun h => ?_)
  · replace h := Option.some.inj h; subst h
    exact x_end 4 [] [] onil onil (by kernel_rfl)
  · exact x_to 7 [] onil (Tlaws_eqPlaneS_0 n a0 a1 n 0 r h) (by kernel_rfl)
/-! laws.FnExactFaceCount -/
def Dlaws_FnExactFaceCount (n : Nat) (a0 : (List Pl)) : Option Bool :=
  (Dlaws_szPlaneS a0 1048576).bind fun v0 => frk (decide (v0 < 0)) (some true) ((Dlaws_toPlaneS n a0).bind fun v1 => (Dspec_FaceCount n v1).bind fun v2 => (Dlaws_toPlaneS n a0).bind fun v3 => (Dimpl_FaceCount n v3).bind fun v4 => frk (v4 != v2) (some false) ((Dlaws_toPlaneS n a0).bind fun v5 => (Dlaws_eqPlaneS n v3 v5).bind fun v6 => frk (!v6) (some false) (some true)))
theorem Tlaws_FnExactFaceCount {Y} (n : Nat) (a0 : (List Pl)) (r : Bool) (h : Dlaws_FnExactFaceCount n a0 = some r) : Big Try.prog H Y (.call 5 [.sl false 4 a0.length ((ePl).f a0)] (lk []) (bl r) (lk [])) := by
  unfold Dlaws_FnExactFaceCount at h
  refine x_call (fn := Try.f5) (c := bodyOf Try.f5) (bs0 := []) Try.func5 (by kernel_rfl) (by kernel_rfl) ?_
  obtain ⟨v0, hv0, h⟩ := bind_some h
  refine x_frk 21 [(4, .call [] [] (i64 v0) [])] (ocons (Tlaws_szPlaneS (Y := Y) a0 1048576 _ hv0) onil) h (by kernel_rfl) (fun h => ?_) (fun h => ?_)
  · replace h := Option.some.inj h; subst h
    exact x_end 4 [] [] onil onil (by kernel_rfl)
  · obtain ⟨v1, hv1, h⟩ := bind_some h
    obtain ⟨v2, hv2, h⟩ := bind_some h
    obtain ⟨v3, hv3, h⟩ := bind_some h
    obtain ⟨v4, hv4, h⟩ := bind_some h
    refine x_frk 27 [(1, .call [] [] (.sl false 4 v1.length ((ePl).f v1)) []), (0, .call [] [] (i64 v2) []), (2, .call [] [] (.sl false 4 v3.length ((ePl).f v3)) []), (2, .call [] [] (i64 v4) [])] (ocons (shSl (L := v1) ePl ePl sPl (Tlaws_toPlaneS (Y := Y) n a0 _ hv1)) (ocons (Tspec_FaceCount (Y := Y) n v1 _ hv2) (ocons (shSl (L := v3) ePl ePl sPl (Tlaws_toPlaneS (Y := Y) n a0 _ hv3)) (ocons (Timpl_FaceCount (Y := Y) n v3 _ hv4) onil)))) h (by kernel_rfl) (fun h => ?_) (fun h => ?_)
    · replace h := Option.some.inj h; subst h
      exact x_end 4 [] [] onil onil (by kernel_rfl)
    · obtain ⟨v5, hv5, h⟩ := bind_some h
      obtain ⟨v6, hv6, h⟩ := bind_some h
      refine x_frk 10 [(2, .call [] [] (.sl false 4 v5.length ((ePl).f v5)) []), (0, .call [] [] (bl v6) [])] (ocons (shSl (L := v5) ePl ePl sPl (Tlaws_toPlaneS (Y := Y) n a0 _ hv5)) (ocons (Tlaws_eqPlaneS (Y := Y) n v3 v5 _ hv6) onil)) h (by kernel_rfl) (fun h => ?_) (fun h => ?_)
      · replace h := Option.some.inj h; subst h
        exact x_end 4 [] [] onil onil (by kernel_rfl)
      · replace h := Option.some.inj h; subst h
        exact x_end 5 [] [] onil onil (by kernel_rfl)
end Evl.T
