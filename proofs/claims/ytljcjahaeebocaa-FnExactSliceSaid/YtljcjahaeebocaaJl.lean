/- Texts that belong together, joined. No condition. -/
import Derived.Test.YtljcjahaeebocaaJp
import Derived.Test.YtljcjahaeebocaaJm
/-! Egv -/
namespace Evl.T
open Go Evl

/-- A tree that forks in two. -/
inductive Fk : Sol → Prop
  | leaf {i p} : Fk (.mk i p [])
  | node {i p a b} : Fk a → Fk b → Fk (.mk i p [a, b])
theorem Rt.fk {s : Sol} {l : List Pl} (h : Rt s l) : Fk s := by
  induction h with
  | leaf _ => exact .leaf
  | node _ _ _ _ _ _ iha ihb => exact .node iha ihb

def sd (a0 : Pl) (a1 : Spot) : Int := sgn (w64 ((w64 ((w64 ((w64 (a0.A * a1.X)) + (w64 (a0.B * a1.Y)))) + (w64 (a0.C * a1.Z)))) + (w64 (a0.D * a1.W))))
theorem sSide (p : Pl) (q : Spot) : Dspec_l5Side p q = some (sd p q) := by unfold Dspec_l5Side; rw [sSign]; rfl
theorem iSide (p : Pl) (q : Spot) : Dimpl_sideAt p q = some (sd p q) := by unfold Dimpl_sideAt; rw [iSign]; rfl
theorem ptEta (q : Spot) : Spot.mk q.X q.Y q.Z q.W = q := rfl
/-- Around of a node. -/
def arN (s : Int) (a b : Int × Int) : Int × Int :=
  let u := if s ≥ 0 then a else (0, 0)
  if s ≤ 0 then (w64 (u.1 + b.1), w64 (u.2 + b.2)) else u
theorem sAroundN (n m : Nat) (i : Bool) (p : Pl) (x y : Sol) (q : Spot) {a b : Int × Int} (ha : loopN (Dspec_l10Around_b n) m (x, q) = some a) (hb : loopN (Dspec_l10Around_b n) m (y, q) = some b) :
    loopN (Dspec_l10Around_b n) (m + 1) (.mk i p [x, y], q) = some (arN (sd p q) a b) := by
  rw [loop_suc]
  simp only [Dspec_l10Around_b, Dspec_l10Around_0, Dspec_l8Leaf, Sol.kids, Sol.pl, Sol.inn, Option.bind_some, sSide, lget_zero, lget_one, pl_eq, ptEta, List.getElem?_cons_zero, List.getElem?_cons_succ, ha, hb]
  have e0 : ((([x, y] : List Sol).length : Int) == 0) = false := rfl
  rw [e0, frk_f]
  unfold arN
  by_cases h1 : sd p q ≥ 0
  · rw [decide_eq_true h1, frk_t, if_pos h1]
    by_cases h2 : sd p q ≤ 0
    · rw [decide_eq_true h2, frk_t, if_pos h2]
    · rw [decide_eq_false h2, frk_f, if_neg h2]
  · rw [decide_eq_false h1, frk_f, if_neg h1]
    by_cases h2 : sd p q ≤ 0
    · rw [decide_eq_true h2, frk_t, if_pos h2]
    · rw [decide_eq_false h2, frk_f, if_neg h2]
theorem iAroundN (n m : Nat) (i : Bool) (p : Pl) (x y : Sol) (q : Spot) {a b : Int × Int} (ha : loopN (Dimpl_Solid_around_b n) m (x, q) = some a) (hb : loopN (Dimpl_Solid_around_b n) m (y, q) = some b) :
    loopN (Dimpl_Solid_around_b n) (m + 1) (.mk i p [x, y], q) = some (arN (sd p q) a b) := by
  rw [loop_suc]
  simp only [Dimpl_Solid_around_b, Dimpl_Solid_around_0, Dimpl_Solid_isLeaf, Sol.kids, Sol.pl, Sol.inn, Option.bind_some, iSide, lget_zero, lget_one, pl_eq, ptEta, List.getElem?_cons_zero, List.getElem?_cons_succ, ha, hb]
  have e0 : ((([x, y] : List Sol).length : Int) == 0) = false := rfl
  rw [e0, frk_f]
  unfold arN
  by_cases h1 : sd p q ≥ 0
  · rw [decide_eq_true h1, frk_t, if_pos h1]
    by_cases h2 : sd p q ≤ 0
    · rw [decide_eq_true h2, frk_t, if_pos h2]
    · rw [decide_eq_false h2, frk_f, if_neg h2]
  · rw [decide_eq_false h1, frk_f, if_neg h1]
    by_cases h2 : sd p q ≤ 0
    · rw [decide_eq_true h2, frk_t, if_pos h2]
    · rw [decide_eq_false h2, frk_f, if_neg h2]
theorem aroundOk {s : Sol} (h : Fk s) : ∃ f : Spot → Int × Int, E2 fun n m => ∀ q, loopN (Dspec_l10Around_b n) m (s, q) = some (f q) ∧ loopN (Dimpl_Solid_around_b n) m (s, q) = some (f q) := by
  induction h with
  | @leaf i p =>
    refine ⟨fun _ => if i then (1, 0) else (0, 1), E2.suc (E2.of fun n m q => ⟨?_, ?_⟩)⟩
    · rw [loop_suc]; cases i <;> rfl
    · rw [loop_suc]; cases i <;> rfl
  | @node i p a b _ _ iha ihb =>
    obtain ⟨f, h1⟩ := iha
    obtain ⟨g, h2⟩ := ihb
    exact ⟨fun q => arN (sd p q) (f q) (g q), E2.suc ((h1.and h2).mono fun n m ⟨h1, h2⟩ q => ⟨sAroundN n m i p a b q (h1 q).1 (h2 q).1, iAroundN n m i p a b q (h1 q).2 (h2 q).2⟩)⟩
def wh (v : Int × Int) : Int := if v.1 = 0 then -1 else if v.2 = 0 then 1 else 0
theorem sWh (v : Int × Int) : Dspec_l10Where v.1 v.2 = some (wh v) := by
  unfold Dspec_l10Where wh
  by_cases h : v.1 = 0
  · rw [if_pos h, show (v.1 == 0) = true by simp [h], frk_t]
  · rw [if_neg h, show (v.1 == 0) = false by simp [h], frk_f]
    by_cases h2 : v.2 = 0
    · rw [if_pos h2, show (v.2 == 0) = true by simp [h2], frk_t]
    · rw [if_neg h2, show (v.2 == 0) = false by simp [h2], frk_f]
theorem iWh (v : Int × Int) : Dimpl_where v.1 v.2 = some (wh v) := sWh v

/-! points -/
def ptB (p : Pt) : Bool := rIn p.X (-1000000) 1000000 && (rIn p.Y (-1000000) 1000000 && rIn p.Z (-1000000) 1000000)
theorem sPtOk (p : Pt) : Dspec_PtOk p = some (ptB p) := by
  unfold Dspec_PtOk ptB
  simp only [sIn, Option.bind_some]
  cases rIn p.X (-1000000) 1000000 <;> cases rIn p.Y (-1000000) 1000000 <;> rfl
theorem iPtOk (p : Pt) : Dimpl_PtOk p = some (ptB p) := by
  unfold Dimpl_PtOk ptB
  simp only [iIn, Option.bind_some]
  cases rIn p.X (-1000000) 1000000 <;> cases rIn p.Y (-1000000) 1000000 <;> rfl
def In6 (x : Int) : Prop := -1000000 ≤ x ∧ x ≤ 1000000
theorem ptB_iff (p : Pt) : ptB p = true ↔ In6 p.X ∧ In6 p.Y ∧ In6 p.Z := by
  unfold ptB In6; simp only [Bool.and_eq_true, rIn_iff]
theorem In6.B {x : Int} (h : In6 x) : B 9223372036854775807 x := by unfold In6 at h; exact Evl.T.B.of (by omega) (by omega)
theorem In6.lt {x : Int} (h : In6 x) : x.natAbs < 1000002 := by unfold In6 at h; omega
theorem sSpot (n : Nat) (x y z : Int) (hx : In6 x) (hy : In6 y) (hz : In6 z) (hn : 1000002 ≤ n) : Dspec_l5Spot n x y z 1 = some ⟨x, y, z, 1⟩ := by
  have h1 : B 9223372036854775807 (1 : Int) := Evl.T.B.of (by decide) (by decide)
  have g1 : (Nat.gcd x.natAbs y.natAbs) ≤ 1000001 ∨ y.natAbs = 0 := by
    rcases Nat.eq_zero_or_pos y.natAbs with h | h
    · exact .inr h
    · have := Nat.gcd_le_right x.natAbs h; have := hy.lt; exact .inl (by omega)
  have hg : B 9223372036854775807 ((Nat.gcd x.natAbs y.natAbs : Nat) : Int) := by
    rcases g1 with h | h
    · exact Evl.T.B.of (by omega) (by omega)
    · rw [h, Nat.gcd_zero_right]; have := hx.lt; exact Evl.T.B.of (by omega) (by omega)
  unfold Dspec_l5Spot
  rw [sGcd n x y hx.B hy.B (by have := hy.lt; omega), Option.bind_some, sGcd n z 1 hz.B h1 (by simp; omega), Option.bind_some]
  have e1 : ((Nat.gcd z.natAbs (1 : Int).natAbs : Nat) : Int) = 1 := by rw [show (1 : Int).natAbs = 1 from rfl, Nat.gcd_one_right]; rfl
  rw [e1, sGcd n _ _ hg h1 (by simp; omega), Option.bind_some]
  have e2 : ((Nat.gcd ((Nat.gcd x.natAbs y.natAbs : Nat) : Int).natAbs (1 : Int).natAbs : Nat) : Int) = 1 := by
    rw [show (1 : Int).natAbs = 1 from rfl, Nat.gcd_one_right]; rfl
  rw [e2, show decide ((1 : Int) < 0) = false from rfl, frk_f]
  unfold Dspec_l5Spot_0
  have q : ∀ v : Int, In6 v → qt .i64 v 1 = some v := fun v hv => by
    unfold qt
    rw [if_neg (by decide), Int.tdiv_one]
    have := w64_id (x := v) (by unfold In6 at hv; omega) (by unfold In6 at hv; omega)
    exact congrArg some this
  rw [q x hx, Option.bind_some, q y hy, Option.bind_some, q z hz, Option.bind_some, q 1 (by unfold In6; omega), Option.bind_some]
/-- The frame of a law on a solid. -/
theorem oneSol (a : Sol) (ha : Lens a) (L : Nat → Option Bool)
    (h1 : Ev fun n => Dlaws_szSolid n a 1048576 = some (-1) → L n = some true)
    (h2 : (tot a : Int) ≤ 1048576 → Ev fun n => Dlaws_szSolid n a 1048576 = some (1048576 - (tot a : Int)) → Dlaws_toSolid n a = some a → Dlaws_eqSolid n a a = some true → L n = some true) : ∃ n, L n = some true := by
  have e1 := sz a ha
  by_cases ht : (tot a : Int) ≤ 1048576
  · obtain ⟨N, hN⟩ := ((h2 ht).and (e1.and ((to a (by omega)).and (eqs a (by omega)))))
    obtain ⟨k0, k1, k2, k3⟩ := hN N (Nat.le_refl N)
    rw [szv_yes ht] at k1
    exact ⟨N, k0 k1 k2 k3⟩
  · obtain ⟨N, hN⟩ := (h1.and e1)
    obtain ⟨k0, k1⟩ := hN N (Nat.le_refl N)
    rw [szv_no ht] at k1
    exact ⟨N, k0 k1⟩
theorem toPtEq (p : Pt) : Dlaws_toPt p = some p := rfl
theorem In6.mid {lo hi x : Int} (h : In6 lo ∧ In6 hi) (h1 : lo ≤ x) (h2 : x ≤ hi) : In6 x := by unfold In6 at *; omega
theorem w64_in {x : Int} (h : In6 x) : w64 (x + 1) = x + 1 := w64_id (by unfold In6 at h; omega) (by unfold In6 at h; omega)

def wyB (lo hi : Int) : Bool := decide (lo ≤ hi) && decide (hi - lo < 16)
theorem sWay {lo hi : Int} (h1 : In6 lo) (h2 : In6 hi) : Dspec_l17Way lo hi = some (wyB lo hi) := by
  unfold Dspec_l17Way wyB
  rw [w64_id (by unfold In6 at *; omega) (by unfold In6 at *; omega)]
  by_cases h : lo ≤ hi
  · rw [decide_eq_true h, frk_t]; rfl
  · rw [decide_eq_false h, frk_f]; rfl
theorem iWay {lo hi : Int} (h1 : In6 lo) (h2 : In6 hi) : Dimpl_isGridWay lo hi = some (wyB lo hi) := by
  unfold Dimpl_isGridWay wyB
  rw [w64_id (by unfold In6 at *; omega) (by unfold In6 at *; omega), iIn, Option.bind_some]
  congr 1
  rw [Bool.eq_iff_iff, rIn_iff, Bool.and_eq_true, decide_eq_true_iff, decide_eq_true_iff]
  omega
end Evl.T

/-! Egw -/
namespace Evl.T
open Go Evl

def chI (c : Int) : Int := if c = 1 then 35 else if c = 0 then 43 else 46
def lineI (g : Int → Int → Int) (y : Int) : Nat → Int → List Int
  | 0, _ => []
  | k + 1, x => chI (g x y) :: lineI g y k (x + 1)
def gridI (g : Int → Int → Int) (lx : Int) (kx : Nat) : Nat → Int → List Int
  | 0, _ => []
  | k + 1, y => lineI g y kx lx ++ 10 :: gridI g lx kx k (y - 1)
theorem lineI_len (g : Int → Int → Int) (y : Int) : ∀ (k : Nat) (x : Int), (lineI g y k x).length = k
  | 0, _ => rfl
  | k + 1, x => by simp [lineI, lineI_len g y k]
theorem apB1 {k : Nat} (h : k ≤ 1000) : apB 1 k = true := by
  unfold apB
  rw [Bool.and_eq_true, decide_eq_true_eq, decide_eq_true_eq]; omega

section
variable {n : Nat} {s : Sol} {z ly lx hy hx : Int} {g : Int → Int → Int} {lz hz : Int}
/-! the reference -/
theorem sSl2 (hA : ∀ x y, In6 x → In6 y → Dspec_l17At n s x y z = some (g x y)) (rec0 : Int × Int × List Int → Option ByteArray) (y : Int) (hy6 : In6 y) (h6 : In6 hx) : ∀ (k m : Nat) (x : Int) (l : List Int), k + 1 ≤ m → x + k = hx + 1 → -1000000 ≤ x → l.length + k ≤ 900 →
    loopN (Dspec_Slice_2 n rec0 z s.inn s.pl.A s.pl.B s.pl.C s.pl.D s.kids ly lz hx hy hz y lx) m (x, l) = Dspec_Slice_1 n rec0 z s.inn s.pl.A s.pl.B s.pl.C s.pl.D s.kids ly lz hx hy hz y lx (l ++ lineI g y k x)
  | k, 0, _, _, hm, _, _, _ => absurd hm (by omega)
  | 0, m + 1, x, l, _, hk, _, _ => by
    show frk (decide (x ≤ hx)) _ (Dspec_Slice_1 ..) = _
    rw [decide_eq_false (by omega), frk_f]
    simp [lineI]
  | k + 1, m + 1, x, l, hm, hk, hx0, hl => by
    have hx6 : In6 x := by unfold In6 at *; omega
    have ih := fun (c : Int) => sSl2 hA rec0 y hy6 h6 k m (x + 1) (l ++ [c]) (by omega) (by omega) (by omega) (by simp; omega)
    show frk (decide (x ≤ hx)) _ (Dspec_Slice_1 ..) = _
    rw [decide_eq_true (by omega), frk_t, sol_eq', hA x y hx6 hy6, Option.bind_some, w64_in hx6, apB1 (by omega), chk_t, chk_t, chk_t]
    simp only [ih, List.append_assoc, List.singleton_append]
    show _ = Dspec_Slice_1 n rec0 z s.inn s.pl.A s.pl.B s.pl.C s.pl.D s.kids ly lz hx hy hz y lx (l ++ chI (g x y) :: lineI g y k (x + 1))
    unfold chI
    by_cases h1 : g x y = 1
    · rw [h1]; rfl
    · by_cases h0 : g x y = 0
      · rw [h0]; rfl
      · rw [beq_eq_false_iff_ne.2 h1, beq_eq_false_iff_ne.2 h0, frk_f, frk_f, if_neg h1, if_neg h0]
theorem sSl4 (hA : ∀ x y, In6 x → In6 y → Dspec_l17At n s x y z = some (g x y)) (kx : Nat) (hkx : lx + kx = hx + 1) (h16 : kx ≤ 16) (hl6 : In6 lx) (h6 : In6 hx) (hn : 20 ≤ n) (hly : In6 ly) : ∀ (k m : Nat) (y : Int) (l : List Int), k + 1 ≤ m → y = ly + k - 1 → y ≤ 1000000 → l.length + 17 * k ≤ 300 →
    loopN (Dspec_Slice_4 n z s.inn s.pl.A s.pl.B s.pl.C s.pl.D s.kids ly lz hx hy hz) m (y, lx, l) = some (strOfNums (l ++ gridI g lx kx k y))
  | k, 0, _, _, hm, _, _, _ => absurd hm (by omega)
  | 0, m + 1, y, l, _, hk, _, _ => by
    show frk (decide (y ≥ ly)) _ (Dspec_Slice_3 n l) = _
    rw [decide_eq_false (by omega), frk_f]
    simp [Dspec_Slice_3, gridI]
  | k + 1, m + 1, y, l, hm, hk, hy1, hl => by
    have hy6 : In6 y := by unfold In6 at *; omega
    have hw : w64 (y - 1) = y - 1 := w64_id (by unfold In6 at hy6; omega) (by unfold In6 at hy6; omega)
    show frk (decide (y ≥ ly)) _ _ = _
    rw [decide_eq_true (by omega), frk_t, sSl2 hA _ y hy6 h6 kx n lx l (by omega) hkx (by unfold In6 at hl6; omega) (by omega)]
    unfold Dspec_Slice_1
    have hlen : (l ++ lineI g y kx lx).length = l.length + kx := by rw [List.length_append, lineI_len]
    rw [hlen, apB1 (by omega), chk_t, hw, sSl4 hA kx hkx h16 hl6 h6 hn hly k m (y - 1) _ (by omega) (by omega) (by omega) (by simp [lineI_len]; omega)]
    simp [gridI]
end

/-! the program -/
def u8s (l : List Int) : List UInt8 := l.map fun n => UInt8.ofNat n.toNat
theorem line_eq {W : Int → Int → Option Int} {g : Int → Int → Int} {y : Int} (hy : In6 y) (hA : ∀ x y, In6 x → In6 y → W x y = some (g x y)) : ∀ (k : Nat) (x : Int), -1000000 ≤ x → x + k ≤ 1000001 → sLine W y k x = some (u8s (lineI g y k x))
  | 0, _, _, _ => rfl
  | k + 1, x, h1, h2 => by
    have hx6 : In6 x := by unfold In6; omega
    simp only [sLine, hA x y hx6 hy, line_eq hy hA k (x + 1) (by omega) (by omega), Option.bind_some, lineI, u8s, List.map_cons]
    congr 2
    unfold chW chI
    by_cases h1 : g x y = 1
    · rw [h1]; rfl
    · by_cases h0 : g x y = 0
      · rw [h0]; rfl
      · rw [if_neg h1, if_neg h0, if_neg h1, if_neg h0]; rfl
theorem grid_eq {W : Int → Int → Option Int} {g : Int → Int → Int} {lx : Int} {kx : Nat} (hA : ∀ x y, In6 x → In6 y → W x y = some (g x y)) (h1 : -1000000 ≤ lx) (h2 : lx + kx ≤ 1000001) : ∀ (k : Nat) (y : Int), y ≤ 1000000 → -1000001 + (k : Int) ≤ y → sGrid W lx kx k y = some (u8s (gridI g lx kx k y))
  | 0, _, _, _ => rfl
  | k + 1, y, h3, h4 => by
    have hy6 : In6 y := by unfold In6; omega
    simp only [sGrid, line_eq hy6 hA kx lx h1 h2, grid_eq hA h1 h2 k (y - 1) (by omega) (by omega), Option.bind_some, gridI, u8s, List.map_append, List.map_cons]
    rfl

theorem pt_eta (p : Pt) (z : Int) : (Pt.mk p.X p.Y z).X = p.X ∧ (Pt.mk p.X p.Y z).Y = p.Y ∧ (Pt.mk p.X p.Y z).Z = z := ⟨rfl, rfl, rfl⟩
theorem wyB_refl (z : Int) : wyB z z = true := by unfold wyB; simp
/-- What is shown. -/
def slV (g : Int → Int → Int) (lo hi : Pt) : ByteArray := ⟨(u8s (gridI g lo.X (hi.X - lo.X + 1).toNat (hi.Y - lo.Y + 1).toNat hi.Y)).toArray⟩
open Classical in
/-- A slice, on both sides: what it shows where it shows anything; nothing else. -/
theorem sliceAll (s : Sol) (h : Lens s) (z : Int) (lo hi : Pt) : ∃ v, (Ev fun n => Dspec_Slice n s z lo hi = some v ∧ Dimpl_Slice n s z lo hi = some v) ∧
    (Right s → ∃ g : Int → Int → Int → Int, (Ev fun n => ∀ x y z, In6 x → In6 y → In6 z → Dimpl_Solid_whereOf n s ⟨x, y, z⟩ = some (g x y z)) ∧ (ptB ⟨lo.X, lo.Y, z⟩ = true → ptB ⟨hi.X, hi.Y, z⟩ = true → (wyB lo.X hi.X && wyB lo.Y hi.Y) = true → v = slV (fun x y => g x y z) lo hi)) := by
  have e1 := sSolidOk s h; have e2 := iSolidOk s
  have hN : Ev fun n => 1000002 ≤ n := ⟨_, fun n hn => hn⟩
  by_cases hr : Right s
  · obtain ⟨f, hf⟩ := aroundOk hr.1.fk
    let g : Int → Int → Int → Int := fun x y z => wh (f ⟨x, y, z, 1⟩)
    have hI : Ev fun n => ∀ x y z, In6 x → In6 y → In6 z → Dimpl_Solid_whereOf n s ⟨x, y, z⟩ = some (g x y z) := hf.ev.mono fun n k4 x y z hx hy hz => by
      unfold Dimpl_Solid_whereOf Dimpl_spotAt Dimpl_Solid_around
      rw [Option.bind_some, (k4 _).2, Option.bind_some, iWh]; rfl
    have hS : Ev fun n => ∀ x y z, In6 x → In6 y → In6 z → Dspec_l17At n s x y z = some (g x y z) := (hf.ev.and hN).mono fun n ⟨k4, k3⟩ x y z hx hy hz => by
      unfold Dspec_l17At Dspec_l10Around
      rw [sSpot n x y z hx hy hz k3, Option.bind_some, (k4 _).1, Option.bind_some, sWh]; rfl
    by_cases hl : ptB ⟨lo.X, lo.Y, z⟩ = true
    · by_cases hh : ptB ⟨hi.X, hi.Y, z⟩ = true
      · obtain ⟨l1, l2, l3⟩ := (ptB_iff _).1 hl
        obtain ⟨h1, h2, h3⟩ := (ptB_iff _).1 hh
        simp only at l1 l2 l3 h1 h2 h3
        by_cases hw : (wyB lo.X hi.X && wyB lo.Y hi.Y) = true
        · have hw' := hw
          simp only [Bool.and_eq_true] at hw'
          obtain ⟨w1, w2⟩ := hw'
          have u1 := w1; have u2 := w2
          unfold wyB at u1 u2
          simp only [Bool.and_eq_true, decide_eq_true_eq] at u1 u2
          refine ⟨slV (fun x y => g x y z) lo hi, (e1.and (e2.and (hN.and (hI.and hS)))).mono fun n ⟨k1, k2, k3, k4, k5⟩ => ⟨?_, ?_⟩, fun _ => ⟨g, hI, fun _ _ _ => rfl⟩⟩
          · unfold Dspec_Slice Dspec_Slice_0
            simp only [sPtOk, hl, hh, Option.bind_some, sWay l1 h1, sWay l2 h2, w1, w2, Bool.not_true, frk_f, k1, decide_eq_true hr]
            rw [sSl4 (g := fun x y => g x y z) (fun x y hx hy => k5 x y z hx hy l3) (hi.X - lo.X + 1).toNat (by omega) (by omega) l1 h1 (by omega) l2 (hi.Y - lo.Y + 1).toNat n hi.Y [] (by omega) (by omega) (by unfold In6 at h2; omega) (by simp; omega)]
            rfl
          · unfold Dimpl_Slice Dimpl_isGrid sliceD
            simp only [iPtOk, hl, hh, Option.bind_some, frk_t, iWay l1 h1, iWay l2 h2, iWay l3 h3, w1, w2, wyB_refl, k2, decide_eq_true hr, Bool.true_eq_false, if_false]
            have q1 : wayOk lo.X hi.X = true := by unfold wayOk In6 at *; simp only [Bool.and_eq_true, decide_eq_true_eq]; omega
            have q2 : wayOk lo.Y hi.Y = true := by unfold wayOk In6 at *; simp only [Bool.and_eq_true, decide_eq_true_eq]; omega
            rw [q1, q2, Bool.and_self, if_pos rfl, grid_eq (g := fun x y => g x y z) (fun x y hx hy => k4 x y z hx hy l3) l1.1 (by unfold In6 at h1; omega) _ _ h2.2 (by unfold In6 at l2; omega)]
            rfl
        · refine ⟨⟨#[]⟩, (e1.and e2).mono fun n ⟨k1, k2⟩ => ⟨?_, ?_⟩, fun _ => ⟨g, hI, fun _ _ hw' => absurd hw' hw⟩⟩
          · unfold Dspec_Slice Dspec_Slice_0
            simp only [sPtOk, hl, hh, Option.bind_some, sWay l1 h1, sWay l2 h2, k1, decide_eq_true hr]
            revert hw
            cases wyB lo.X hi.X <;> cases wyB lo.Y hi.Y <;> intro hw <;> first | rfl | exact absurd rfl hw
          · unfold Dimpl_Slice Dimpl_isGrid sliceD
            simp only [iPtOk, hl, hh, Option.bind_some, frk_t, iWay l1 h1, iWay l2 h2, iWay l3 h3, wyB_refl]
            revert hw
            cases wyB lo.X hi.X <;> cases wyB lo.Y hi.Y <;> intro hw <;> first | rfl | exact absurd rfl hw
      · refine ⟨⟨#[]⟩, (e1.and e2).mono fun n ⟨k1, k2⟩ => ⟨?_, ?_⟩, fun _ => ⟨g, hI, fun _ hh' => absurd hh' hh⟩⟩
        · rw [Bool.not_eq_true] at hh
          unfold Dspec_Slice
          simp only [sPtOk, hl, hh, Option.bind_some, k1]
          cases decide (Right s) <;> rfl
        · rw [Bool.not_eq_true] at hh
          unfold Dimpl_Slice Dimpl_isGrid sliceD
          simp only [iPtOk, hl, hh, Option.bind_some, frk_t, frk_f]; rfl
    · refine ⟨⟨#[]⟩, (e1.and e2).mono fun n ⟨k1, k2⟩ => ⟨?_, ?_⟩, fun _ => ⟨g, hI, fun hl' => absurd hl' hl⟩⟩
      · rw [Bool.not_eq_true] at hl
        unfold Dspec_Slice
        simp only [sPtOk, hl, Option.bind_some, k1]
        cases decide (Right s) <;> rfl
      · rw [Bool.not_eq_true] at hl
        unfold Dimpl_Slice Dimpl_isGrid sliceD
        simp only [iPtOk, hl, Option.bind_some, frk_f]; rfl
  · refine ⟨⟨#[]⟩, (e1.and e2).mono fun n ⟨k1, k2⟩ => ⟨?_, ?_⟩, fun hr' => absurd hr' hr⟩
    · unfold Dspec_Slice; simp only [k1, decide_eq_false hr, Option.bind_some, Bool.not_false, frk_t]
    · unfold Dimpl_Slice Dimpl_isGrid sliceD
      simp only [iPtOk, k2, decide_eq_false hr]
      cases hl : ptB ⟨lo.X, lo.Y, z⟩
      · rfl
      · cases hh : ptB ⟨hi.X, hi.Y, z⟩
        · rfl
        · obtain ⟨l1, l2, l3⟩ := (ptB_iff _).1 hl
          obtain ⟨h1, h2, h3⟩ := (ptB_iff _).1 hh
          simp only at l1 l2 l3 h1 h2 h3
          simp only [Option.bind_some, frk_t, iWay l1 h1, iWay l2 h2, iWay l3 h3, wyB_refl]
          cases wyB lo.X hi.X <;> cases wyB lo.Y hi.Y <;> rfl
end Evl.T

/-! Egx -/
namespace Evl.T
open Go Evl

theorem plain_Slice {G0 : Int → Prop} {G1 G2 : Pt → Prop} (a : Sol) (ha : Lens a) (z : Int) (_ : G0 z) (p : Pt) (_ : G1 p) (q : Pt) (_ : G2 q) : ∃ n, Dlaws_FnExactSlice n a z p q = some true := by
  obtain ⟨v, hv, -⟩ := sliceAll a ha z p q
  refine oneSol a ha (fun n => Dlaws_FnExactSlice n a z p q) (Ev.of fun n k1 => ?_) (fun ht => hv.mono fun n ⟨f1, f2⟩ k1 k2 k3 => ?_)
  · simp only [Dlaws_FnExactSlice, k1, Option.bind_some]; rfl
  · simp only [Dlaws_FnExactSlice, k1, k2, k3, f1, f2, toPtEq, Option.bind_some, beq_self_eq_true, Bool.not_true, frk_f]
    rw [decide_eq_false (by omega), frk_f]
end Evl.T
