/- Texts that belong together, joined. No condition. -/
import Derived.Test.YtljcjahaeebocaaGreatJp
import Derived.Test.YtljcjahaeebocaaGreatJm
/-! Egv -/
namespace Evl.T
open Go Evl

/-- A tree that forks in two. -/
inductive Fk : Sol → Prop
  | leaf {i p} : Fk (.mk i p [])
  | node {i p a b} : Fk a → Fk b → Fk (.mk i p [a, b])
theorem Rt.fk {s : Sol} {l : List Pl} (h : Rt s l) : Fk s := by
  induction h with
  | leaf _ => exact .leaf
  | node _ _ _ _ _ _ iha ihb => exact .node iha ihb

def sd (a0 : Pl) (a1 : Spot) : Int := sgn (w64 ((w64 ((w64 ((w64 (a0.A * a1.X)) + (w64 (a0.B * a1.Y)))) + (w64 (a0.C * a1.Z)))) + (w64 (a0.D * a1.W))))
theorem sSide (p : Pl) (q : Spot) : Dspec_l5Side p q = some (sd p q) := by unfold Dspec_l5Side; rw [sSign]; rfl
theorem iSide (p : Pl) (q : Spot) : Dimpl_sideAt p q = some (sd p q) := by unfold Dimpl_sideAt; rw [iSign]; rfl
theorem ptEta (q : Spot) : Spot.mk q.X q.Y q.Z q.W = q := rfl
/-- Around of a node. -/
def arN (s : Int) (a b : Int × Int) : Int × Int :=
  let u := if s ≥ 0 then a else (0, 0)
  if s ≤ 0 then (w64 (u.1 + b.1), w64 (u.2 + b.2)) else u
theorem sAroundN (n m : Nat) (i : Bool) (p : Pl) (x y : Sol) (q : Spot) {a b : Int × Int} (ha : loopN (Dspec_l10Around_b n) m (x, q) = some a) (hb : loopN (Dspec_l10Around_b n) m (y, q) = some b) :
    loopN (Dspec_l10Around_b n) (m + 1) (.mk i p [x, y], q) = some (arN (sd p q) a b) := by
  rw [loop_suc]
  simp only [Dspec_l10Around_b, Dspec_l10Around_0, Dspec_l8Leaf, Sol.kids, Sol.pl, Sol.inn, Option.bind_some, sSide, lget_zero, lget_one, pl_eq, ptEta, List.getElem?_cons_zero, List.getElem?_cons_succ, ha, hb]
  have e0 : ((([x, y] : List Sol).length : Int) == 0) = false := rfl
  rw [e0, frk_f]
  unfold arN
  by_cases h1 : sd p q ≥ 0
  · rw [decide_eq_true h1, frk_t, if_pos h1]
    by_cases h2 : sd p q ≤ 0
    · rw [decide_eq_true h2, frk_t, if_pos h2]
    · rw [decide_eq_false h2, frk_f, if_neg h2]
  · rw [decide_eq_false h1, frk_f, if_neg h1]
    by_cases h2 : sd p q ≤ 0
    · rw [decide_eq_true h2, frk_t, if_pos h2]
    · rw [decide_eq_false h2, frk_f, if_neg h2]
theorem iAroundN (n m : Nat) (i : Bool) (p : Pl) (x y : Sol) (q : Spot) {a b : Int × Int} (ha : loopN (Dimpl_Solid_around_b n) m (x, q) = some a) (hb : loopN (Dimpl_Solid_around_b n) m (y, q) = some b) :
    loopN (Dimpl_Solid_around_b n) (m + 1) (.mk i p [x, y], q) = some (arN (sd p q) a b) := by
  rw [loop_suc]
  simp only [Dimpl_Solid_around_b, Dimpl_Solid_around_0, Dimpl_Solid_isLeaf, Sol.kids, Sol.pl, Sol.inn, Option.bind_some, iSide, lget_zero, lget_one, pl_eq, ptEta, List.getElem?_cons_zero, List.getElem?_cons_succ, ha, hb]
  have e0 : ((([x, y] : List Sol).length : Int) == 0) = false := rfl
  rw [e0, frk_f]
  unfold arN
  by_cases h1 : sd p q ≥ 0
  · rw [decide_eq_true h1, frk_t, if_pos h1]
    by_cases h2 : sd p q ≤ 0
    · rw [decide_eq_true h2, frk_t, if_pos h2]
    · rw [decide_eq_false h2, frk_f, if_neg h2]
  · rw [decide_eq_false h1, frk_f, if_neg h1]
    by_cases h2 : sd p q ≤ 0
    · rw [decide_eq_true h2, frk_t, if_pos h2]
    · rw [decide_eq_false h2, frk_f, if_neg h2]
theorem aroundOk {s : Sol} (h : Fk s) : ∃ f : Spot → Int × Int, E2 fun n m => ∀ q, loopN (Dspec_l10Around_b n) m (s, q) = some (f q) ∧ loopN (Dimpl_Solid_around_b n) m (s, q) = some (f q) := by
  induction h with
  | @leaf i p =>
    refine ⟨fun _ => if i then (1, 0) else (0, 1), E2.suc (E2.of fun n m q => ⟨?_, ?_⟩)⟩
    · rw [loop_suc]; cases i <;> rfl
    · rw [loop_suc]; cases i <;> rfl
  | @node i p a b _ _ iha ihb =>
    obtain ⟨f, h1⟩ := iha
    obtain ⟨g, h2⟩ := ihb
    exact ⟨fun q => arN (sd p q) (f q) (g q), E2.suc ((h1.and h2).mono fun n m ⟨h1, h2⟩ q => ⟨sAroundN n m i p a b q (h1 q).1 (h2 q).1, iAroundN n m i p a b q (h1 q).2 (h2 q).2⟩)⟩
def wh (v : Int × Int) : Int := if v.1 = 0 then -1 else if v.2 = 0 then 1 else 0
theorem sWh (v : Int × Int) : Dspec_l10Where v.1 v.2 = some (wh v) := by
  unfold Dspec_l10Where wh
  by_cases h : v.1 = 0
  · rw [if_pos h, show (v.1 == 0) = true by simp [h], frk_t]
  · rw [if_neg h, show (v.1 == 0) = false by simp [h], frk_f]
    by_cases h2 : v.2 = 0
    · rw [if_pos h2, show (v.2 == 0) = true by simp [h2], frk_t]
    · rw [if_neg h2, show (v.2 == 0) = false by simp [h2], frk_f]
theorem iWh (v : Int × Int) : Dimpl_where v.1 v.2 = some (wh v) := sWh v

/-! points -/
def ptB (p : Pt) : Bool := rIn p.X (-1000000) 1000000 && (rIn p.Y (-1000000) 1000000 && rIn p.Z (-1000000) 1000000)
theorem sPtOk (p : Pt) : Dspec_PtOk p = some (ptB p) := by
  unfold Dspec_PtOk ptB
  simp only [sIn, Option.bind_some]
  cases rIn p.X (-1000000) 1000000 <;> cases rIn p.Y (-1000000) 1000000 <;> rfl
theorem iPtOk (p : Pt) : Dimpl_PtOk p = some (ptB p) := by
  unfold Dimpl_PtOk ptB
  simp only [iIn, Option.bind_some]
  cases rIn p.X (-1000000) 1000000 <;> cases rIn p.Y (-1000000) 1000000 <;> rfl
def In6 (x : Int) : Prop := -1000000 ≤ x ∧ x ≤ 1000000
theorem ptB_iff (p : Pt) : ptB p = true ↔ In6 p.X ∧ In6 p.Y ∧ In6 p.Z := by
  unfold ptB In6; simp only [Bool.and_eq_true, rIn_iff]
theorem In6.B {x : Int} (h : In6 x) : B 9223372036854775807 x := by unfold In6 at h; exact Evl.T.B.of (by omega) (by omega)
theorem In6.lt {x : Int} (h : In6 x) : x.natAbs < 1000002 := by unfold In6 at h; omega
theorem sSpot (n : Nat) (x y z : Int) (hx : In6 x) (hy : In6 y) (hz : In6 z) (hn : 1000002 ≤ n) : Dspec_l5Spot n x y z 1 = some ⟨x, y, z, 1⟩ := by
  have h1 : B 9223372036854775807 (1 : Int) := Evl.T.B.of (by decide) (by decide)
  have g1 : (Nat.gcd x.natAbs y.natAbs) ≤ 1000001 ∨ y.natAbs = 0 := by
    rcases Nat.eq_zero_or_pos y.natAbs with h | h
    · exact .inr h
    · have := Nat.gcd_le_right x.natAbs h; have := hy.lt; exact .inl (by omega)
  have hg : B 9223372036854775807 ((Nat.gcd x.natAbs y.natAbs : Nat) : Int) := by
    rcases g1 with h | h
    · exact Evl.T.B.of (by omega) (by omega)
    · rw [h, Nat.gcd_zero_right]; have := hx.lt; exact Evl.T.B.of (by omega) (by omega)
  unfold Dspec_l5Spot
  rw [sGcd n x y hx.B hy.B (by have := hy.lt; omega), Option.bind_some, sGcd n z 1 hz.B h1 (by simp; omega), Option.bind_some]
  have e1 : ((Nat.gcd z.natAbs (1 : Int).natAbs : Nat) : Int) = 1 := by rw [show (1 : Int).natAbs = 1 from rfl, Nat.gcd_one_right]; rfl
  rw [e1, sGcd n _ _ hg h1 (by simp; omega), Option.bind_some]
  have e2 : ((Nat.gcd ((Nat.gcd x.natAbs y.natAbs : Nat) : Int).natAbs (1 : Int).natAbs : Nat) : Int) = 1 := by
    rw [show (1 : Int).natAbs = 1 from rfl, Nat.gcd_one_right]; rfl
  rw [e2, show decide ((1 : Int) < 0) = false from rfl, frk_f]
  unfold Dspec_l5Spot_0
  have q : ∀ v : Int, In6 v → qt .i64 v 1 = some v := fun v hv => by
    unfold qt
    rw [if_neg (by decide), Int.tdiv_one]
    have := w64_id (x := v) (by unfold In6 at hv; omega) (by unfold In6 at hv; omega)
    exact congrArg some this
  rw [q x hx, Option.bind_some, q y hy, Option.bind_some, q z hz, Option.bind_some, q 1 (by unfold In6; omega), Option.bind_some]
theorem In6.mid {lo hi x : Int} (h : In6 lo ∧ In6 hi) (h1 : lo ≤ x) (h2 : x ≤ hi) : In6 x := by unfold In6 at *; omega
theorem w64_in {x : Int} (h : In6 x) : w64 (x + 1) = x + 1 := w64_id (by unfold In6 at h; omega) (by unfold In6 at h; omega)

def wyB (lo hi : Int) : Bool := decide (lo ≤ hi) && decide (hi - lo < 16)
theorem sWay {lo hi : Int} (h1 : In6 lo) (h2 : In6 hi) : Dspec_l17Way lo hi = some (wyB lo hi) := by
  unfold Dspec_l17Way wyB
  rw [w64_id (by unfold In6 at *; omega) (by unfold In6 at *; omega)]
  by_cases h : lo ≤ hi
  · rw [decide_eq_true h, frk_t]; rfl
  · rw [decide_eq_false h, frk_f]; rfl
theorem iWay {lo hi : Int} (h1 : In6 lo) (h2 : In6 hi) : Dimpl_isGridWay lo hi = some (wyB lo hi) := by
  unfold Dimpl_isGridWay wyB
  rw [w64_id (by unfold In6 at *; omega) (by unfold In6 at *; omega), iIn, Option.bind_some]
  congr 1
  rw [Bool.eq_iff_iff, rIn_iff, Bool.and_eq_true, decide_eq_true_iff, decide_eq_true_iff]
  omega
end Evl.T

/-! Ehb -/
namespace Evl.T
open Go Evl

def chI (c : Int) : Int := if c = 1 then 35 else if c = 0 then 43 else 46
def lineI (g : Int → Int → Int) (y : Int) : Nat → Int → List Int
  | 0, _ => []
  | k + 1, x => chI (g x y) :: lineI g y k (x + 1)
def gridI (g : Int → Int → Int) (lx : Int) (kx : Nat) : Nat → Int → List Int
  | 0, _ => []
  | k + 1, y => lineI g y kx lx ++ 10 :: gridI g lx kx k (y - 1)
theorem lineI_len (g : Int → Int → Int) (y : Int) : ∀ (k : Nat) (x : Int), (lineI g y k x).length = k
  | 0, _ => rfl
  | k + 1, x => by simp [lineI, lineI_len g y k]
/-! the program -/
def u8s (l : List Int) : List UInt8 := l.map fun n => UInt8.ofNat n.toNat
theorem line_eq {W : Int → Int → Option Int} {g : Int → Int → Int} {y : Int} (hy : In6 y) (hA : ∀ x y, In6 x → In6 y → W x y = some (g x y)) : ∀ (k : Nat) (x : Int), -1000000 ≤ x → x + k ≤ 1000001 → sLine W y k x = some (u8s (lineI g y k x))
  | 0, _, _, _ => rfl
  | k + 1, x, h1, h2 => by
    have hx6 : In6 x := by unfold In6; omega
    simp only [sLine, hA x y hx6 hy, line_eq hy hA k (x + 1) (by omega) (by omega), Option.bind_some, lineI, u8s, List.map_cons]
    congr 2
    unfold chW chI
    by_cases h1 : g x y = 1
    · rw [h1]; rfl
    · by_cases h0 : g x y = 0
      · rw [h0]; rfl
      · rw [if_neg h1, if_neg h0, if_neg h1, if_neg h0]; rfl
theorem grid_eq {W : Int → Int → Option Int} {g : Int → Int → Int} {lx : Int} {kx : Nat} (hA : ∀ x y, In6 x → In6 y → W x y = some (g x y)) (h1 : -1000000 ≤ lx) (h2 : lx + kx ≤ 1000001) : ∀ (k : Nat) (y : Int), y ≤ 1000000 → -1000001 + (k : Int) ≤ y → sGrid W lx kx k y = some (u8s (gridI g lx kx k y))
  | 0, _, _, _ => rfl
  | k + 1, y, h3, h4 => by
    have hy6 : In6 y := by unfold In6; omega
    simp only [sGrid, line_eq hy6 hA kx lx h1 h2, grid_eq hA h1 h2 k (y - 1) (by omega) (by omega), Option.bind_some, gridI, u8s, List.map_append, List.map_cons]
    rfl

theorem pt_eta (p : Pt) (z : Int) : (Pt.mk p.X p.Y z).X = p.X ∧ (Pt.mk p.X p.Y z).Y = p.Y ∧ (Pt.mk p.X p.Y z).Z = z := ⟨rfl, rfl, rfl⟩
theorem wyB_refl (z : Int) : wyB z z = true := by unfold wyB; simp
/-- What is shown. -/
def slV (g : Int → Int → Int) (lo hi : Pt) : ByteArray := ⟨(u8s (gridI g lo.X (hi.X - lo.X + 1).toNat (hi.Y - lo.Y + 1).toNat hi.Y)).toArray⟩
open Classical in
theorem implSl {n : Nat} {s : Sol} {z : Int} {lo hi : Pt} {g : Int → Int → Int → Int} (k2 : Dimpl_SolidOk n s = some (decide (Right s))) (hr : Right s) (k4 : ∀ x y z, In6 x → In6 y → In6 z → Dimpl_Solid_whereOf n s ⟨x, y, z⟩ = some (g x y z))
    (hl : ptB ⟨lo.X, lo.Y, z⟩ = true) (hh : ptB ⟨hi.X, hi.Y, z⟩ = true) (hw : (wyB lo.X hi.X && wyB lo.Y hi.Y) = true) : Dimpl_Slice n s z lo hi = some (slV (fun x y => g x y z) lo hi) := by
  obtain ⟨l1, l2, l3⟩ := (ptB_iff _).1 hl
  obtain ⟨h1, h2, h3⟩ := (ptB_iff _).1 hh
  simp only at l1 l2 l3 h1 h2 h3
  simp only [Bool.and_eq_true] at hw
  obtain ⟨w1, w2⟩ := hw
  have u1 := w1; have u2 := w2
  unfold wyB at u1 u2
  simp only [Bool.and_eq_true, decide_eq_true_eq] at u1 u2
  unfold Dimpl_Slice Dimpl_isGrid sliceD
  simp only [iPtOk, hl, hh, Option.bind_some, frk_t, iWay l1 h1, iWay l2 h2, iWay l3 h3, w1, w2, wyB_refl, k2, decide_eq_true hr, Bool.true_eq_false, if_false]
  have q1 : wayOk lo.X hi.X = true := by unfold wayOk In6 at *; simp only [Bool.and_eq_true, decide_eq_true_eq]; omega
  have q2 : wayOk lo.Y hi.Y = true := by unfold wayOk In6 at *; simp only [Bool.and_eq_true, decide_eq_true_eq]; omega
  rw [q1, q2, Bool.and_self, if_pos rfl, grid_eq (g := fun x y => g x y z) (fun x y hx hy => k4 x y z hx hy l3) l1.1 (by unfold In6 at h1; omega) _ _ h2.2 (by unfold In6 at l2; omega)]
  rfl
end Evl.T

/-! Epy -/
namespace Evl.T
open Go Evl

/-- The sum of the first k. -/
def sumF : Nat → (Nat → Nat) → Nat
  | 0, _ => 0
  | k + 1, f => f 0 + sumF k fun t => f (t + 1)
theorem sumF_le (c : Nat) : ∀ (k : Nat) (f : Nat → Nat), (∀ t, t < k → f t ≤ c) → sumF k f ≤ k * c
  | 0, _, _ => by simp [sumF]
  | k + 1, f, h => by
    have h1 := h 0 (by omega)
    have h2 := sumF_le c k (fun t => f (t + 1)) fun t ht => h (t + 1) (by omega)
    rw [sumF, Nat.add_mul]; omega
theorem sumF_add : ∀ (k : Nat) (f g : Nat → Nat), sumF k (fun t => f t + g t) = sumF k f + sumF k g
  | 0, _, _ => rfl
  | k + 1, f, g => by
    have := sumF_add k (fun t => f (t + 1)) (fun t => g (t + 1))
    simp only [sumF, this]; omega
theorem sumF_zero : ∀ k : Nat, sumF k (fun _ => 0) = 0
  | 0 => rfl
  | k + 1 => by rw [sumF, sumF_zero k]
theorem sumF_congr : ∀ (k : Nat) {f g : Nat → Nat}, (∀ t, t < k → f t = g t) → sumF k f = sumF k g
  | 0, _, _, _ => rfl
  | k + 1, f, g, h => by rw [sumF, sumF, h 0 (by omega), sumF_congr k fun t ht => h (t + 1) (by omega)]
/-- Sums go either way round. -/
theorem sumF_swap (l : Nat) : ∀ (k : Nat) (h : Nat → Nat → Nat), sumF k (fun i => sumF l fun j => h i j) = sumF l fun j => sumF k fun i => h i j
  | 0, _ => by simp only [sumF]; exact (sumF_zero l).symm
  | k + 1, h => by
    have := sumF_swap l k fun i j => h (i + 1) j
    simp only [sumF, this]
    exact (sumF_add l _ _).symm

theorem sumLoop {σ R : Type} {F : (Int × Int × σ → Option R) → Int × Int × σ → Option R} {st : Int → σ} {out : Nat → Nat → Option R} {h1 h0 : Int → Nat} {lo hi : Int} {c A : Nat}
    (hF : ∀ rec (a b : Nat) y, lo ≤ y → y ≤ hi → a + c ≤ A → b + c ≤ A → F rec ((a : Int), (b : Int), st y) = rec (((a + h1 y : Nat) : Int), ((b + h0 y : Nat) : Int), st (y + 1)))
    (hE : ∀ rec (a b : Nat) y, hi < y → F rec ((a : Int), (b : Int), st y) = out a b) (hc : ∀ y, lo ≤ y → y ≤ hi → h1 y ≤ c ∧ h0 y ≤ c) :
    ∀ (k m : Nat) (y : Int) (a b : Nat), y + k = hi + 1 → lo ≤ y → k < m → a + k * c ≤ A → b + k * c ≤ A → loopN F m ((a : Int), (b : Int), st y) = out (a + sumF k fun t => h1 (y + t)) (b + sumF k fun t => h0 (y + t)) := by
  intro k
  induction k with
  | zero =>
    intro m y a b hy hlo hm _ _
    obtain ⟨m, rfl⟩ : ∃ j, m = j + 1 := ⟨m - 1, by omega⟩
    rw [loop_suc, hE _ a b y (by omega)]; rfl
  | succ k ih =>
    intro m y a b hy hlo hm ha hb
    obtain ⟨m, rfl⟩ : ∃ j, m = j + 1 := ⟨m - 1, by omega⟩
    have hk : (k + 1) * c = k * c + c := Nat.succ_mul k c
    obtain ⟨c1, c0⟩ := hc y hlo (by omega)
    rw [loop_suc, hF _ a b y hlo (by omega) (by omega) (by omega), ih m (y + 1) _ _ (by omega) (by omega) (by omega) (by omega) (by omega)]
    have e : ∀ h : Int → Nat, h y + sumF k (fun t => h (y + 1 + (t : Nat))) = sumF (k + 1) fun t => h (y + (t : Nat)) := fun h => by
      rw [sumF]
      have e0 : h (y + ((0 : Nat) : Int)) = h y := by rw [show y + ((0 : Nat) : Int) = y by omega]
      rw [e0]; congr 1
      exact sumF_congr k fun t _ => by congr 1; omega
    rw [← e h1, ← e h0, Nat.add_assoc, Nat.add_assoc]

def i1 (v : Int) : Nat := if v = 1 then 1 else 0
def i0 (v : Int) : Nat := if v = 0 then 1 else 0
theorem cntStep {R : Type} (v t : Int) (a b : Nat) (ha : a ≤ 1000000) (hb : b ≤ 1000000) (rec : Int × Int × Int → Option R) (ht : In6 t) :
    frk (v == 1) (rec (w64 ((a : Int) + 1), (b : Int), w64 (t + 1))) (frk (v == 0) (rec ((a : Int), w64 ((b : Int) + 1), w64 (t + 1))) (rec ((a : Int), (b : Int), w64 (t + 1)))) = rec (((a + i1 v : Nat) : Int), ((b + i0 v : Nat) : Int), t + 1) := by
  have ht' : w64 (t + 1) = t + 1 := w64_id (by unfold In6 at ht; omega) (by unfold In6 at ht; omega)
  have ea : w64 ((a : Int) + 1) = ((a + 1 : Nat) : Int) := w64_suc (by unfold big; omega)
  have eb : w64 ((b : Int) + 1) = ((b + 1 : Nat) : Int) := w64_suc (by unfold big; omega)
  rw [ht', ea, eb]
  by_cases h1 : v = 1
  · have h0 : ¬ v = 0 := by omega
    rw [show (v == 1) = true by simp [h1], frk_t]; unfold i1 i0; rw [if_pos h1, if_neg h0]; rfl
  · by_cases h0 : v = 0
    · rw [show (v == 1) = false by simp [h1], frk_f, show (v == 0) = true by simp [h0], frk_t]; unfold i1 i0; rw [if_neg h1, if_pos h0]; rfl
    · rw [show (v == 1) = false by simp [h1], frk_f, show (v == 0) = false by simp [h0], frk_f]; unfold i1 i0; rw [if_neg h1, if_neg h0]; rfl
theorem i_le (v : Int) : i1 v ≤ 1 ∧ i0 v ≤ 1 := by unfold i1 i0; constructor <;> split <;> omega
theorem le_dec {a b : Int} (h : a ≤ b) : decide (a ≤ b) = true := decide_eq_true h
theorem le_no {a b : Int} (h : b < a) : decide (a ≤ b) = false := decide_eq_false (by omega)
end Evl.T

/-! Egz -/
namespace Evl.T
open Go Evl

section
variable {n : Nat} {s : Sol} {g : Int → Int → Int → Int} {loX loY loZ hiX hiY hiZ : Int} {kx ky kz : Nat}
structure Grid (n : Nat) (loX loY loZ hiX hiY hiZ : Int) (kx ky kz : Nat) : Prop where
  n : 20 ≤ n
  x : loX + kx = hiX + 1
  y : loY + ky = hiY + 1
  z : loZ + kz = hiZ + 1
  x6 : kx ≤ 16
  y6 : ky ≤ 16
  z6 : kz ≤ 16
  bx : In6 loX ∧ In6 hiX
  bY : In6 loY ∧ In6 hiY
  bz : In6 loZ ∧ In6 hiZ
/-! the reference -/
theorem sCi1 (hA : ∀ x y z, In6 x → In6 y → In6 z → Dspec_l17At n s x y z = some (g x y z)) (G : Grid n loX loY loZ hiX hiY hiZ kx ky kz) (rec1 : Int × Int × Int × Int → Option (Int × Int)) (rec0 : Int × Int × Int × Int × Int → Option (Int × Int)) (x y : Int) (hx : In6 x) (hy : In6 y) (a b : Nat) (ha : a + 16 ≤ 100000) (hb : b + 16 ≤ 100000) :
    loopN (Dspec_CountIn_1 n rec1 rec0 x loY s.inn s.pl.A s.pl.B s.pl.C s.pl.D s.kids loX hiX hiY hiZ y loZ) n ((a : Int), (b : Int), loZ) =
      rec1 (((a + sumF kz fun t => i1 (g x y (loZ + (t : Nat))) : Nat) : Int), ((b + sumF kz fun t => i0 (g x y (loZ + (t : Nat))) : Nat) : Int), y + 1, loZ) := by
  have hz6 := G.z6; have hn := G.n
  refine sumLoop (F := Dspec_CountIn_1 n rec1 rec0 x loY s.inn s.pl.A s.pl.B s.pl.C s.pl.D s.kids loX hiX hiY hiZ y loZ) (st := fun z => z) (out := fun a b => rec1 ((a : Int), (b : Int), y + 1, loZ)) (h1 := fun z => i1 (g x y z)) (h0 := fun z => i0 (g x y z)) (lo := loZ) (hi := hiZ) (c := 1) (A := 100000) ?_ ?_ (fun z _ _ => i_le _) kz n loZ a b G.z (Int.le_refl _) (by omega) (by omega) (by omega)
  · intro rec a b z h1 h2 h3 h4
    have hzz := In6.mid G.bz h1 h2
    show frk (decide (z ≤ hiZ)) _ _ = _
    rw [le_dec h2, frk_t, sol_eq', hA x y z hx hy hzz, Option.bind_some]
    exact cntStep (g x y z) z a b (by omega) (by omega) rec hzz
  · intro rec a b z h
    show frk (decide (z ≤ hiZ)) _ (rec1 _) = _
    rw [le_no h, frk_f, w64_in hy]
theorem sCi2 (hA : ∀ x y z, In6 x → In6 y → In6 z → Dspec_l17At n s x y z = some (g x y z)) (G : Grid n loX loY loZ hiX hiY hiZ kx ky kz) (rec0 : Int × Int × Int × Int × Int → Option (Int × Int)) (x : Int) (hx : In6 x) (a b : Nat) (ha : a + 256 ≤ 90000) (hb : b + 256 ≤ 90000) :
    loopN (Dspec_CountIn_2 n rec0 s.inn s.pl.A s.pl.B s.pl.C s.pl.D s.kids loX hiX hiY hiZ x loY) n ((a : Int), (b : Int), loY, loZ) =
      rec0 (((a + sumF ky fun u => sumF kz fun t => i1 (g x (loY + (u : Nat)) (loZ + (t : Nat))) : Nat) : Int), ((b + sumF ky fun u => sumF kz fun t => i0 (g x (loY + (u : Nat)) (loZ + (t : Nat))) : Nat) : Int), x + 1, loY, loZ) := by
  have hz6 := G.z6; have hy6 := G.y6; have hn := G.n
  refine sumLoop (F := Dspec_CountIn_2 n rec0 s.inn s.pl.A s.pl.B s.pl.C s.pl.D s.kids loX hiX hiY hiZ x loY) (st := fun y => (y, loZ)) (out := fun a b => rec0 ((a : Int), (b : Int), x + 1, loY, loZ)) (h1 := fun y => sumF kz fun t => i1 (g x y (loZ + (t : Nat)))) (h0 := fun y => sumF kz fun t => i0 (g x y (loZ + (t : Nat)))) (lo := loY) (hi := hiY) (c := 16) (A := 90000) ?_ ?_ (fun y _ _ => ⟨?_, ?_⟩) ky n loY a b G.y (Int.le_refl _) (by omega) (by omega) (by omega)
  · intro rec a b y h1 h2 h3 h4
    have hyy := In6.mid G.bY h1 h2
    show frk (decide (y ≤ hiY)) _ _ = _
    rw [le_dec h2, frk_t, sCi1 hA G rec rec0 x y hx hyy a b (by omega) (by omega)]
  · intro rec a b y h
    show frk (decide (y ≤ hiY)) _ (rec0 _) = _
    rw [le_no h, frk_f, w64_in hx]
  · have := sumF_le 1 kz (fun t => i1 (g x y (loZ + (t : Nat)))) fun t _ => (i_le _).1; omega
  · have := sumF_le 1 kz (fun t => i0 (g x y (loZ + (t : Nat)))) fun t _ => (i_le _).2; omega
theorem sCi3 (hA : ∀ x y z, In6 x → In6 y → In6 z → Dspec_l17At n s x y z = some (g x y z)) (G : Grid n loX loY loZ hiX hiY hiZ kx ky kz) :
    loopN (Dspec_CountIn_3 n s.inn s.pl.A s.pl.B s.pl.C s.pl.D s.kids loX hiX hiY hiZ) n (0, 0, loX, loY, loZ) =
      some (((sumF kx fun v => sumF ky fun u => sumF kz fun t => i1 (g (loX + (v : Nat)) (loY + (u : Nat)) (loZ + (t : Nat))) : Nat) : Int), ((sumF kx fun v => sumF ky fun u => sumF kz fun t => i0 (g (loX + (v : Nat)) (loY + (u : Nat)) (loZ + (t : Nat))) : Nat) : Int)) := by
  have hz6 := G.z6; have hy6 := G.y6; have hx6 := G.x6; have hn := G.n
  have hle : ∀ (i : Int → Nat), (∀ v, i v ≤ 1) → ∀ x, sumF ky (fun u => sumF kz fun t => i (g x (loY + (u : Nat)) (loZ + (t : Nat)))) ≤ 256 := fun i hi x => by
    have h1 := sumF_le 16 ky (fun u => sumF kz fun t => i (g x (loY + (u : Nat)) (loZ + (t : Nat)))) fun u _ => by
      have := sumF_le 1 kz (fun t => i (g x (loY + (u : Nat)) (loZ + (t : Nat)))) fun t _ => hi _
      omega
    omega
  have := sumLoop (F := Dspec_CountIn_3 n s.inn s.pl.A s.pl.B s.pl.C s.pl.D s.kids loX hiX hiY hiZ) (st := fun x => (x, loY, loZ)) (out := fun a b => some ((a : Int), (b : Int))) (h1 := fun x => sumF ky fun u => sumF kz fun t => i1 (g x (loY + (u : Nat)) (loZ + (t : Nat)))) (h0 := fun x => sumF ky fun u => sumF kz fun t => i0 (g x (loY + (u : Nat)) (loZ + (t : Nat)))) (lo := loX) (hi := hiX) (c := 256) (A := 80000) ?_ ?_ (fun x _ _ => ⟨hle i1 (fun v => (i_le v).1) x, hle i0 (fun v => (i_le v).2) x⟩) kx n loX 0 0 G.x (Int.le_refl _) (by omega) (by omega) (by omega)
  · simpa using this
  · intro rec a b x h1 h2 h3 h4
    have hxx := In6.mid G.bx h1 h2
    show frk (decide (x ≤ hiX)) _ _ = _
    rw [le_dec h2, frk_t, sCi2 hA G rec x hxx a b (by omega) (by omega)]
  · intro rec a b x h
    show frk (decide (x ≤ hiX)) _ (some _) = _
    rw [le_no h, frk_f]

/-! the program -/
theorem iCi1 (hA : ∀ x y z, In6 x → In6 y → In6 z → Dimpl_Solid_whereOf n s ⟨x, y, z⟩ = some (g x y z)) (G : Grid n loX loY loZ hiX hiY hiZ kx ky kz) (rec1 : Int × Int × Int × Int → Option (Int × Int)) (rec0 : Int × Int × Int × Int × Int → Option (Int × Int)) (z y : Int) (hz : In6 z) (hy : In6 y) (a b : Nat) (ha : a + 16 ≤ 100000) (hb : b + 16 ≤ 100000) :
    loopN (Dimpl_CountIn_1 n rec1 rec0 z loY s.inn s.pl.A s.pl.B s.pl.C s.pl.D s.kids loZ hiX hiY hiZ y loX) n ((a : Int), (b : Int), loX) =
      rec1 (((a + sumF kx fun t => i1 (g (loX + (t : Nat)) y z) : Nat) : Int), ((b + sumF kx fun t => i0 (g (loX + (t : Nat)) y z) : Nat) : Int), y + 1, loX) := by
  have hx6 := G.x6; have hn := G.n
  refine sumLoop (F := Dimpl_CountIn_1 n rec1 rec0 z loY s.inn s.pl.A s.pl.B s.pl.C s.pl.D s.kids loZ hiX hiY hiZ y loX) (st := fun x => x) (out := fun a b => rec1 ((a : Int), (b : Int), y + 1, loX)) (h1 := fun x => i1 (g x y z)) (h0 := fun x => i0 (g x y z)) (lo := loX) (hi := hiX) (c := 1) (A := 100000) ?_ ?_ (fun x _ _ => i_le _) kx n loX a b G.x (Int.le_refl _) (by omega) (by omega) (by omega)
  · intro rec a b x h1 h2 h3 h4
    have hxx := In6.mid G.bx h1 h2
    show frk (decide (x ≤ hiX)) _ _ = _
    rw [le_dec h2, frk_t, sol_eq', hA x y z hxx hy hz, Option.bind_some]
    exact cntStep (g x y z) x a b (by omega) (by omega) rec hxx
  · intro rec a b x h
    show frk (decide (x ≤ hiX)) _ (rec1 _) = _
    rw [le_no h, frk_f, w64_in hy]
theorem iCi2 (hA : ∀ x y z, In6 x → In6 y → In6 z → Dimpl_Solid_whereOf n s ⟨x, y, z⟩ = some (g x y z)) (G : Grid n loX loY loZ hiX hiY hiZ kx ky kz) (rec0 : Int × Int × Int × Int × Int → Option (Int × Int)) (z : Int) (hz : In6 z) (a b : Nat) (ha : a + 256 ≤ 90000) (hb : b + 256 ≤ 90000) :
    loopN (Dimpl_CountIn_2 n rec0 s.inn s.pl.A s.pl.B s.pl.C s.pl.D s.kids loZ hiX hiY hiZ z loY) n ((a : Int), (b : Int), loY, loX) =
      rec0 (((a + sumF ky fun u => sumF kx fun t => i1 (g (loX + (t : Nat)) (loY + (u : Nat)) z) : Nat) : Int), ((b + sumF ky fun u => sumF kx fun t => i0 (g (loX + (t : Nat)) (loY + (u : Nat)) z) : Nat) : Int), z + 1, loX, loY) := by
  have hx6 := G.x6; have hy6 := G.y6; have hn := G.n
  refine sumLoop (F := Dimpl_CountIn_2 n rec0 s.inn s.pl.A s.pl.B s.pl.C s.pl.D s.kids loZ hiX hiY hiZ z loY) (st := fun y => (y, loX)) (out := fun a b => rec0 ((a : Int), (b : Int), z + 1, loX, loY)) (h1 := fun y => sumF kx fun t => i1 (g (loX + (t : Nat)) y z)) (h0 := fun y => sumF kx fun t => i0 (g (loX + (t : Nat)) y z)) (lo := loY) (hi := hiY) (c := 16) (A := 90000) ?_ ?_ (fun y _ _ => ⟨?_, ?_⟩) ky n loY a b G.y (Int.le_refl _) (by omega) (by omega) (by omega)
  · intro rec a b y h1 h2 h3 h4
    have hyy := In6.mid G.bY h1 h2
    show frk (decide (y ≤ hiY)) _ _ = _
    rw [le_dec h2, frk_t, iCi1 hA G rec rec0 z y hz hyy a b (by omega) (by omega)]
  · intro rec a b y h
    show frk (decide (y ≤ hiY)) _ (rec0 _) = _
    rw [le_no h, frk_f, w64_in hz]
  · have := sumF_le 1 kx (fun t => i1 (g (loX + (t : Nat)) y z)) fun t _ => (i_le _).1; omega
  · have := sumF_le 1 kx (fun t => i0 (g (loX + (t : Nat)) y z)) fun t _ => (i_le _).2; omega
theorem iCi3 (hA : ∀ x y z, In6 x → In6 y → In6 z → Dimpl_Solid_whereOf n s ⟨x, y, z⟩ = some (g x y z)) (G : Grid n loX loY loZ hiX hiY hiZ kx ky kz) :
    loopN (Dimpl_CountIn_3 n s.inn s.pl.A s.pl.B s.pl.C s.pl.D s.kids loZ hiX hiY hiZ) n (0, 0, loZ, loX, loY) =
      some (((sumF kz fun v => sumF ky fun u => sumF kx fun t => i1 (g (loX + (t : Nat)) (loY + (u : Nat)) (loZ + (v : Nat))) : Nat) : Int), ((sumF kz fun v => sumF ky fun u => sumF kx fun t => i0 (g (loX + (t : Nat)) (loY + (u : Nat)) (loZ + (v : Nat))) : Nat) : Int)) := by
  have hz6 := G.z6; have hy6 := G.y6; have hx6 := G.x6; have hn := G.n
  have hle : ∀ (i : Int → Nat), (∀ v, i v ≤ 1) → ∀ z, sumF ky (fun u => sumF kx fun t => i (g (loX + (t : Nat)) (loY + (u : Nat)) z)) ≤ 256 := fun i hi z => by
    have h1 := sumF_le 16 ky (fun u => sumF kx fun t => i (g (loX + (t : Nat)) (loY + (u : Nat)) z)) fun u _ => by
      have := sumF_le 1 kx (fun t => i (g (loX + (t : Nat)) (loY + (u : Nat)) z)) fun t _ => hi _
      omega
    omega
  have := sumLoop (F := Dimpl_CountIn_3 n s.inn s.pl.A s.pl.B s.pl.C s.pl.D s.kids loZ hiX hiY hiZ) (st := fun z => (z, loX, loY)) (out := fun a b => some ((a : Int), (b : Int))) (h1 := fun z => sumF ky fun u => sumF kx fun t => i1 (g (loX + (t : Nat)) (loY + (u : Nat)) z)) (h0 := fun z => sumF ky fun u => sumF kx fun t => i0 (g (loX + (t : Nat)) (loY + (u : Nat)) z)) (lo := loZ) (hi := hiZ) (c := 256) (A := 80000) ?_ ?_ (fun z _ _ => ⟨hle i1 (fun v => (i_le v).1) z, hle i0 (fun v => (i_le v).2) z⟩) kz n loZ 0 0 G.z (Int.le_refl _) (by omega) (by omega) (by omega)
  · simpa using this
  · intro rec a b z h1 h2 h3 h4
    have hzz := In6.mid G.bz h1 h2
    show frk (decide (z ≤ hiZ)) _ _ = _
    rw [le_dec h2, frk_t, iCi2 hA G rec z hzz a b (by omega) (by omega)]
  · intro rec a b z h
    show frk (decide (z ≤ hiZ)) _ (some _) = _
    rw [le_no h, frk_f]
end
theorem sum3_swap (kx ky kz : Nat) (h : Nat → Nat → Nat → Nat) : (sumF kx fun v => sumF ky fun u => sumF kz fun t => h v u t) = sumF kz fun t => sumF ky fun u => sumF kx fun v => h v u t := by
  have e1 : (sumF kx fun v => sumF ky fun u => sumF kz fun t => h v u t) = sumF kx fun v => sumF kz fun t => sumF ky fun u => h v u t := sumF_congr kx fun v _ => sumF_swap kz ky _
  rw [e1, sumF_swap kz kx]
  exact sumF_congr kz fun t _ => sumF_swap ky kx _

/-- The points of a grid that are in, and on. -/
def gridV (g : Int → Int → Int → Int) (lo : Pt) (kx ky kz : Nat) : Int × Int :=
  (((sumF kz fun v => sumF ky fun u => sumF kx fun t => i1 (g (lo.X + (t : Nat)) (lo.Y + (u : Nat)) (lo.Z + (v : Nat))) : Nat) : Int), ((sumF kz fun v => sumF ky fun u => sumF kx fun t => i0 (g (lo.X + (t : Nat)) (lo.Y + (u : Nat)) (lo.Z + (v : Nat))) : Nat) : Int))

open Classical in
/-- A grid of a right solid, counted on both sides. -/
theorem countGood {n : Nat} {s : Sol} {lo hi : Pt} {g : Int → Int → Int → Int} (k1 : Dspec_SolidOk n s = some (decide (Right s))) (k2 : Dimpl_SolidOk n s = some (decide (Right s))) (hr : Right s) (k3 : 1000002 ≤ n)
    (hI : ∀ x y z, In6 x → In6 y → In6 z → Dimpl_Solid_whereOf n s ⟨x, y, z⟩ = some (g x y z)) (hS : ∀ x y z, In6 x → In6 y → In6 z → Dspec_l17At n s x y z = some (g x y z))
    (hl : ptB lo = true) (hh : ptB hi = true) (hw : (wyB lo.X hi.X && (wyB lo.Y hi.Y && wyB lo.Z hi.Z)) = true) :
    Dspec_CountIn n s lo hi = some (gridV g lo (hi.X - lo.X + 1).toNat (hi.Y - lo.Y + 1).toNat (hi.Z - lo.Z + 1).toNat) ∧ Dimpl_CountIn n s lo hi = some (gridV g lo (hi.X - lo.X + 1).toNat (hi.Y - lo.Y + 1).toNat (hi.Z - lo.Z + 1).toNat) := by
  obtain ⟨l1, l2, l3⟩ := (ptB_iff lo).1 hl
  obtain ⟨h1, h2, h3⟩ := (ptB_iff hi).1 hh
  simp only [Bool.and_eq_true] at hw
  obtain ⟨w1, w2, w3⟩ := hw
  have u1 := w1; have u2 := w2; have u3 := w3
  unfold wyB at u1 u2 u3
  simp only [Bool.and_eq_true, decide_eq_true_eq] at u1 u2 u3
  have hG : Grid n lo.X lo.Y lo.Z hi.X hi.Y hi.Z (hi.X - lo.X + 1).toNat (hi.Y - lo.Y + 1).toNat (hi.Z - lo.Z + 1).toNat := ⟨by omega, by omega, by omega, by omega, by omega, by omega, by omega, ⟨l1, h1⟩, ⟨l2, h2⟩, ⟨l3, h3⟩⟩
  constructor
  · unfold Dspec_CountIn Dspec_CountIn_0
    simp only [sPtOk, hl, hh, Option.bind_some, sWay l1 h1, sWay l2 h2, sWay l3 h3, w1, w2, w3, Bool.not_true, frk_f, k1, decide_eq_true hr]
    rw [sCi3 hS hG]
    exact congrArg some (Prod.ext (congrArg (fun k : Nat => (k : Int)) (sum3_swap _ _ _ fun v u t => i1 (g (lo.X + (v : Nat)) (lo.Y + (u : Nat)) (lo.Z + (t : Nat))))) (congrArg (fun k : Nat => (k : Int)) (sum3_swap _ _ _ fun v u t => i0 (g (lo.X + (v : Nat)) (lo.Y + (u : Nat)) (lo.Z + (t : Nat))))))
  · unfold Dimpl_CountIn Dimpl_isGrid Dimpl_CountIn_0
    simp only [iPtOk, hl, hh, Option.bind_some, frk_t, iWay l1 h1, iWay l2 h2, iWay l3 h3, w1, w2, w3, Bool.not_true, frk_f, k2, decide_eq_true hr]
    exact iCi3 hI hG
open Classical in
/-- No grid, or no right solid: nothing is counted. -/
theorem countBad {n : Nat} {s : Sol} {lo hi : Pt} (k1 : Dspec_SolidOk n s = some (decide (Right s))) (k2 : Dimpl_SolidOk n s = some (decide (Right s)))
    (hb : ¬ (Right s ∧ ptB lo = true ∧ ptB hi = true ∧ (wyB lo.X hi.X && (wyB lo.Y hi.Y && wyB lo.Z hi.Z)) = true)) : Dspec_CountIn n s lo hi = some (0, 0) ∧ Dimpl_CountIn n s lo hi = some (0, 0) := by
  by_cases hl : ptB lo = true
  · by_cases hh : ptB hi = true
    · obtain ⟨l1, l2, l3⟩ := (ptB_iff lo).1 hl
      obtain ⟨h1, h2, h3⟩ := (ptB_iff hi).1 hh
      by_cases hw : (wyB lo.X hi.X && (wyB lo.Y hi.Y && wyB lo.Z hi.Z)) = true
      · have hr : ¬ Right s := fun hr => hb ⟨hr, hl, hh, hw⟩
        simp only [Bool.and_eq_true] at hw
        obtain ⟨w1, w2, w3⟩ := hw
        constructor
        · unfold Dspec_CountIn; simp only [k1, decide_eq_false hr, Option.bind_some, Bool.not_false, frk_t]
        · unfold Dimpl_CountIn Dimpl_isGrid Dimpl_CountIn_0
          simp only [iPtOk, hl, hh, Option.bind_some, frk_t, iWay l1 h1, iWay l2 h2, iWay l3 h3, w1, w2, w3, Bool.not_true, frk_f, k2, decide_eq_false hr, Bool.not_false]
      · constructor
        · unfold Dspec_CountIn Dspec_CountIn_0
          simp only [sPtOk, hl, hh, Option.bind_some, sWay l1 h1, sWay l2 h2, sWay l3 h3, k1]
          cases decide (Right s)
          · rfl
          · revert hw
            cases wyB lo.X hi.X <;> cases wyB lo.Y hi.Y <;> cases wyB lo.Z hi.Z <;> intro hw <;> first | rfl | exact absurd rfl hw
        · unfold Dimpl_CountIn Dimpl_isGrid
          simp only [iPtOk, hl, hh, Option.bind_some, frk_t, iWay l1 h1, iWay l2 h2, iWay l3 h3]
          revert hw
          cases wyB lo.X hi.X <;> cases wyB lo.Y hi.Y <;> cases wyB lo.Z hi.Z <;> intro hw <;> first | rfl | exact absurd rfl hw
    · rw [Bool.not_eq_true] at hh
      constructor
      · unfold Dspec_CountIn
        simp only [sPtOk, hl, hh, Option.bind_some, k1]
        cases decide (Right s) <;> rfl
      · unfold Dimpl_CountIn Dimpl_isGrid
        simp only [iPtOk, hl, hh, Option.bind_some]; rfl
  · rw [Bool.not_eq_true] at hl
    constructor
    · unfold Dspec_CountIn
      simp only [sPtOk, hl, Option.bind_some, k1]
      cases decide (Right s) <;> rfl
    · unfold Dimpl_CountIn Dimpl_isGrid
      simp only [iPtOk, hl, Option.bind_some]; rfl
/-- Where points of a right solid lie, on both sides. -/
theorem whereBoth {s : Sol} (hr : Right s) : ∃ g : Int → Int → Int → Int, Ev fun n => (∀ x y z, In6 x → In6 y → In6 z → Dimpl_Solid_whereOf n s ⟨x, y, z⟩ = some (g x y z)) ∧ (∀ x y z, In6 x → In6 y → In6 z → Dspec_l17At n s x y z = some (g x y z)) := by
  obtain ⟨f, hf⟩ := aroundOk hr.1.fk
  have hN : Ev fun n => 1000002 ≤ n := ⟨_, fun n hn => hn⟩
  refine ⟨fun x y z => wh (f ⟨x, y, z, 1⟩), (hf.ev.and hN).mono fun n ⟨k4, k3⟩ => ⟨fun x y z hx hy hz => ?_, fun x y z hx hy hz => ?_⟩⟩
  · unfold Dimpl_Solid_whereOf Dimpl_spotAt Dimpl_Solid_around
    rw [Option.bind_some, (k4 _).2, Option.bind_some, iWh]; rfl
  · unfold Dspec_l17At Dspec_l10Around
    rw [sSpot n x y z hx hy hz k3, Option.bind_some, (k4 _).1, Option.bind_some, sWh]; rfl
open Classical in
theorem countEq (s : Sol) (h : Lens s) (lo hi : Pt) : ∃ v, Ev fun n => Dspec_CountIn n s lo hi = some v ∧ Dimpl_CountIn n s lo hi = some v := by
  have e1 := sSolidOk s h; have e2 := iSolidOk s
  have hN : Ev fun n => 1000002 ≤ n := ⟨_, fun n hn => hn⟩
  by_cases hg : Right s ∧ ptB lo = true ∧ ptB hi = true ∧ (wyB lo.X hi.X && (wyB lo.Y hi.Y && wyB lo.Z hi.Z)) = true
  · obtain ⟨hr, hl, hh, hw⟩ := hg
    obtain ⟨g, hg⟩ := whereBoth hr
    exact ⟨_, (e1.and (e2.and (hN.and hg))).mono fun n ⟨k1, k2, k3, k4, k5⟩ => countGood k1 k2 hr k3 k4 k5 hl hh hw⟩
  · exact ⟨(0, 0), (e1.and e2).mono fun n ⟨k1, k2⟩ => countBad k1 k2 hg⟩
end Evl.T

/-! Ese -/
namespace Evl.T
open Go Evl

def vl : List Int → Int
  | [] => 0
  | d :: l => d + 10000 * vl l
def Dg (l : List Int) : Prop := ∀ d ∈ l, 0 ≤ d ∧ d ≤ 9999
theorem Dg.head {d : Int} {l : List Int} (h : Dg (d :: l)) : 0 ≤ d ∧ d ≤ 9999 := h d (by simp)
theorem Dg.tail {d : Int} {l : List Int} (h : Dg (d :: l)) : Dg l := fun x hx => h x (by simp [hx])
theorem Dg.cons {d : Int} {l : List Int} (h1 : 0 ≤ d) (h2 : d ≤ 9999) (h : Dg l) : Dg (d :: l) := by
  intro x hx
  rcases List.mem_cons.1 hx with rfl | hx
  · exact ⟨h1, h2⟩
  · exact h x hx
theorem Dg.nil : Dg [] := fun _ h => absurd h (by simp)
theorem Dg.get {l : List Int} (h : Dg l) {i : Nat} {d : Int} (hd : l[i]? = some d) : 0 ≤ d ∧ d ≤ 9999 := h d (List.mem_of_getElem? hd)
theorem Dg.take {l : List Int} (h : Dg l) (i : Nat) : Dg (l.take i) := fun d hd => h d (List.mem_of_mem_take hd)
theorem Dg.drop {l : List Int} (h : Dg l) (i : Nat) : Dg (l.drop i) := fun d hd => h d (List.mem_of_mem_drop hd)
theorem vl_nn : ∀ {l : List Int}, Dg l → 0 ≤ vl l
  | [], _ => Int.le_refl _
  | d :: l, h => by have := vl_nn h.tail; have := h.head; unfold vl; omega
def dg (v : Nat) : List Int := if v = 0 then [] else ((v % 10000 : Nat) : Int) :: dg (v / 10000)
theorem dg_zero : dg 0 = [] := by rw [dg, if_pos rfl]
theorem dg_pos {v : Nat} (h : 0 < v) : dg v = ((v % 10000 : Nat) : Int) :: dg (v / 10000) := by rw [dg, if_neg (by omega)]
theorem Dg_dg (v : Nat) : Dg (dg v) := by
  induction v using Nat.strongRecOn with
  | ind v ih =>
    by_cases h : v = 0
    · subst h; rw [dg_zero]; exact Dg.nil
    · rw [dg_pos (by omega)]; exact Dg.cons (by omega) (by omega) (ih _ (by omega))
theorem vl_dg (v : Nat) : vl (dg v) = v := by
  induction v using Nat.strongRecOn with
  | ind v ih =>
    by_cases h : v = 0
    · subst h; rw [dg_zero]; rfl
    · rw [dg_pos (by omega)]; unfold vl; rw [ih _ (by omega)]; omega
theorem dg_inj {a b : Nat} (h : dg a = dg b) : a = b := by have := congrArg vl h; rw [vl_dg, vl_dg] at this; omega
theorem dg_len : ∀ (k v : Nat), v < 10000 ^ k → (dg v).length ≤ k
  | 0, v, h => by
      have : v = 0 := by simpa using h
      subst this; rw [dg_zero]; exact Nat.le_refl 0
  | k + 1, v, h => by
    by_cases h0 : v = 0
    · subst h0; rw [dg_zero]; simp
    · rw [dg_pos (by omega), List.length_cons]
      have := dg_len k (v / 10000) (by rw [Nat.pow_succ] at h; omega)
      omega
theorem dg_len3 {v : Nat} (h : v < 1000000000000) : (dg v).length ≤ 3 := dg_len 3 v (by simpa using h)
theorem dg_mono {a b : Nat} (h : b ≤ a) : (dg b).length ≤ (dg a).length := by
  induction a using Nat.strongRecOn generalizing b with
  | ind a ih =>
    by_cases h0 : b = 0
    · subst h0; rw [dg_zero]; simp
    · rw [dg_pos (v := b) (by omega), dg_pos (v := a) (by omega), List.length_cons, List.length_cons]
      have := ih (a / 10000) (by omega) (b := b / 10000) (by omega)
      omega
theorem dg_ne {v : Nat} : dg v ≠ [] ↔ 0 < v := by
  constructor
  · intro h
    by_cases h0 : v = 0
    · subst h0; exact absurd dg_zero h
    · omega
  · intro h; rw [dg_pos h]; simp
theorem dg_last (v : Nat) : (dg v).getLast? ≠ some 0 := by
  induction v using Nat.strongRecOn with
  | ind v ih =>
    by_cases h : v = 0
    · subst h; rw [dg_zero]; simp
    · rw [dg_pos (by omega)]
      by_cases h2 : v / 10000 = 0
      · rw [h2, dg_zero]; simp; omega
      · have := ih (v / 10000) (by omega)
        rw [dg_pos (v := v / 10000) (by omega)] at this ⊢
        rw [List.getLast?_cons_cons]; exact this
theorem dg_of : ∀ {l : List Int}, Dg l → l.getLast? ≠ some 0 → l = dg (vl l).toNat ∧ (l ≠ [] → 0 < vl l)
  | [], _, _ => ⟨by show [] = dg 0; rw [dg_zero], fun h => absurd rfl h⟩
  | [d], h, hl => by
    have hd := h.head
    have h0 : d ≠ 0 := by simpa using hl
    have e : vl [d] = d := by simp [vl]
    refine ⟨?_, fun _ => by rw [e]; omega⟩
    rw [e, dg_pos (by omega), show d.toNat / 10000 = 0 by omega, dg_zero]
    congr 1; omega
  | d :: e :: l, h, hl => by
    rw [List.getLast?_cons_cons] at hl
    obtain ⟨h1, h2⟩ := dg_of h.tail hl
    have h2 := h2 (by simp)
    have hd := h.head
    have e1 : vl (d :: e :: l) = d + 10000 * vl (e :: l) := rfl
    refine ⟨?_, fun _ => by omega⟩
    rw [e1, dg_pos (by omega), show (d + 10000 * vl (e :: l)).toNat / 10000 = (vl (e :: l)).toNat by omega, ← h1]
    congr 1; omega
theorem dg_of' {l : List Int} (h : Dg l) (hl : l.getLast? ≠ some 0) {v : Nat} (hv : vl l = v) : l = dg v := by
  have := (dg_of h hl).1; rw [hv] at this; exact this

theorem vl_app : ∀ (a b : List Int), vl (a ++ b) = vl a + 10000 ^ a.length * vl b
  | [], b => by simp [vl]
  | d :: a, b => by
    rw [List.cons_append]; show d + 10000 * vl (a ++ b) = (d + 10000 * vl a) + 10000 ^ (d :: a).length * vl b; rw [vl_app a b, List.length_cons, Int.pow_succ, Int.mul_add]
    have : (10000 : Int) ^ a.length * 10000 * vl b = 10000 * ((10000 : Int) ^ a.length * vl b) := by rw [Int.mul_comm ((10000 : Int) ^ a.length) 10000, Int.mul_assoc]
    omega
theorem vl_lt : ∀ {l : List Int}, Dg l → vl l < 10000 ^ l.length
  | [], _ => by simp [vl]
  | d :: l, h => by
    have := vl_lt h.tail; have := h.head
    unfold vl; rw [List.length_cons, Int.pow_succ]; omega
theorem vl_take_s {l : List Int} {i : Nat} {d : Int} (hd : l[i]? = some d) : vl (l.take (i + 1)) = vl (l.take i) + 10000 ^ i * d := by
  have hi := (List.getElem?_eq_some_iff.1 hd).1
  rw [List.take_add_one, hd, vl_app, List.length_take, Nat.min_eq_left (by omega)]
  simp [vl]
theorem vl_drop_s {l : List Int} {i : Nat} {d : Int} (hd : l[i]? = some d) : vl (l.drop i) = d + 10000 * vl (l.drop (i + 1)) := by
  obtain ⟨hi, he⟩ := List.getElem?_eq_some_iff.1 hd
  rw [List.drop_eq_getElem_cons hi, he]; rfl
theorem vl_drop_le {l : List Int} (h : Dg l) : ∀ (i : Nat), vl (l.drop i) ≤ vl l := by
  intro i
  induction i generalizing l with
  | zero => exact Int.le_refl _
  | succ i ih =>
    cases l with
    | nil => exact Int.le_refl _
    | cons d l =>
      have := ih h.tail; have := h.head; have := vl_nn h.tail
      rw [List.drop_succ_cons]
      have e : vl (d :: l) = d + 10000 * vl l := rfl
      omega

theorem apB8 {n : Nat} (h : n ≤ 1000000) : apB 8 n = true := by
  simp only [apB, Bool.and_eq_true, decide_eq_true_eq]; omega
theorem w64_prd {i : Nat} (h : i ≤ 1000000) : w64 (((i + 1 : Nat) : Int) - 1) = (i : Int) := by
  rw [w64_id (by omega) (by omega)]; omega
theorem dec_t {p : Prop} [Decidable p] (h : p) : decide p = true := by simp [h]
theorem dec_f {p : Prop} [Decidable p] (h : ¬ p) : decide p = false := by simp [h]

/-! l1Num -/
theorem numStep (n : Nat) (t0 : Bool) (t1 : List Int) (b : Bool) (rec0 : Int → Option Num) (a : Int) :
    Dspec_l1Num_2 n t0 t1 b rec0 a = frk (decide (a > 0)) ((lget t1 (w64 (a - 1))).bind fun v0 => frk (v0 == 0) (rec0 (w64 (a - 1))) (Dspec_l1Num_1 n t0 t1 a b)) (Dspec_l1Num_1 n t0 t1 a b) := rfl
theorem numEnd (n : Nat) (t0 : Bool) (l : List Int) (i : Nat) (b : Bool) (hi : i ≤ l.length) (hl : l.length ≤ 1000) :
    Dspec_l1Num_1 n t0 l (i : Int) b = some ⟨t0 && decide (0 < i), l.take i⟩ := by
  unfold Dspec_l1Num_1
  have hc : apB 8 (0 + (l.take i).length) = true := apB8 (by rw [List.length_take]; omega)
  rw [lsl_take _ _ hi]
  simp only [Option.bind_some]
  rw [chk_eq hc, chk_eq hc]
  cases t0
  · rw [frk_f]; rfl
  · rw [frk_t]
    have : decide ((i : Int) > 0) = decide (0 < i) := dec_iff (by omega)
    rw [this]; simp
theorem numLoop (n : Nat) (t0 b : Bool) (l : List Int) (hD : Dg l) (hl : l.length ≤ 1000) {v : Nat} (hv : vl l = v) : ∀ (i m : Nat), i ≤ l.length → vl (l.take i) = v → i < m →
    loopN (Dspec_l1Num_2 n t0 l b) m (i : Int) = some ⟨t0 && decide (0 < v), dg v⟩ := by
  intro i
  induction i with
  | zero =>
    intro m _ h0 hm
    obtain ⟨m, rfl⟩ : ∃ j, m = j + 1 := ⟨m - 1, by omega⟩
    have : v = 0 := by simp [vl] at h0; omega
    subst this
    rw [loop_suc, numStep, dec_f (by simp), frk_f, numEnd n t0 l 0 b (by omega) hl, dg_zero]
    rfl
  | succ i ih =>
    intro m hi h0 hm
    obtain ⟨m, rfl⟩ : ∃ j, m = j + 1 := ⟨m - 1, by omega⟩
    obtain ⟨d, hd⟩ : ∃ d, l[i]? = some d := ⟨l[i], List.getElem?_eq_getElem (by omega)⟩
    rw [loop_suc, numStep, dec_t (by omega), frk_t, w64_prd (by omega), lget_nat, hd, Option.bind_some]
    by_cases h : d = 0
    · subst h
      rw [show ((0 : Int) == 0) = true from rfl, frk_t]
      refine ih m (by omega) ?_ (by omega)
      rw [vl_take_s hd] at h0; omega
    · rw [show (d == 0) = false by simpa using h, frk_f, numEnd n t0 l (i + 1) b hi hl]
      have hlast : (l.take (i + 1)).getLast? ≠ some 0 := by
        rw [List.take_add_one, hd]; simpa using h
      have e := dg_of' (hD.take (i + 1)) hlast h0
      have hp := (dg_of (hD.take (i + 1)) hlast).2 (by rw [List.take_add_one, hd]; simp)
      rw [← e]
      have : decide (0 < i + 1) = decide (0 < v) := dec_iff ⟨fun _ => by omega, fun _ => by omega⟩
      rw [this]
theorem numOk (n : Nat) (t0 : Bool) (l : List Int) (hD : Dg l) (hl : l.length ≤ 1000) {v : Nat} (hv : vl l = v) (hn : l.length < n) : Dspec_l1Num n t0 l = some ⟨t0 && decide (0 < v), dg v⟩ := by
  unfold Dspec_l1Num
  exact numLoop n t0 false l hD hl hv l.length n (Nat.le_refl _) (by rw [List.take_length]; exact hv) hn

/-! Of -/
theorem ofStep (n : Nat) (t0 : Int) (b : Bool) (rec0 : (Int × List Int) → Option Num) (t3 : Int) (l : List Int) :
    Dspec_Of_2 n t0 b rec0 (t3, l) = frk (decide (t3 > 0)) (chk (apB 8 (l.length + 1)) (rec0 (IntKind.u64.wrap (Int.tdiv t3 10000), (l ++ [w64 (Int.tmod t3 10000)])))) (Dspec_Of_1 n t0 b l) := rfl
theorem u64w {x : Int} (h : 0 ≤ x) (h2 : x < 18446744073709551616) : IntKind.u64.wrap x = x := by
  have : IntKind.u64.wrap x = x % 18446744073709551616 := rfl
  omega
theorem ofLoop (n : Nat) (t0 : Int) (b : Bool) : ∀ (v : Nat) (l : List Int) (m : Nat), v < 18446744073709551616 → l.length + (dg v).length ≤ 1000 → (dg v).length < m →
    loopN (Dspec_Of_2 n t0 b) m ((v : Int), l) = Dspec_Of_1 n t0 b (l ++ dg v) := by
  intro v
  induction v using Nat.strongRecOn with
  | ind v ih =>
    intro l m h0 h1 hm
    obtain ⟨m, rfl⟩ : ∃ j, m = j + 1 := ⟨m - 1, by omega⟩
    rw [loop_suc, ofStep]
    by_cases h : v = 0
    · subst h; rw [dec_f (by simp), frk_f, dg_zero, List.append_nil]
    · rw [dec_t (by omega), frk_t]
      rw [dg_pos (by omega)] at h1 hm ⊢
      rw [List.length_cons] at h1 hm
      rw [chk_eq (apB8 (by omega))]
      have e1 : IntKind.u64.wrap (Int.tdiv (v : Int) 10000) = ((v / 10000 : Nat) : Int) := by
        rw [Int.tdiv_eq_ediv_of_nonneg (by omega), u64w (by omega) (by omega)]; omega
      have e2 : w64 (Int.tmod (v : Int) 10000) = ((v % 10000 : Nat) : Int) := by
        rw [Int.tmod_eq_emod_of_nonneg (by omega), w64_id (by omega) (by omega)]; omega
      rw [e1, e2, ih (v / 10000) (by omega) _ m (by omega) (by rw [List.length_append, List.length_singleton]; omega) (by omega), List.append_assoc]
      rfl
theorem ofOk (n : Nat) (x : Int) (h : x.natAbs < 1000000000000) (hn : 5 ≤ n) : Dspec_Of n x = some ⟨decide (x < 0), dg x.natAbs⟩ := by
  have hl := dg_len3 h
  have key : ∀ b, Dspec_Of_0 n x (x.natAbs : Int) b [] = some ⟨decide (x < 0), dg x.natAbs⟩ := by
    intro b
    unfold Dspec_Of_0
    rw [ofLoop n x b x.natAbs [] n (by omega) (by simp; omega) (by omega), List.nil_append]
    unfold Dspec_Of_1
    rw [numOk n _ _ (Dg_dg _) (by omega) (vl_dg _) (by omega), Option.bind_some]
    by_cases hx : x < 0
    · simp [hx]; omega
    · simp [hx]
  unfold Dspec_Of
  by_cases hx : x < 0
  · rw [dec_t hx, frk_t]
    have e : IntKind.u64.wrap ((IntKind.u64.wrap (w64 (0 - (w64 (x + 1))))) + 1) = (x.natAbs : Int) := by
      rw [w64_id (x := x + 1) (by omega) (by omega), w64_id (by omega) (by omega), u64w (x := 0 - (x + 1)) (by omega) (by omega), u64w (by omega) (by omega)]; omega
    rw [e, key]; rw [dec_t hx]
  · rw [dec_f hx, frk_f]
    have e : IntKind.u64.wrap x = (x.natAbs : Int) := by rw [u64w (by omega) (by omega)]; omega
    rw [e, key]; rw [dec_f hx]

/-! NumOk -/
theorem nokStep (n : Nat) (t3 : Int) (g : Bool) (l : List Int) (rec0 : Int → Option Bool) (a : Int) :
    Dspec_NumOk_2 n t3 g l rec0 a = frk (decide (a < t3)) (frk (decide (a ≤ 120)) ((lget l a).bind fun v0 => (Dspec_l1In v0 0 9999).bind fun v1 => frk (!v1) (some false) (rec0 (w64 (a + 1)))) (Dspec_NumOk_1 n t3 g l)) (Dspec_NumOk_1 n t3 g l) := rfl
theorem nokEnd (n : Nat) (g : Bool) (v : Nat) (hl : (dg v).length ≤ 100) (hg : g = true → 0 < v) : Dspec_NumOk_1 n ((dg v).length : Int) g (dg v) = some true := by
  unfold Dspec_NumOk_1
  rw [dec_t (by omega), frk_t]
  by_cases h : v = 0
  · subst h
    rw [dg_zero]
    have : g = false := by cases g with
      | false => rfl
      | true => have := hg rfl; omega
    subst this; rfl
  · have hp := List.length_pos_iff.2 (dg_ne.2 (show 0 < v by omega))
    obtain ⟨k, hk⟩ : ∃ k, (dg v).length = k + 1 := ⟨(dg v).length - 1, by omega⟩
    have hla := dg_last v
    rw [List.getLast?_eq_getElem?, hk] at hla
    obtain ⟨d, hd⟩ : ∃ d, (dg v)[k]? = some d := ⟨(dg v)[k], List.getElem?_eq_getElem (by omega)⟩
    rw [Nat.add_sub_cancel, hd] at hla
    have hd0 : d ≠ 0 := by simpa using hla
    rw [hk, show (((k + 1 : Nat) : Int) == 0) = false by simp; omega, frk_f, dec_t (by omega), frk_t, w64_prd (by omega), lget_nat, hd, Option.bind_some]
    simpa using hd0
theorem nokLoop (n : Nat) (g : Bool) (v : Nat) (hl : (dg v).length ≤ 100) (hg : g = true → 0 < v) : ∀ (k i m : Nat), i + k = (dg v).length → k < m →
    loopN (Dspec_NumOk_2 n ((dg v).length : Int) g (dg v)) m (i : Int) = some true := by
  intro k
  induction k with
  | zero =>
    intro i m h0 hm
    obtain ⟨m, rfl⟩ : ∃ j, m = j + 1 := ⟨m - 1, by omega⟩
    rw [loop_suc, nokStep, dec_f (by omega), frk_f, nokEnd n g v hl hg]
  | succ k ih =>
    intro i m h0 hm
    obtain ⟨m, rfl⟩ : ∃ j, m = j + 1 := ⟨m - 1, by omega⟩
    obtain ⟨d, hd⟩ : ∃ d, (dg v)[i]? = some d := ⟨(dg v)[i], List.getElem?_eq_getElem (by omega)⟩
    have := (Dg_dg v).get hd
    rw [loop_suc, nokStep, dec_t (by omega), frk_t, dec_t (by omega), frk_t, lget_nat, hd, Option.bind_some, sIn, Option.bind_some, rIn_iff.2 this, Bool.not_true, frk_f, w64_suc (by unfold big; omega)]
    exact ih (i + 1) m (by omega) (by omega)
theorem nokOk (n : Nat) (g : Bool) (v : Nat) (hv : v < 1000000000000) (hg : g = true → 0 < v) (hn : 5 ≤ n) : Dspec_NumOk n ⟨g, dg v⟩ = some true := by
  have hl := dg_len3 hv
  unfold Dspec_NumOk
  exact nokLoop n g v (by omega) hg (dg v).length 0 n (by omega) (by omega)
theorem magOk (n : Nat) (g : Bool) (v : Nat) (hv : v < 1000000000000) (hg : g = true → 0 < v) (hn : 5 ≤ n) : Dspec_l1Mag n ⟨g, dg v⟩ = some (dg v) := by
  unfold Dspec_l1Mag; rw [nokOk n g v hv hg hn]; rfl
theorem signOk (n : Nat) (g : Bool) (v : Nat) (hv : v < 1000000000000) (hg : g = true → 0 < v) (hn : 5 ≤ n) : Dspec_l1Sign n ⟨g, dg v⟩ = some g := by
  unfold Dspec_l1Sign; rw [nokOk n g v hv hg hn]; rfl
end Evl.T

/-! Esf -/
namespace Evl.T
open Go Evl

/-! l1CmpMag -/
theorem cmpStep (n : Nat) (a b : List Int) (rec0 : Int → Option Int) (i : Int) :
    Dspec_l1CmpMag_0 n a b rec0 i = frk (decide (i ≥ 0)) ((lget a i).bind fun v0 => (lget b i).bind fun v1 => frk (v0 != v1) ((lget a i).bind fun v2 => (lget b i).bind fun v3 => frk (decide (v2 < v3)) (some (-1)) (some 1)) (rec0 (w64 (i - 1)))) (some 0) := rfl
theorem pow_step {x y P : Int} (hP : 0 ≤ P) (h : x < y) : P * x + P ≤ P * y := by
  have : P * (x + 1) ≤ P * y := Int.mul_le_mul_of_nonneg_left (by omega) hP
  rw [Int.mul_add, Int.mul_one] at this; exact this
theorem cmpLoop (n : Nat) {a b : List Int} (ha : Dg a) (hb : Dg b) (hl : a.length = b.length) (hl2 : a.length ≤ 1000) : ∀ (i m : Nat), i ≤ a.length → i < m →
    ∃ r, loopN (Dspec_l1CmpMag_0 n a b) m ((i : Int) - 1) = some r ∧ (r ≥ 0 ↔ vl (b.take i) ≤ vl (a.take i)) := by
  intro i
  induction i with
  | zero =>
    intro m _ hm
    obtain ⟨m, rfl⟩ : ∃ j, m = j + 1 := ⟨m - 1, by omega⟩
    refine ⟨0, ?_, by simp [vl]⟩
    rw [loop_suc, cmpStep, dec_f (by omega), frk_f]
  | succ i ih =>
    intro m hi hm
    obtain ⟨m, rfl⟩ : ∃ j, m = j + 1 := ⟨m - 1, by omega⟩
    obtain ⟨x, hx⟩ : ∃ d, a[i]? = some d := ⟨a[i], List.getElem?_eq_getElem (by omega)⟩
    obtain ⟨y, hy⟩ : ∃ d, b[i]? = some d := ⟨b[i], List.getElem?_eq_getElem (by omega)⟩
    have e : ((i + 1 : Nat) : Int) - 1 = (i : Int) := by omega
    rw [loop_suc, cmpStep, e, dec_t (by omega), frk_t, lget_nat, lget_nat, hx, hy, Option.bind_some, Option.bind_some]
    simp only [Option.bind_some]
    have p1 := vl_lt (ha.take i)
    have p2 := vl_lt (hb.take i)
    rw [List.length_take, Nat.min_eq_left (by omega)] at p1 p2
    have q1 := vl_nn (ha.take i)
    have q2 := vl_nn (hb.take i)
    have hP : (0 : Int) ≤ 10000 ^ i := Int.pow_nonneg (by omega)
    rw [vl_take_s hx, vl_take_s hy]
    by_cases h : x = y
    · subst h
      rw [show (x != x) = false by simp, frk_f, w64_id (by omega) (by omega)]
      obtain ⟨r, h1, h2⟩ := ih m (by omega) (by omega)
      exact ⟨r, h1, h2.trans (by omega)⟩
    · rw [show (x != y) = true by simpa using h, frk_t]
      by_cases h2 : x < y
      · refine ⟨-1, by rw [dec_t h2, frk_t], ?_⟩
        have := pow_step hP h2
        omega
      · refine ⟨1, by rw [dec_f h2, frk_f], ?_⟩
        have := pow_step hP (show y < x by omega)
        omega
theorem cmpOk (n : Nat) (a b : Nat) (hl : (dg a).length ≤ 100) (hl2 : (dg b).length ≤ 100) (hn : 101 ≤ n) : ∃ r, Dspec_l1CmpMag n (dg a) (dg b) = some r ∧ (r ≥ 0 ↔ b ≤ a) := by
  unfold Dspec_l1CmpMag
  by_cases h : (dg a).length = (dg b).length
  · rw [show (((dg a).length : Int) != ((dg b).length : Int)) = false by rw [h]; simp, frk_f, w64_id (by omega) (by omega)]
    obtain ⟨r, h1, h2⟩ := cmpLoop n (Dg_dg a) (Dg_dg b) h (by omega) (dg a).length n (Nat.le_refl _) (by omega)
    refine ⟨r, h1, h2.trans ?_⟩
    rw [List.take_length, h, List.take_length, vl_dg, vl_dg]; omega
  · rw [show (((dg a).length : Int) != ((dg b).length : Int)) = true by simpa using by omega, frk_t]
    by_cases h2 : (dg a).length < (dg b).length
    · refine ⟨-1, by rw [dec_t (by omega), frk_t], ?_⟩
      constructor
      · intro h; omega
      · intro h; have := dg_mono h; omega
    · refine ⟨1, by rw [dec_f (by omega), frk_f], ?_⟩
      constructor
      · intro _
        by_cases hh : b ≤ a
        · exact hh
        · have := dg_mono (show a ≤ b by omega); omega
      · intro _; omega

/-! l1Guess -/
theorem guessStep1 (n : Nat) (a b : List Int) (rec0 : Int × Int → Option Int) (t5 t6 : Int) :
    Dspec_l1Guess_6 n a b rec0 (t5, t6) = frk (decide (t6 ≥ 0)) (frk (decide (t6 ≥ (w64 ((b.length : Int) - 3)))) ((lget a t6).bind fun v0 => rec0 (w64 ((w64 (t5 * 10000)) + v0), w64 (t6 - 1))) (Dspec_l1Guess_1 n b t5 0 (w64 ((b.length : Int) - 1)))) (Dspec_l1Guess_1 n b t5 0 (w64 ((b.length : Int) - 1))) := rfl
theorem guessStep2 (n : Nat) (b : List Int) (t5 : Int) (rec1 : Int × Int → Option Int) (t7 t8 : Int) :
    Dspec_l1Guess_5 n b t5 rec1 (t7, t8) = frk (decide (t8 ≥ 0)) (frk (decide (t8 ≥ (w64 ((b.length : Int) - 3)))) ((lget b t8).bind fun v1 => rec1 (w64 ((w64 (t7 * 10000)) + v1), w64 (t8 - 1))) (Dspec_l1Guess_3 n t5 t7 (decide ((b.length : Int) > 3)))) (Dspec_l1Guess_3 n t5 t7 (decide ((b.length : Int) > 3))) := rfl
theorem vl_small {a : List Int} (ha : Dg a) (hl : a.length ≤ 3) : vl a < 1000000000000 := by
  have h := vl_lt ha
  have : a.length = 0 ∨ a.length = 1 ∨ a.length = 2 ∨ a.length = 3 := by omega
  rcases this with e | e | e | e <;> rw [e] at h <;> omega
theorem guessL1 (n : Nat) {a b : List Int} (ha : Dg a) (hl : a.length ≤ 3) (hlb : b.length ≤ 3) : ∀ (i m : Nat), i ≤ a.length → i < m →
    loopN (Dspec_l1Guess_6 n a b) m (vl (a.drop i), (i : Int) - 1) = Dspec_l1Guess_1 n b (vl a) 0 (w64 ((b.length : Int) - 1)) := by
  intro i
  induction i with
  | zero =>
    intro m _ hm
    obtain ⟨m, rfl⟩ : ∃ j, m = j + 1 := ⟨m - 1, by omega⟩
    rw [loop_suc, guessStep1, dec_f (by omega), frk_f]; rfl
  | succ i ih =>
    intro m hi hm
    obtain ⟨m, rfl⟩ : ∃ j, m = j + 1 := ⟨m - 1, by omega⟩
    obtain ⟨x, hx⟩ : ∃ d, a[i]? = some d := ⟨a[i], List.getElem?_eq_getElem (by omega)⟩
    have e : ((i + 1 : Nat) : Int) - 1 = (i : Int) := by omega
    have b1 := vl_small ha hl
    have b2 := vl_drop_le ha i
    have b3 := vl_nn (ha.drop i)
    have b4 := vl_nn (ha.drop (i + 1))
    have b5 := ha.get hx
    have e2 := vl_drop_s hx
    rw [loop_suc, guessStep1, e, dec_t (by omega), frk_t, dec_t (by rw [w64_id (by omega) (by omega)]; omega), frk_t, lget_nat, hx, Option.bind_some]
    rw [w64_id (x := vl (a.drop (i + 1)) * 10000) (by omega) (by omega), show vl (a.drop (i + 1)) * 10000 + x = vl (a.drop i) by omega, w64_id (x := vl (a.drop i)) (by omega) (by omega), w64_id (x := (i : Int) - 1) (by omega) (by omega)]
    exact ih m (by omega) (by omega)
theorem guessL2 (n : Nat) {b : List Int} (ha : Dg b) (hl : b.length ≤ 3) (t5 : Int) : ∀ (i m : Nat), i ≤ b.length → i < m →
    loopN (Dspec_l1Guess_5 n b t5) m (vl (b.drop i), (i : Int) - 1) = Dspec_l1Guess_3 n t5 (vl b) false := by
  intro i
  induction i with
  | zero =>
    intro m _ hm
    obtain ⟨m, rfl⟩ : ∃ j, m = j + 1 := ⟨m - 1, by omega⟩
    rw [loop_suc, guessStep2, dec_f (by omega), frk_f, dec_f (by omega)]; rfl
  | succ i ih =>
    intro m hi hm
    obtain ⟨m, rfl⟩ : ∃ j, m = j + 1 := ⟨m - 1, by omega⟩
    obtain ⟨x, hx⟩ : ∃ d, b[i]? = some d := ⟨b[i], List.getElem?_eq_getElem (by omega)⟩
    have e : ((i + 1 : Nat) : Int) - 1 = (i : Int) := by omega
    have b1 := vl_small ha hl
    have b2 := vl_drop_le ha i
    have b3 := vl_nn (ha.drop i)
    have b4 := vl_nn (ha.drop (i + 1))
    have b5 := ha.get hx
    have e2 := vl_drop_s hx
    rw [loop_suc, guessStep2, e, dec_t (by omega), frk_t, dec_t (by rw [w64_id (by omega) (by omega)]; omega), frk_t, lget_nat, hx, Option.bind_some]
    rw [w64_id (x := vl (b.drop (i + 1)) * 10000) (by omega) (by omega), show vl (b.drop (i + 1)) * 10000 + x = vl (b.drop i) by omega, w64_id (x := vl (b.drop i)) (by omega) (by omega), w64_id (x := (i : Int) - 1) (by omega) (by omega)]
    exact ih m (by omega) (by omega)
theorem guessOk (n a b : Nat) (ha : a < 1000000000000) (hb : 0 < b) (hab : b ≤ a) (hn : 5 ≤ n) : Dspec_l1Guess n (dg a) (dg b) = some ((a / b : Nat) : Int) := by
  have l1 := dg_len3 ha
  have l2 := dg_len3 (show b < 1000000000000 by omega)
  unfold Dspec_l1Guess
  rw [w64_id (by omega) (by omega)]
  have e1 := guessL1 n (b := dg b) (Dg_dg a) l1 l2 (dg a).length n (Nat.le_refl _) (by omega)
  rw [List.drop_length] at e1
  have e1' : loopN (Dspec_l1Guess_6 n (dg a) (dg b)) n ((0 : Int), ((dg a).length : Int) - 1) = _ := e1
  rw [e1']
  unfold Dspec_l1Guess_1
  rw [w64_id (by omega) (by omega)]
  have e2 := guessL2 n (Dg_dg b) l2 (vl (dg a)) (dg b).length n (Nat.le_refl _) (by omega)
  rw [List.drop_length] at e2
  have e2' : loopN (Dspec_l1Guess_5 n (dg b) (vl (dg a))) n ((0 : Int), ((dg b).length : Int) - 1) = _ := e2
  rw [e2', vl_dg, vl_dg]
  unfold Dspec_l1Guess_3 Dspec_l1Guess_4
  rw [frk_f]
  have hq : 0 < a / b := Nat.div_pos hab hb
  have hq2 : a / b ≤ a := Nat.div_le_self a b
  have e3 : qt .i64 (a : Int) (b : Int) = some ((a / b : Nat) : Int) := by
    unfold qt
    rw [if_neg (by omega), Int.tdiv_eq_ediv_of_nonneg (by omega)]
    have : IntKind.i64.wrap ((a : Int) / (b : Int)) = ((a / b : Nat) : Int) := by
      have e : (a : Int) / (b : Int) = ((a / b : Nat) : Int) := by simp
      rw [e]; exact w64_id (by omega) (by omega)
    rw [this]
  rw [e3]
  simp only [Option.bind_some]
  rw [dec_t (by omega), frk_t]

/-! l1SubMag -/
def subR : List Int → List Int → Int → List Int
  | [], _, _ => []
  | x :: xs, ys, c => if x - c - ys.headD 0 < 0 then (x - c - ys.headD 0 + 10000) :: subR xs ys.tail 1 else (x - c - ys.headD 0) :: subR xs ys.tail 0
theorem hd_ok {ys : List Int} (h : Dg ys) : 0 ≤ ys.headD 0 ∧ ys.headD 0 ≤ 9999 := by
  cases ys with
  | nil => simp
  | cons y ys => exact h.head
theorem tl_ok {ys : List Int} (h : Dg ys) : Dg ys.tail := by
  cases ys with
  | nil => exact Dg.nil
  | cons y ys => exact h.tail
theorem vl_hd (ys : List Int) : vl ys = ys.headD 0 + 10000 * vl ys.tail := by
  cases ys with
  | nil => rfl
  | cons y ys => rfl
theorem subR_Dg : ∀ (xs ys : List Int) (c : Int), Dg xs → Dg ys → 0 ≤ c → c ≤ 1 → Dg (subR xs ys c)
  | [], _, _, _, _, _, _ => Dg.nil
  | x :: xs, ys, c, h1, h2, h3, h4 => by
    have := h1.head; have := hd_ok h2
    unfold subR
    split
    · exact Dg.cons (by omega) (by omega) (subR_Dg xs ys.tail 1 h1.tail (tl_ok h2) (by omega) (by omega))
    · exact Dg.cons (by omega) (by omega) (subR_Dg xs ys.tail 0 h1.tail (tl_ok h2) (by omega) (by omega))
theorem subR_vl : ∀ (xs ys : List Int) (c : Int), Dg xs → Dg ys → 0 ≤ c → c ≤ 1 → vl ys + c ≤ vl xs → vl (subR xs ys c) = vl xs - vl ys - c
  | [], ys, c, _, h2, h3, _, h5 => by
    have := vl_nn h2
    have e : vl [] = 0 := rfl
    show vl [] = _
    omega
  | x :: xs, ys, c, h1, h2, h3, h4, h5 => by
    have := h1.head; have := hd_ok h2
    have e1 := vl_hd ys
    have e2 : vl (x :: xs) = x + 10000 * vl xs := rfl
    unfold subR
    split
    · have := subR_vl xs ys.tail 1 h1.tail (tl_ok h2) (by omega) (by omega) (by omega)
      show x - c - ys.headD 0 + 10000 + 10000 * vl (subR xs ys.tail 1) = _
      omega
    · have := subR_vl xs ys.tail 0 h1.tail (tl_ok h2) (by omega) (by omega) (by omega)
      show x - c - ys.headD 0 + 10000 * vl (subR xs ys.tail 0) = _
      omega
theorem subR_len : ∀ (xs ys : List Int) (c : Int), (subR xs ys c).length = xs.length
  | [], _, _ => rfl
  | x :: xs, ys, c => by
    unfold subR
    split
    · rw [List.length_cons, List.length_cons, subR_len]
    · rw [List.length_cons, List.length_cons, subR_len]
theorem subStep (n : Nat) (a b : List Int) (rec0 : Int × Int × List Int → Option (List Int)) (t6 t7 : Int) (l : List Int) :
    Dspec_l1SubMag_2 n a b rec0 (t6, t7, l) = frk (decide (t7 < (a.length : Int))) ((lget a t7).bind fun v0 => frk (decide (t7 < (b.length : Int))) ((lget b t7).bind fun v1 => Dspec_l1SubMag_0 n rec0 a b 0 t7 (w64 ((w64 (v0 - t6)) - v1)) (decide ((w64 ((w64 (v0 - t6)) - v1)) < 0)) l) (Dspec_l1SubMag_0 n rec0 a b 0 t7 (w64 (v0 - t6)) (decide ((w64 (v0 - t6)) < 0)) l)) (some l) := rfl
theorem subMid (n : Nat) (a b : List Int) (rec0 : Int × Int × List Int → Option (List Int)) (t : Int) (i : Nat) (l : List Int) (ht : -20000 ≤ t) (ht2 : t ≤ 20000) (hl : l.length ≤ 1000) (hi : i ≤ 1000) :
    Dspec_l1SubMag_0 n rec0 a b 0 (i : Int) t (decide (t < 0)) l = if t < 0 then rec0 (1, ((i + 1 : Nat) : Int), l ++ [t + 10000]) else rec0 (0, ((i + 1 : Nat) : Int), l ++ [t]) := by
  unfold Dspec_l1SubMag_0 Dspec_l1SubMag_1
  rw [chk_eq (apB8 (by omega)), chk_eq (apB8 (by omega)), w64_suc (by unfold big; omega), w64_id (x := t + 10000) (by omega) (by omega), frk_if]
  by_cases h : t < 0
  · rw [if_pos h, dec_t h, if_pos rfl]
  · rw [if_neg h, dec_f h, if_neg (by decide)]
theorem subLoop (n : Nat) {a b : List Int} (ha : Dg a) (hb : Dg b) (hl : a.length ≤ 100) : ∀ (k i m : Nat) (c : Int) (l : List Int), i + k = a.length → k < m → 0 ≤ c → c ≤ 1 → l.length = i →
    loopN (Dspec_l1SubMag_2 n a b) m (c, (i : Int), l) = some (l ++ subR (a.drop i) (b.drop i) c) := by
  intro k
  induction k with
  | zero =>
    intro i m c l h0 hm _ _ _
    obtain ⟨m, rfl⟩ : ∃ j, m = j + 1 := ⟨m - 1, by omega⟩
    rw [loop_suc, subStep, dec_f (by omega), frk_f, show a.drop i = [] from List.drop_eq_nil_of_le (by omega)]
    show some l = some (l ++ [])
    rw [List.append_nil]
  | succ k ih =>
    intro i m c l h0 hm hc hc2 hll
    obtain ⟨m, rfl⟩ : ∃ j, m = j + 1 := ⟨m - 1, by omega⟩
    obtain ⟨x, hx⟩ : ∃ d, a[i]? = some d := ⟨a[i], List.getElem?_eq_getElem (by omega)⟩
    obtain ⟨hi, he⟩ := List.getElem?_eq_some_iff.1 hx
    have hxd := ha.get hx
    have fin : ∀ y : Int, y = (b.drop i).headD 0 → Dspec_l1SubMag_0 n (loopN (Dspec_l1SubMag_2 n a b) m) a b 0 (i : Int) (x - c - y) (decide (x - c - y < 0)) l = some (l ++ subR (a.drop i) (b.drop i) c) := by
      intro y hy
      have hyd := hd_ok (hb.drop i)
      rw [← hy] at hyd
      rw [subMid n a b _ (x - c - y) i l (by omega) (by omega) (by omega) (by omega), List.drop_eq_getElem_cons hi, he]
      unfold subR
      rw [← hy, List.tail_drop]
      by_cases h : x - c - y < 0
      · rw [if_pos h, if_pos h, ih (i + 1) m 1 _ (by omega) (by omega) (by omega) (by omega) (by simp [hll]), List.append_assoc]; rfl
      · rw [if_neg h, if_neg h, ih (i + 1) m 0 _ (by omega) (by omega) (by omega) (by omega) (by simp [hll]), List.append_assoc]; rfl
    rw [loop_suc, subStep, dec_t (by omega), frk_t, lget_nat, hx, Option.bind_some]
    by_cases hb2 : i < b.length
    · obtain ⟨y, hy⟩ : ∃ d, b[i]? = some d := ⟨b[i], List.getElem?_eq_getElem hb2⟩
      have hyd := hb.get hy
      rw [dec_t (by omega), frk_t, lget_nat, hy, Option.bind_some, w64_id (x := x - c) (by omega) (by omega), w64_id (by omega) (by omega)]
      refine fin y ?_
      rw [List.drop_eq_getElem_cons hb2]
      have := (List.getElem?_eq_some_iff.1 hy).2
      rw [this]; rfl
    · rw [dec_f (by omega), frk_f, w64_id (x := x - c) (by omega) (by omega)]
      have := fin 0 (by rw [show b.drop i = [] from List.drop_eq_nil_of_le (by omega)]; rfl)
      rw [show x - c - 0 = x - c by omega] at this
      exact this
theorem subOk (n : Nat) {a b : List Int} (ha : Dg a) (hb : Dg b) (hl : a.length ≤ 100) (hv : vl b ≤ vl a) (hn : 101 ≤ n) : ∃ r, Dspec_l1SubMag n a b = some r ∧ Dg r ∧ vl r = vl a - vl b ∧ r.length = a.length := by
  refine ⟨subR a b 0, ?_, subR_Dg a b 0 ha hb (by omega) (by omega), ?_, subR_len a b 0⟩
  · unfold Dspec_l1SubMag
    exact subLoop n ha hb hl a.length 0 n 0 [] (by omega) (by omega) (by omega) (by omega) rfl
  · have := subR_vl a b 0 ha hb (by omega) (by omega) (by omega); omega

/-! l1MulMag by a number of two digits -/
theorem mulStep1 (n : Nat) (rec0 : (Int × List Int) → Option (List Int)) (t0 t1 : List Int) (t6 : Int) (rec1 : (Int × Int × List Int) → Option (List Int)) (t7 t8 : Int) (l15 : List Int) :
    Dspec_l1MulMag_1 n rec0 t0 t1 t6 rec1 (t7, t8, l15) = frk (decide (t8 < (t1.length : Int))) ((lget t0 t6).bind fun v1 => (lget t1 t8).bind fun v2 => (lget l15 (w64 (t6 + t8))).bind fun v3 => (lget l15 (w64 (t6 + t8))).bind fun _v4 => rec1 (w64 (Int.tdiv (w64 ((w64 ((w64 (v1 * v2)) + v3)) + t7)) 10000), w64 (t8 + 1), (l15.set (Int.toNat (w64 (t6 + t8))) (Int.tmod (w64 ((w64 ((w64 (v1 * v2)) + v3)) + t7)) 10000)))) (Dspec_l1MulMag_0 n rec0 t0 t1 t6 t7 l15) := rfl
theorem mulStep2 (n : Nat) (t0 t1 : List Int) (rec0 : (Int × List Int) → Option (List Int)) (t6 : Int) (l15 : List Int) :
    Dspec_l1MulMag_2 n t0 t1 rec0 (t6, l15) = frk (decide (t6 < (t0.length : Int))) (loopN (Dspec_l1MulMag_1 n rec0 t0 t1 t6) n (0, 0, l15)) (some l15) := rfl
theorem get_pre {α : Type} (p : List α) (k : Nat) (z : List α) : (p ++ z)[p.length + k]? = z[k]? := by
  rw [List.getElem?_append_right (by omega)]; congr 1; omega
theorem set_pre {α : Type} (p : List α) (k : Nat) (z : List α) (x : α) : (p ++ z).set (p.length + k) x = p ++ z.set k x := by
  rw [List.set_append_right _ _ (by omega)]; congr 2; omega
theorem mul_nn {x y : Int} (hx : 0 ≤ x ∧ x ≤ 9999) (hy : 0 ≤ y ∧ y ≤ 9999) : 0 ≤ x * y ∧ x * y ≤ 99980001 := by
  refine ⟨Int.mul_nonneg hx.1 hy.1, ?_⟩
  have h1 : x * y ≤ 9999 * y := Int.mul_le_mul_of_nonneg_right hx.2 hy.1
  omega
theorem mulCell (n : Nat) (rec0 : (Int × List Int) → Option (List Int)) (xs ys : List Int) (rec1 : (Int × Int × List Int) → Option (List Int)) (c : Int) (j : Nat) (p zs : List Int) {x y z : Int}
    (hx : xs[p.length]? = some x) (hy : ys[j]? = some y) (hz : zs[j]? = some z) (hp : p.length ≤ 1000) (hj : j ≤ 1000)
    (bx : 0 ≤ x ∧ x ≤ 9999) (by' : 0 ≤ y ∧ y ≤ 9999) (bz : 0 ≤ z ∧ z ≤ 9999) (bc : 0 ≤ c ∧ c ≤ 9999) :
    Dspec_l1MulMag_1 n rec0 xs ys (p.length : Int) rec1 (c, (j : Int), p ++ zs) = rec1 ((x * y + z + c) / 10000, ((j + 1 : Nat) : Int), p ++ zs.set j ((x * y + z + c) % 10000)) := by
  have hjl : j < ys.length := (List.getElem?_eq_some_iff.1 hy).1
  have hb := mul_nn bx by'
  have e : w64 ((p.length : Int) + (j : Int)) = ((p.length + j : Nat) : Int) := by rw [w64_id (by omega) (by omega)]; omega
  rw [mulStep1, dec_t (by omega), frk_t, lget_nat, hx, Option.bind_some, lget_nat, hy, Option.bind_some, e, lget_nat, get_pre, hz, Option.bind_some, Option.bind_some, Int.toNat_natCast, set_pre]
  rw [w64_id (x := x * y) (by omega) (by omega), w64_id (x := x * y + z) (by omega) (by omega), w64_id (x := x * y + z + c) (by omega) (by omega), Int.tdiv_eq_ediv_of_nonneg (by omega), Int.tmod_eq_emod_of_nonneg (by omega), w64_id (by omega) (by omega), w64_suc (by unfold big; omega)]
theorem mulRow (n : Nat) (rec0 : (Int × List Int) → Option (List Int)) (xs : List Int) (y0 y1 : Int) (m : Nat) (p zs : List Int) {x z0 z1 z2 : Int}
    (hx : xs[p.length]? = some x) (hp : p.length ≤ 1000) (hm : 3 ≤ m)
    (bx : 0 ≤ x ∧ x ≤ 9999) (by0 : 0 ≤ y0 ∧ y0 ≤ 9999) (by1 : 0 ≤ y1 ∧ y1 ≤ 9999) (bz0 : 0 ≤ z0 ∧ z0 ≤ 9999) (bz1 : 0 ≤ z1 ∧ z1 ≤ 9999) :
    ∃ d0 d1 c, loopN (Dspec_l1MulMag_1 n rec0 xs [y0, y1] (p.length : Int)) m (0, 0, p ++ z0 :: z1 :: z2 :: zs) = rec0 (((p.length + 1 : Nat) : Int), p ++ d0 :: d1 :: c :: zs) ∧
      (0 ≤ d0 ∧ d0 ≤ 9999) ∧ (0 ≤ d1 ∧ d1 ≤ 9999) ∧ (0 ≤ c ∧ c ≤ 9999) ∧ d0 + 10000 * d1 + 100000000 * c = x * y0 + 10000 * (x * y1) + z0 + 10000 * z1 := by
  obtain ⟨m, rfl⟩ : ∃ j, m = j + 3 := ⟨m - 3, by omega⟩
  have h0 := mul_nn bx by0
  have h1 := mul_nn bx by1
  have s1 := mulCell n rec0 xs [y0, y1] (loopN (Dspec_l1MulMag_1 n rec0 xs [y0, y1] (p.length : Int)) (m + 2)) 0 0 p (z0 :: z1 :: z2 :: zs) hx (y := y0) rfl rfl hp (by omega) bx by0 bz0 (by omega)
  have s2 := mulCell n rec0 xs [y0, y1] (loopN (Dspec_l1MulMag_1 n rec0 xs [y0, y1] (p.length : Int)) (m + 1)) ((x * y0 + z0 + 0) / 10000) 1 p ((x * y0 + z0 + 0) % 10000 :: z1 :: z2 :: zs) hx (y := y1) rfl rfl hp (by omega) bx by1 bz1 (by omega)
  refine ⟨(x * y0 + z0 + 0) % 10000, (x * y1 + z1 + (x * y0 + z0 + 0) / 10000) % 10000, (x * y1 + z1 + (x * y0 + z0 + 0) / 10000) / 10000, ?_, by omega, by omega, by omega, by omega⟩
  rw [loop_suc]
  refine s1.trans ?_
  rw [loop_suc]
  refine s2.trans ?_
  rw [loop_suc, mulStep1, dec_f (by show ¬ (((1 + 1 : Nat) : Int) < ((2 : Nat) : Int)); omega), frk_f]
  unfold Dspec_l1MulMag_0
  have e : w64 ((p.length : Int) + (([y0, y1] : List Int).length : Int)) = ((p.length + 2 : Nat) : Int) := by
    show w64 ((p.length : Int) + ((2 : Nat) : Int)) = _
    rw [w64_id (by omega) (by omega)]; omega
  rw [e, lget_nat, get_pre, Int.toNat_natCast, set_pre, w64_suc (by unfold big; omega)]
  rfl
theorem vl_rep (k : Nat) : vl (List.replicate k 0) = 0 := by
  induction k with
  | zero => rfl
  | succ k ih => rw [List.replicate_succ]; unfold vl; omega
theorem Dg_rep (k : Nat) : Dg (List.replicate k 0) := fun d hd => by have := (List.mem_replicate.1 hd).2; omega
theorem mulLoop (n : Nat) (y0 y1 : Int) (by0 : 0 ≤ y0 ∧ y0 ≤ 9999) (by1 : 0 ≤ y1 ∧ y1 ≤ 9999) (hn : 3 ≤ n) {xs : List Int} (hD : Dg xs) (hl : xs.length ≤ 100) :
    ∀ (k m : Nat) (p : List Int) (z0 z1 : Int), p.length + k = xs.length → k < m → 0 ≤ z0 ∧ z0 ≤ 9999 → 0 ≤ z1 ∧ z1 ≤ 9999 →
    ∃ r, loopN (Dspec_l1MulMag_2 n xs [y0, y1]) m ((p.length : Int), p ++ z0 :: z1 :: List.replicate k 0) = some (p ++ r) ∧ Dg r ∧ vl r = z0 + 10000 * z1 + vl (xs.drop p.length) * (y0 + 10000 * y1) ∧ r.length = k + 2 := by
  intro k
  induction k with
  | zero =>
    intro m p z0 z1 h0 hm b0 b1
    obtain ⟨m, rfl⟩ : ∃ j, m = j + 1 := ⟨m - 1, by omega⟩
    refine ⟨[z0, z1], ?_, Dg.cons b0.1 b0.2 (Dg.cons b1.1 b1.2 Dg.nil), ?_, rfl⟩
    · rw [loop_suc, mulStep2, dec_f (by omega), frk_f]; rfl
    · rw [List.drop_eq_nil_of_le (by omega)]; simp [vl]
  | succ k ih =>
    intro m p z0 z1 h0 hm b0 b1
    obtain ⟨m, rfl⟩ : ∃ j, m = j + 1 := ⟨m - 1, by omega⟩
    obtain ⟨x, hx⟩ : ∃ d, xs[p.length]? = some d := ⟨xs[p.length], List.getElem?_eq_getElem (by omega)⟩
    have bx := hD.get hx
    obtain ⟨d0, d1, c, e1, q0, q1, q2, q3⟩ := mulRow n (loopN (Dspec_l1MulMag_2 n xs [y0, y1]) m) xs y0 y1 n p (List.replicate k 0) (z2 := 0) hx (by omega) hn bx by0 by1 b0 b1
    obtain ⟨r, r1, r2, r3, r4⟩ := ih m (p ++ [d0]) d1 c (by simp; omega) (by omega) q1 q2
    refine ⟨d0 :: r, ?_, Dg.cons q0.1 q0.2 r2, ?_, by rw [List.length_cons, r4]⟩
    · rw [loop_suc, mulStep2, dec_t (by omega), frk_t, List.replicate_succ, e1]
      have e2 : (p ++ [d0]).length = p.length + 1 := by simp
      rw [e2, List.append_assoc, List.append_assoc] at r1
      exact r1
    · have e2 : (p ++ [d0]).length = p.length + 1 := by simp
      rw [e2] at r3
      rw [vl_drop_s hx]
      show d0 + 10000 * vl r = _
      rw [r3]
      generalize vl (xs.drop (p.length + 1)) = V
      have e3 : (x + 10000 * V) * (y0 + 10000 * y1) = (x * y0 + 10000 * (x * y1)) + 10000 * (V * (y0 + 10000 * y1)) := by
        rw [Int.add_mul, Int.mul_add, Int.mul_assoc 10000]
        congr 2
        rw [← Int.mul_assoc, Int.mul_comm x 10000, Int.mul_assoc]
      rw [e3]
      generalize V * (y0 + 10000 * y1) = W
      omega
theorem mkB8 {k : Int} (h : 0 ≤ k) (h2 : k ≤ 1000000) : mkB k 8 = true := by
  simp only [mkB, Bool.and_eq_true, decide_eq_true_eq]; omega
theorem mulOk (n : Nat) (y0 y1 : Int) (by0 : 0 ≤ y0 ∧ y0 ≤ 9999) (by1 : 0 ≤ y1 ∧ y1 ≤ 9999) {xs : List Int} (hD : Dg xs) (hl : xs.length ≤ 100) (hn : 101 ≤ n) :
    ∃ r, Dspec_l1MulMag n xs [y0, y1] = some r ∧ Dg r ∧ vl r = vl xs * (y0 + 10000 * y1) ∧ r.length = xs.length + 2 := by
  have e : w64 ((xs.length : Int) + (([y0, y1] : List Int).length : Int)) = ((xs.length + 2 : Nat) : Int) := by
    show w64 ((xs.length : Int) + ((2 : Nat) : Int)) = _
    rw [w64_id (by omega) (by omega)]; omega
  obtain ⟨r, r1, r2, r3, r4⟩ := mulLoop n y0 y1 by0 by1 (by omega) hD hl xs.length n [] 0 0 (by simp) (by omega) (by omega) (by omega)
  refine ⟨r, ?_, r2, by rw [r3]; show 0 + 10000 * 0 + vl (xs.drop 0) * _ = _; rw [List.drop_zero]; omega, r4⟩
  unfold Dspec_l1MulMag
  rw [e, chk_eq (mkB8 (by omega) (by omega)), Int.toNat_natCast]
  exact r1
end Evl.T

/-! Esg -/
namespace Evl.T
open Go Evl

def BIG : Nat := 1000000000000
theorem divStep0 (n : Nat) (rec0 : (Int × List Int × List Int) → Option ((List Int) × (List Int))) (t0 t1 : List Int) (t8 : Int) (rec1 : (List Int × List Int) → Option ((List Int) × (List Int))) (l12 l29 : List Int) :
    Dspec_l1DivMag_0 n rec0 t0 t1 t8 rec1 (l12, l29) = (Dspec_l1CmpMag n l29 t1).bind fun v4 => frk (decide (v4 ≥ 0)) ((Dspec_l1Guess n l29 t1).bind fun v5 => (lget l12 t8).bind fun v6 => (lget l12 t8).bind fun _v7 => (Dspec_l1MulMag n t1 [Int.tmod v5 10000, w64 (Int.tdiv v5 10000)]).bind fun v8 => (Dspec_l1Num n false v8).bind fun v9 => (Dspec_l1SubMag n l29 v9.D).bind fun v10 => (Dspec_l1Num n false v10).bind fun v11 => rec1 ((l12.set (Int.toNat t8) (w64 (v6 + v5))), v11.D)) (rec0 (w64 (t8 - 1), l12, l29)) := rfl
theorem divStep1 (n : Nat) (t0 t1 : List Int) (rec0 : (Int × List Int × List Int) → Option ((List Int) × (List Int))) (t8 : Int) (l12 l13 : List Int) :
    Dspec_l1DivMag_1 n t0 t1 rec0 (t8, l12, l13) = frk (decide (t8 ≥ 0)) ((lget t0 t8).bind fun v1 => chk (apB 8 (1 + l13.length)) ((Dspec_l1Num n false ([v1] ++ l13)).bind fun v3 => loopN (Dspec_l1DivMag_0 n rec0 t0 t1 t8) n (l12, v3.D))) (some (l12, l13)) := rfl
theorem divOut (n : Nat) (rec0 : (Int × List Int × List Int) → Option ((List Int) × (List Int))) (t0 : List Int) (i : Nat) (q : List Int) (x b m : Nat) (hx : x < b) (hb : b < 1000000000000) (hn : 101 ≤ n) (hi : i ≤ 1000) (hm : 1 ≤ m) :
    loopN (Dspec_l1DivMag_0 n rec0 t0 (dg b) (i : Int)) m (q, dg x) = rec0 ((i : Int) - 1, q, dg x) := by
  obtain ⟨m, rfl⟩ : ∃ j, m = j + 1 := ⟨m - 1, by omega⟩
  obtain ⟨r, h1, h2⟩ := cmpOk n x b (by have := dg_len3 (show x < 1000000000000 by omega); omega) (by have := dg_len3 hb; omega) hn
  rw [loop_suc, divStep0, h1, Option.bind_some, dec_f (by omega), frk_f, w64_id (by omega) (by omega)]
theorem set_same {l : List Int} {i : Nat} (h : l[i]? = some 0) : l.set i 0 = l := by
  apply List.ext_getElem?
  intro j
  rw [List.getElem?_set]
  split
  · rename_i hj
    subst hj
    have := (List.getElem?_eq_some_iff.1 h).1
    rw [if_pos this, h]
  · rfl
theorem divIn (n : Nat) (rec0 : (Int × List Int × List Int) → Option ((List Int) × (List Int))) (t0 : List Int) (i : Nat) (q : List Int) (x b : Nat) (hx : x < 1000000000000) (hb0 : 0 < b) (hb : b < 1000000000000) (hq : x / b ≤ 9999) (hi : i ≤ 1000) (hz : q[i]? = some 0) (hn : 101 ≤ n) :
    loopN (Dspec_l1DivMag_0 n rec0 t0 (dg b) (i : Int)) n (q, dg x) = rec0 ((i : Int) - 1, q.set i ((x / b : Nat) : Int), dg (x % b)) := by
  by_cases h : x < b
  · rw [divOut n rec0 t0 i q x b n h hb hn hi (by omega), Nat.div_eq_of_lt h, Nat.mod_eq_of_lt h]
    rw [show ((0 : Nat) : Int) = 0 from rfl, set_same hz]
  · obtain ⟨m, hm⟩ : ∃ j, n = j + 1 := ⟨n - 1, by omega⟩
    have l1 := dg_len3 hx
    have l2 := dg_len3 hb
    obtain ⟨r, h1, h2⟩ := cmpOk n x b (by omega) (by omega) hn
    have hg := guessOk n x b hx hb0 (by omega) (by omega)
    have hy0 : (0 : Int) ≤ ((x / b : Nat) : Int) := Int.natCast_nonneg _
    have hy : (0 : Int) ≤ ((x / b : Nat) : Int) ∧ ((x / b : Nat) : Int) ≤ 9999 := by omega
    obtain ⟨P, p1, p2, p3, p4⟩ := mulOk n ((x / b : Nat) : Int) 0 hy (by omega) (Dg_dg b) (by omega) hn
    have hmul : b * (x / b) ≤ x := Nat.mul_div_le x b
    have hmod : x % b = x - b * (x / b) := by have := Nat.div_add_mod x b; omega
    have p3' : vl P = ((b * (x / b) : Nat) : Int) := by
      rw [p3, vl_dg, show ((x / b : Nat) : Int) + 10000 * 0 = ((x / b : Nat) : Int) by omega]; exact (Int.natCast_mul _ _).symm
    have hP := numOk n false P p2 (by omega) p3' (by omega)
    obtain ⟨R, r1, r2, r3, r4⟩ := subOk n (Dg_dg x) (Dg_dg (b * (x / b))) (by omega) (by rw [vl_dg, vl_dg]; omega) hn
    have r3' : vl R = ((x % b : Nat) : Int) := by rw [r3, vl_dg, vl_dg]; omega
    have hR := numOk n false R r2 (by omega) r3' (by omega)
    have hgen : loopN (Dspec_l1DivMag_0 n rec0 t0 (dg b) (i : Int)) (m + 1) (q, dg x) = rec0 ((i : Int) - 1, q.set i ((x / b : Nat) : Int), dg (x % b)) := by
      rw [loop_suc, divStep0, h1, Option.bind_some, dec_t (by omega), frk_t, hg, Option.bind_some, lget_nat, hz, Option.bind_some, Option.bind_some]
      have e1 : Int.tmod ((x / b : Nat) : Int) 10000 = ((x / b : Nat) : Int) := by rw [Int.tmod_eq_emod_of_nonneg (by omega)]; omega
      have e2 : w64 (Int.tdiv ((x / b : Nat) : Int) 10000) = 0 := by rw [Int.tdiv_eq_ediv_of_nonneg (by omega), w64_id (by omega) (by omega)]; omega
      rw [e1, e2, p1, Option.bind_some, hP, Option.bind_some]
      show ((Dspec_l1SubMag n (dg x) (dg (b * (x / b)))).bind _) = _
      rw [r1, Option.bind_some, hR, Option.bind_some]
      rw [w64_id (x := 0 + ((x / b : Nat) : Int)) (by omega) (by omega), show (0 : Int) + ((x / b : Nat) : Int) = ((x / b : Nat) : Int) by omega, Int.toNat_natCast]
      exact divOut n rec0 t0 i _ (x % b) b m (Nat.mod_lt _ hb0) hb hn hi (by omega)
    rw [← hm] at hgen
    exact hgen
theorem divLoop (n A b : Nat) (hA : A < 1000000000000) (hb0 : 0 < b) (hb : b < 1000000000000) (hn : 101 ≤ n) : ∀ (i m : Nat) (qh : List Int) (H : Nat), i ≤ (dg A).length → i < m → vl ((dg A).drop i) = H → Dg qh → vl qh = ((H / b : Nat) : Int) →
    ∃ q, loopN (Dspec_l1DivMag_1 n (dg A) (dg b)) m ((i : Int) - 1, List.replicate i 0 ++ qh, dg (H % b)) = some (q, dg (A % b)) ∧ Dg q ∧ vl q = ((A / b : Nat) : Int) ∧ q.length = i + qh.length := by
  have l1 := dg_len3 hA
  intro i
  induction i with
  | zero =>
    intro m qh H _ hm hH hD hv
    obtain ⟨m, rfl⟩ : ∃ j, m = j + 1 := ⟨m - 1, by omega⟩
    rw [List.drop_zero, vl_dg] at hH
    have : A = H := by omega
    subst this
    exact ⟨qh, by rw [loop_suc, divStep1, dec_f (by omega), frk_f]; rfl, hD, hv, by omega⟩
  | succ i ih =>
    intro m qh H hi hm hH hD hv
    obtain ⟨m, rfl⟩ : ∃ j, m = j + 1 := ⟨m - 1, by omega⟩
    obtain ⟨d, hd⟩ : ∃ d, (dg A)[i]? = some d := ⟨(dg A)[i], List.getElem?_eq_getElem (by omega)⟩
    have hdb := (Dg_dg A).get hd
    obtain ⟨e, rfl⟩ : ∃ e : Nat, d = e := ⟨d.toNat, by omega⟩
    have hlt := Nat.mod_lt H hb0
    have hdm := Nat.div_add_mod H b
    have hH' : vl ((dg A).drop i) = ((e + 10000 * H : Nat) : Int) := by rw [vl_drop_s hd, hH]; omega
    have hle := vl_drop_le (Dg_dg A) i
    rw [hH', vl_dg] at hle
    have hmodle : H % b ≤ H := Nat.mod_le H b
    have lr := dg_len3 (show H % b < 1000000000000 by omega)
    have hx : e + 10000 * (H % b) < 1000000000000 := by omega
    have hsplit : e + 10000 * H = (e + 10000 * (H % b)) + b * (10000 * (H / b)) := by
      have : b * (10000 * (H / b)) = 10000 * (b * (H / b)) := by rw [← Nat.mul_assoc, Nat.mul_comm b 10000, Nat.mul_assoc]
      omega
    have hdiv : (e + 10000 * H) / b = (e + 10000 * (H % b)) / b + 10000 * (H / b) := by rw [hsplit, Nat.add_mul_div_left _ _ hb0]
    have hmod : (e + 10000 * H) % b = (e + 10000 * (H % b)) % b := by rw [hsplit, Nat.add_mul_mod_self_left]
    have hq : (e + 10000 * (H % b)) / b ≤ 9999 := by
      have : (e + 10000 * (H % b)) / b < 10000 := by rw [Nat.div_lt_iff_lt_mul hb0]; omega
      omega
    have hnum := numOk n false ([(e : Int)] ++ dg (H % b)) (Dg.cons hdb.1 hdb.2 (Dg_dg _)) (by simp; omega) (v := e + 10000 * (H % b)) (by show (e : Int) + 10000 * vl (dg (H % b)) = _; rw [vl_dg]; omega) (by simp; omega)
    have hz : (List.replicate (i + 1) (0 : Int) ++ qh)[i]? = some 0 := by
      rw [List.getElem?_append_left (by simp)]; simp
    have hin := divIn n (loopN (Dspec_l1DivMag_1 n (dg A) (dg b)) m) (dg A) i (List.replicate (i + 1) 0 ++ qh) (e + 10000 * (H % b)) b hx hb0 hb hq (by omega) hz hn
    have hset : (List.replicate (i + 1) (0 : Int) ++ qh).set i (((e + 10000 * (H % b)) / b : Nat) : Int) = List.replicate i 0 ++ ((((e + 10000 * (H % b)) / b : Nat) : Int) :: qh) := by
      have e1 : List.replicate (i + 1) (0 : Int) ++ qh = List.replicate i 0 ++ (0 :: qh) := by
        rw [List.replicate_succ']; simp
      have e2 := set_pre (List.replicate i (0 : Int)) 0 (0 :: qh) (((e + 10000 * (H % b)) / b : Nat) : Int)
      rw [List.length_replicate] at e2
      rw [e1]; exact e2
    have hy0 : (0 : Int) ≤ (((e + 10000 * (H % b)) / b : Nat) : Int) := Int.natCast_nonneg _
    obtain ⟨q, q1, q2, q3, q4⟩ := ih m ((((e + 10000 * (H % b)) / b : Nat) : Int) :: qh) (e + 10000 * H) (by omega) (by omega) hH' (Dg.cons hy0 (by omega) hD) (by
      show (((e + 10000 * (H % b)) / b : Nat) : Int) + 10000 * vl qh = _
      rw [hv, hdiv]; omega)
    refine ⟨q, ?_, q2, q3, by rw [q4, List.length_cons]; omega⟩
    have ei : ((i + 1 : Nat) : Int) - 1 = (i : Int) := by omega
    rw [loop_suc, divStep1, ei, dec_t (by omega), frk_t, lget_nat, hd, Option.bind_some, chk_eq (apB8 (by omega)), hnum, Option.bind_some]
    refine hin.trans ?_
    rw [hset, ← hmod]
    exact q1
theorem divOk (n A b : Nat) (hA : A < 1000000000000) (hb0 : 0 < b) (hb : b < 1000000000000) (hn : 101 ≤ n) :
    ∃ q, Dspec_l1DivMag n (dg A) (dg b) = some (q, dg (A % b)) ∧ Dg q ∧ vl q = ((A / b : Nat) : Int) ∧ q.length ≤ 3 := by
  have l1 := dg_len3 hA
  obtain ⟨q, q1, q2, q3, q4⟩ := divLoop n A b hA hb0 hb hn (dg A).length n [] 0 (Nat.le_refl _) (by omega) (by rw [List.drop_length]; rfl) Dg.nil (by simp [vl])
  refine ⟨q, ?_, q2, q3, by rw [q4]; simpa using l1⟩
  unfold Dspec_l1DivMag
  rw [chk_eq (mkB8 (by omega) (by omega)), w64_id (by omega) (by omega), Int.toNat_natCast]
  rw [Nat.zero_mod, dg_zero, List.append_nil] at q1
  exact q1

/-! the greatest divisor -/
theorem gcdStep (n : Nat) (rec0 : (List Int × List Int) → Option (List Int)) (t0 t1 : List Int) :
    Dspec_l1Gcd_0 n rec0 (t0, t1) = frk (decide ((t1.length : Int) > 0)) ((Dspec_l1DivMag n t0 t1).bind fun v0 => rec0 (t1, v0.2)) (some t0) := rfl
theorem gcdLoop (n : Nat) (hn : 101 ≤ n) : ∀ (b a m : Nat), b < m → a < 1000000000000 → b < 1000000000000 → loopN (Dspec_l1Gcd_0 n) m (dg a, dg b) = some (dg (Nat.gcd a b)) := by
  intro b
  induction b using Nat.strongRecOn with
  | ind b ih =>
    intro a m hm ha hb
    obtain ⟨m, rfl⟩ : ∃ j, m = j + 1 := ⟨m - 1, by omega⟩
    rw [loop_suc, gcdStep]
    by_cases h : b = 0
    · subst h; rw [dg_zero, dec_f (by simp), frk_f, Nat.gcd_zero_right]
    · have hp := List.length_pos_iff.2 (dg_ne.2 (show 0 < b by omega))
      obtain ⟨q, q1, -, -, -⟩ := divOk n a b ha (by omega) hb hn
      have hlt := Nat.mod_lt a (show b > 0 by omega)
      rw [dec_t (by omega), frk_t, q1, Option.bind_some]
      refine (ih (a % b) hlt b m (by omega) hb (by omega)).trans ?_
      rw [Nat.gcd_comm b, Nat.gcd_comm a, Nat.gcd_rec b a]
theorem gcd_lt {a b : Nat} (ha : a < 1000000000000) (hb : b < 1000000000000) : Nat.gcd a b < 1000000000000 := by
  by_cases h : b = 0
  · subst h; rw [Nat.gcd_zero_right]; exact ha
  · exact Nat.lt_of_le_of_lt (Nat.gcd_le_right a (by omega)) hb
theorem gcdOk (n : Nat) (g1 g2 : Bool) (a b : Nat) (ha : a < 1000000000000) (hb : b < 1000000000000) (h1 : g1 = true → 0 < a) (h2 : g2 = true → 0 < b) (hbn : b < n) (hn : 101 ≤ n) :
    Dspec_Gcd n ⟨g1, dg a⟩ ⟨g2, dg b⟩ = some ⟨false, dg (Nat.gcd a b)⟩ := by
  unfold Dspec_Gcd
  rw [magOk n g1 a ha h1 (by omega), Option.bind_some, magOk n g2 b hb h2 (by omega), Option.bind_some]
  unfold Dspec_l1Gcd
  rw [gcdLoop n hn b a n hbn ha hb, Option.bind_some, numOk n false _ (Dg_dg _) (by have := dg_len3 (gcd_lt ha hb); omega) (vl_dg _) (by have := dg_len3 (gcd_lt ha hb); omega)]
  rfl
def nm (x : Int) : Num := ⟨decide (x < 0), dg x.natAbs⟩
theorem ngStep (n : Nat) (t0 : List Num) (b : Bool) (rec0 : (Int × Bool × List Int) → Option Num) (t4 : Int) (b3_0 : Bool) (b3_1 : List Int) :
    Dspec_l3NumGcd_0 n t0 b rec0 (t4, b3_0, b3_1) = frk (decide (t4 < (t0.length : Int))) ((lget t0 t4).bind fun v1 => (Dspec_Gcd n (Num.mk b3_0 b3_1) v1).bind fun v2 => rec0 (w64 (t4 + 1), v2.Neg, v2.D)) (some (Num.mk b3_0 b3_1)) := rfl
theorem ngOne (n : Nat) (l : List Num) (b : Bool) (rec0 : (Int × Bool × List Int) → Option Num) (i : Nat) (g : Nat) {x : Int} (hx : l[i]? = some (nm x)) (hg : g < 1000000000000) (hb : x.natAbs < 1000000000000) (hbn : x.natAbs < n) (hn : 101 ≤ n) (hi : i ≤ 100) :
    Dspec_l3NumGcd_0 n l b rec0 ((i : Int), false, dg g) = rec0 (((i + 1 : Nat) : Int), false, dg (Nat.gcd g x.natAbs)) := by
  have hil := (List.getElem?_eq_some_iff.1 hx).1
  have hk : Dspec_Gcd n ⟨false, dg g⟩ (nm x) = _ := gcdOk n false (decide (x < 0)) g x.natAbs hg hb (by simp) (by intro h; have := of_decide_eq_true h; omega) hbn hn
  rw [ngStep, dec_t (by omega), frk_t, lget_nat, hx, Option.bind_some, hk, Option.bind_some, w64_suc (by unfold big; omega)]
def g4 (a b c d : Int) : Nat := Nat.gcd (Nat.gcd (Nat.gcd a.natAbs b.natAbs) c.natAbs) d.natAbs
theorem ngOk (n : Nat) (a b c d : Int) (ha : a.natAbs < 1000000000000) (hb : b.natAbs < 1000000000000) (hc : c.natAbs < 1000000000000) (hd : d.natAbs < 1000000000000)
    (na : a.natAbs < n) (nb : b.natAbs < n) (nc : c.natAbs < n) (nd : d.natAbs < n) (hn : 101 ≤ n) : Dspec_l3NumGcd n [nm a, nm b, nm c, nm d] = some ⟨false, dg (g4 a b c d)⟩ := by
  unfold Dspec_l3NumGcd
  rw [ofOk n 0 (by decide) (by omega), Option.bind_some]
  obtain ⟨m, hm⟩ : ∃ j, n = j + 5 := ⟨n - 5, by omega⟩
  have key : loopN (Dspec_l3NumGcd_0 n [nm a, nm b, nm c, nm d] false) (m + 5) (((0 : Nat) : Int), false, dg 0) = some ⟨false, dg (g4 a b c d)⟩ := by
    rw [loop_suc, ngOne n _ _ _ 0 0 (x := a) rfl (by omega) ha na hn (by omega), Nat.gcd_zero_left]
    rw [loop_suc, ngOne n _ _ _ 1 _ (x := b) rfl ha hb nb hn (by omega)]
    rw [loop_suc, ngOne n _ _ _ 2 _ (x := c) rfl (gcd_lt ha hb) hc nc hn (by omega)]
    rw [loop_suc, ngOne n _ _ _ 3 _ (x := d) rfl (gcd_lt (gcd_lt ha hb) hc) hd nd hn (by omega)]
    rw [loop_suc, ngStep, dec_f (by show ¬ (((3 + 1 : Nat) : Int) < ((4 : Nat) : Int)); omega), frk_f]
    rfl
  rw [← hm] at key
  exact key

/-! Small -/
theorem smallStep (n : Nat) (l : List Int) (b0 : Bool) (b1 : List Int) (rec0 : (Int × Int) → Option (Int × Bool)) (t5 t6 : Int) :
    Dspec_Small_1 n l b0 b1 rec0 (t5, t6) = frk (decide (t6 ≥ 0)) (frk (decide (t5 > 922337203685477)) (some (0, false)) ((lget l t6).bind fun v1 => rec0 (IntKind.u64.wrap ((IntKind.u64.wrap (t5 * 10000)) + (IntKind.u64.wrap v1)), w64 (t6 - 1)))) (Dspec_Small_0 n t5 b0 b1) := rfl
theorem smallLoop (n : Nat) (b0 : Bool) (b1 : List Int) {a : List Int} (ha : Dg a) (hl : a.length ≤ 3) : ∀ (i m : Nat), i ≤ a.length → i < m →
    loopN (Dspec_Small_1 n a b0 b1) m (vl (a.drop i), (i : Int) - 1) = Dspec_Small_0 n (vl a) b0 b1 := by
  intro i
  induction i with
  | zero =>
    intro m _ hm
    obtain ⟨m, rfl⟩ : ∃ j, m = j + 1 := ⟨m - 1, by omega⟩
    rw [loop_suc, smallStep, dec_f (by omega), frk_f]; rfl
  | succ i ih =>
    intro m hi hm
    obtain ⟨m, rfl⟩ : ∃ j, m = j + 1 := ⟨m - 1, by omega⟩
    obtain ⟨x, hx⟩ : ∃ d, a[i]? = some d := ⟨a[i], List.getElem?_eq_getElem (by omega)⟩
    have e : ((i + 1 : Nat) : Int) - 1 = (i : Int) := by omega
    have b1' := vl_small ha hl
    have b2 := vl_drop_le ha i
    have b3 := vl_nn (ha.drop i)
    have b4 := vl_nn (ha.drop (i + 1))
    have b5 := ha.get hx
    have e2 := vl_drop_s hx
    rw [loop_suc, smallStep, e, dec_t (by omega), frk_t, dec_f (by omega), frk_f, lget_nat, hx, Option.bind_some]
    rw [u64w (x := vl (a.drop (i + 1)) * 10000) (by omega) (by omega), u64w (x := x) (by omega) (by omega), show vl (a.drop (i + 1)) * 10000 + x = vl (a.drop i) by omega, u64w (x := vl (a.drop i)) (by omega) (by omega), w64_id (x := (i : Int) - 1) (by omega) (by omega)]
    exact ih m (by omega) (by omega)
theorem smallOk (n : Nat) (g : Bool) (v : Nat) (hv : v < 1000000000000) (hg : g = true → 0 < v) (hn : 5 ≤ n) : Dspec_Small n ⟨g, dg v⟩ = some (if g then -(v : Int) else (v : Int), true) := by
  have l1 := dg_len3 hv
  unfold Dspec_Small
  rw [magOk n g v hv hg hn, Option.bind_some, dec_f (by omega), frk_f, w64_id (by omega) (by omega)]
  have e1 := smallLoop n g (dg v) (Dg_dg v) l1 (dg v).length n (Nat.le_refl _) (by omega)
  rw [List.drop_length] at e1
  have e1' : loopN (Dspec_Small_1 n (dg v) g (dg v)) n ((0 : Int), ((dg v).length : Int) - 1) = _ := e1
  rw [e1', vl_dg]
  unfold Dspec_Small_0
  rw [signOk n g v hv hg hn, Option.bind_some]
  cases g with
  | true =>
    have := hg rfl
    rw [frk_t, dec_f (by omega), frk_f, u64w (by omega) (by omega), w64_id (x := (v : Int) - 1) (by omega) (by omega), w64_id (x := 0 - ((v : Int) - 1)) (by omega) (by omega), w64_id (by omega) (by omega)]
    simp only [if_true]; congr 2; omega
  | false =>
    rw [frk_f, dec_f (by omega), frk_f, w64_id (by omega) (by omega)]; rfl

/-! Primitive -/
/-- The whole part of x over g, with x's sign. -/
def pq (x : Int) (g : Nat) : Int := if x < 0 then -((x.natAbs / g : Nat) : Int) else ((x.natAbs / g : Nat) : Int)
theorem compStep {β : Type} (n : Nat) (x : Int) (g : Nat) (hx : x.natAbs < 1000000000000) (hg0 : 0 < g) (hg : g < 1000000000000) (hn : 101 ≤ n) (K : Int × Bool → Option β) :
    ((Dspec_l1DivMag n (dg x.natAbs) (dg g)).bind fun v5 => (Dspec_l1Num n (decide (x < 0)) v5.1).bind fun v6 => (Dspec_Small n v6).bind K) = K (pq x g, true) := by
  obtain ⟨q, q1, q2, q3, q4⟩ := divOk n x.natAbs g hx hg0 hg hn
  have hle : x.natAbs / g ≤ x.natAbs := Nat.div_le_self _ _
  have h00 : (0 : Int) ≤ ((x.natAbs / g : Nat) : Int) := Int.natCast_nonneg _
  rw [q1, Option.bind_some, numOk n _ q q2 (by omega) q3 (by omega), Option.bind_some, smallOk n _ _ (by omega) (by simp) (by omega), Option.bind_some]
  congr 2
  unfold pq
  by_cases h : x < 0
  · by_cases h2 : 0 < x.natAbs / g
    · rw [dec_t h, dec_t h2, if_pos h]; rfl
    · rw [dec_t h, dec_f h2, if_pos h]; simp only [Bool.and_false, Bool.false_eq_true, if_false]; omega
  · rw [dec_f h, if_neg h]; rfl
def prim (a b c d : Int) : Pl × Int :=
  if a = 0 ∧ b = 0 ∧ c = 0 then (⟨0, 0, 0, 0⟩, 1)
  else if rIn (pq a (g4 a b c d)) (-500) 500 && (rIn (pq b (g4 a b c d)) (-500) 500 && (rIn (pq c (g4 a b c d)) (-500) 500 && rIn (pq d (g4 a b c d)) (-500) 500)) then (⟨pq a (g4 a b c d), pq b (g4 a b c d), pq c (g4 a b c d), pq d (g4 a b c d)⟩, 0)
  else (⟨0, 0, 0, 0⟩, 2)
theorem g4_pos {a b c d : Int} (h : ¬ (a = 0 ∧ b = 0 ∧ c = 0)) : 0 < g4 a b c d := by
  unfold g4
  apply Nat.pos_of_ne_zero
  intro h0
  have h1 := (Nat.gcd_eq_zero_iff.1 h0).1
  have h2 := Nat.gcd_eq_zero_iff.1 h1
  have h3 := Nat.gcd_eq_zero_iff.1 h2.1
  omega
theorem prim_body (n : Nat) (a b c d : Int) (ha : a.natAbs < 1000000000000) (hb : b.natAbs < 1000000000000) (hc : c.natAbs < 1000000000000) (hd : d.natAbs < 1000000000000)
    (na : a.natAbs < n) (nb : b.natAbs < n) (nc : c.natAbs < n) (nd : d.natAbs < n) (hn : 101 ≤ n) (h0 : ¬ (a = 0 ∧ b = 0 ∧ c = 0)) : Dspec_Primitive_5 n a b c d 0 0 0 0 = some (prim a b c d) := by
  have hp := g4_pos (d := d) h0
  have hg : g4 a b c d < 1000000000000 := gcd_lt (gcd_lt (gcd_lt ha hb) hc) hd
  unfold prim
  rw [if_neg h0]
  unfold Dspec_Primitive_5
  have ea : Dspec_Of n a = some (nm a) := ofOk n a ha (by omega)
  have eb : Dspec_Of n b = some (nm b) := ofOk n b hb (by omega)
  have ec : Dspec_Of n c = some (nm c) := ofOk n c hc (by omega)
  have ed : Dspec_Of n d = some (nm d) := ofOk n d hd (by omega)
  rw [ea, Option.bind_some, eb, Option.bind_some, ec, Option.bind_some, ed, Option.bind_some, ngOk n a b c d ha hb hc hd na nb nc nd hn, Option.bind_some]
  refine (compStep n a (g4 a b c d) ha hp hg hn _).trans ?_
  rw [show (!(pq a (g4 a b c d), true).2) = false from rfl, frk_f, sIn, Option.bind_some]
  unfold Dspec_Primitive_1
  cases hA : rIn (pq a (g4 a b c d)) (-500) 500
  · rfl
  rw [show (!true) = false from rfl, frk_f, chk_eq (apB8 (by simp)), show lget [nm a, nm b, nm c, nm d] 1 = some (nm b) from rfl, Option.bind_some]
  refine (compStep n b (g4 a b c d) hb hp hg hn _).trans ?_
  rw [show (!(pq b (g4 a b c d), true).2) = false from rfl, frk_f, sIn, Option.bind_some]
  unfold Dspec_Primitive_2
  cases hB : rIn (pq b (g4 a b c d)) (-500) 500
  · rfl
  rw [show (!true) = false from rfl, frk_f, chk_eq (apB8 (by simp)), show lget [nm a, nm b, nm c, nm d] 2 = some (nm c) from rfl, Option.bind_some]
  refine (compStep n c (g4 a b c d) hc hp hg hn _).trans ?_
  rw [show (!(pq c (g4 a b c d), true).2) = false from rfl, frk_f, sIn, Option.bind_some]
  unfold Dspec_Primitive_3
  cases hC : rIn (pq c (g4 a b c d)) (-500) 500
  · rfl
  rw [show (!true) = false from rfl, frk_f, chk_eq (apB8 (by simp)), show lget [nm a, nm b, nm c, nm d] 3 = some (nm d) from rfl, Option.bind_some]
  refine (compStep n d (g4 a b c d) hd hp hg hn _).trans ?_
  rw [show (!(pq d (g4 a b c d), true).2) = false from rfl, frk_f, sIn, Option.bind_some]
  unfold Dspec_Primitive_4
  cases hE : rIn (pq d (g4 a b c d)) (-500) 500
  · rfl
  rw [show (!true) = false from rfl, frk_f, chk_eq (apB8 (by simp))]
  rfl
theorem primOk (n : Nat) (a b c d : Int) (ha : a.natAbs < 1000000000000) (hb : b.natAbs < 1000000000000) (hc : c.natAbs < 1000000000000) (hd : d.natAbs < 1000000000000)
    (na : a.natAbs < n) (nb : b.natAbs < n) (nc : c.natAbs < n) (nd : d.natAbs < n) (hn : 101 ≤ n) : Dspec_Primitive n a b c d = some (prim a b c d) := by
  unfold Dspec_Primitive
  by_cases h1 : a = 0
  · by_cases h2 : b = 0
    · by_cases h3 : c = 0
      · subst h1; subst h2; subst h3; rfl
      · have e := prim_body n a b c d ha hb hc hd na nb nc nd hn (by omega)
        rw [show (a == 0) = true by simpa using h1, frk_t, show (b == 0) = true by simpa using h2, frk_t]
        rw [show (c == 0) = false by simpa using h3]
        exact e
    · have e := prim_body n a b c d ha hb hc hd na nb nc nd hn (by omega)
      rw [show (a == 0) = true by simpa using h1, frk_t, show (b == 0) = false by simpa using h2, frk_f]
      exact e
  · have e := prim_body n a b c d ha hb hc hd na nb nc nd hn (by omega)
    rw [show (a == 0) = false by simpa using h1, frk_f]
    exact e
end Evl.T

/-! Eps -/
namespace Evl.T
open Go Evl

theorem wth_iff (l : List Pl) (p : Pl) : wth l p = true ↔ ∃ i, i < l.length ∧ (cl2 (gt l i) p = true ∨ ∃ j, i < j ∧ j < l.length ∧ (cl3 (gt l i) (gt l j) p = true ∨ ∃ k, j < k ∧ k < l.length ∧ cl4 (gt l i) (gt l j) (gt l k) p = true)) := by
  unfold wth sAny3 sAny4
  simp only [List.any_eq_true, List.mem_range'_1, Bool.or_eq_true]
  constructor
  · rintro ⟨i, hi, h | ⟨j, hj, h | ⟨k, hk, h⟩⟩⟩
    · exact ⟨i, by omega, .inl h⟩
    · exact ⟨i, by omega, .inr ⟨j, by omega, by omega, .inl h⟩⟩
    · exact ⟨i, by omega, .inr ⟨j, by omega, by omega, .inr ⟨k, by omega, by omega, h⟩⟩⟩
  · rintro ⟨i, hi, h | ⟨j, hj, hj2, h | ⟨k, hk, hk2, h⟩⟩⟩
    · exact ⟨i, by omega, .inl h⟩
    · exact ⟨i, by omega, .inr ⟨j, by omega, .inl h⟩⟩
    · exact ⟨i, by omega, .inr ⟨j, by omega, .inr ⟨k, by omega, h⟩⟩⟩
/-- One plane less: no clash comes. -/
theorem wth_less {l1 l2 : List Pl} {x p : Pl} (h : wth (l1 ++ x :: l2) p = false) : wth (l1 ++ l2) p = false := by
  have key : ¬ wth (l1 ++ x :: l2) p = true := by simp [h]
  rw [← Bool.not_eq_true]
  intro h2
  apply key
  rw [wth_iff] at h2 ⊢
  let f : Nat → Nat := fun i => if i < l1.length then i else i + 1
  have fd : ∀ i, f i = if i < l1.length then i else i + 1 := fun _ => rfl
  have f1 : ∀ i j, i < j → f i < f j := fun i j hij => by
    rw [fd, fd]
    split <;> split <;> omega
  have f2 : ∀ i, i < (l1 ++ l2).length → f i < (l1 ++ x :: l2).length := fun i hi => by
    simp only [List.length_append, List.length_cons] at hi ⊢
    rw [fd]
    split <;> omega
  have f3 : ∀ i, gt (l1 ++ x :: l2) (f i) = gt (l1 ++ l2) i := fun i => by
    unfold gt
    show (((l1 ++ x :: l2)[if i < l1.length then i else i + 1]?).getD _) = _
    split
    · rename_i hi; rw [List.getElem?_append_left hi, List.getElem?_append_left hi]
    · rename_i hi
      rw [List.getElem?_append_right (by omega), List.getElem?_append_right (by omega), show i + 1 - l1.length = (i - l1.length) + 1 by omega, List.getElem?_cons_succ]
  obtain ⟨i, hi, h | ⟨j, hj, hj2, h | ⟨k, hk, hk2, h⟩⟩⟩ := h2
  · exact ⟨f i, f2 i hi, .inl (by rw [f3]; exact h)⟩
  · exact ⟨f i, f2 i hi, .inr ⟨f j, f1 _ _ hj, f2 j hj2, .inl (by rw [f3, f3]; exact h)⟩⟩
  · exact ⟨f i, f2 i hi, .inr ⟨f j, f1 _ _ hj, f2 j hj2, .inr ⟨f k, f1 _ _ hk, f2 k hk2, by rw [f3, f3, f3]; exact h⟩⟩⟩
theorem Rt.less {s : Sol} {path : List Pl} (h : Rt s path) : ∀ (l1 l2 : List Pl) (x : Pl), path = l1 ++ x :: l2 → Rt s (l1 ++ l2) := by
  induction h with
  | leaf hz => intro _ _ _ _; exact .leaf hz
  | @node p a b path h1 h2 h3 h4 _ _ iha ihb =>
    intro l1 l2 x e
    subst e
    refine .node h1 (by simp at h2 ⊢; omega) (wth_less h3) (wth_less h4) ?_ ?_
    · have := iha l1 (l2 ++ [p]) x (by simp)
      simpa using this
    · have := ihb l1 (l2 ++ [flp p]) x (by simp)
      simpa using this
theorem Rt.lens {s : Sol} {path : List Pl} (h : Rt s path) : Lens s := by
  induction h with
  | leaf hz => exact .mk (by simp [big]) (by simp)
  | node _ _ _ _ _ _ iha ihb =>
    refine .mk (by simp [big]) fun x hx => ?_
    simp only [List.mem_cons, List.not_mem_nil, or_false] at hx
    rcases hx with rfl | rfl
    · exact iha
    · exact ihb
end Evl.T

/-! Epo -/
namespace Evl.T
open Go Evl

/-! lists with weights -/
def sm (f : Pl → Int) : List (Int × Pl) → Int
  | [] => 0
  | x :: r => x.1 * f x.2 + sm f r
theorem sm_cons (f : Pl → Int) (x : Int × Pl) (r : List (Int × Pl)) : sm f (x :: r) = x.1 * f x.2 + sm f r := rfl
theorem sm_nil (f : Pl → Int) : sm f [] = 0 := rfl
/-- Weights above 0 on planes whose normals cancel each other, and whose Ds do not come above 0. -/
structure Cert (c : List (Int × Pl)) : Prop where
  pos : ∀ x ∈ c, 0 < x.1
  a : sm Pl.A c = 0
  b : sm Pl.B c = 0
  cc : sm Pl.C c = 0
  d : sm Pl.D c ≤ 0
  ne : c ≠ []
def tw (t : List (Int × Int × Pl)) : List (Int × Pl) := t.map fun x => (x.1, x.2.2)
def tv (t : List (Int × Int × Pl)) : List (Int × Pl) := t.map fun x => (x.2.1, x.2.2)
def tm (a b : Int) (t : List (Int × Int × Pl)) : List (Int × Pl) := t.map fun x => (a * x.1 + b * x.2.1, x.2.2)
theorem sm_tm (f : Pl → Int) (a b : Int) (t : List (Int × Int × Pl)) : sm f (tm a b t) = a * sm f (tw t) + b * sm f (tv t) := by
  induction t with
  | nil => simp [tm, tw, tv, sm]
  | cons x r ih =>
    simp only [tm, tw, tv, List.map_cons, sm_cons] at ih ⊢
    rw [ih]; grind
def pst (c : List (Int × Pl)) : List (Int × Pl) := c.filter fun x => decide (0 < x.1)
theorem sm_pst (f : Pl → Int) (c : List (Int × Pl)) (h : ∀ x ∈ c, 0 ≤ x.1) : sm f (pst c) = sm f c := by
  induction c with
  | nil => rfl
  | cons x r ih =>
    have ih := ih fun y hy => h y (List.mem_cons_of_mem _ hy)
    have hx := h x List.mem_cons_self
    unfold pst at ih ⊢
    by_cases hp : 0 < x.1
    · rw [List.filter_cons_of_pos (by simpa using hp), sm_cons, sm_cons, ih]
    · rw [List.filter_cons_of_neg (by simpa using hp), sm_cons, ih, show x.1 = 0 by omega]; omega
theorem pst_pos {c : List (Int × Pl)} {x : Int × Pl} (h : x ∈ pst c) : 0 < x.1 := by
  unfold pst at h; simpa using (List.mem_filter.1 h).2
theorem pst_sub (c : List (Int × Pl)) : (pst c).Sublist c := List.filter_sublist
theorem pst_lt {c : List (Int × Pl)} {x : Int × Pl} (h : x ∈ c) (h0 : x.1 = 0) : (pst c).length < c.length := by
  rcases Nat.lt_or_ge (pst c).length c.length with h1 | h1
  · exact h1
  · have e := (pst_sub c).eq_of_length_le h1
    rw [← e] at h; have := pst_pos h; omega

theorem mul_can {a b c : Int} (h : a * c ≤ b * c) (hc : 0 < c) : a ≤ b := Int.le_of_mul_le_mul_right h hc
/-- An entry whose second weight is greatest by its first. -/
theorem most (t : List (Int × Int × Pl)) (h : ∀ x ∈ t, 0 < x.1) (hn : t ≠ []) : ∃ m ∈ t, ∀ x ∈ t, x.2.1 * m.1 ≤ m.2.1 * x.1 := by
  induction t with
  | nil => exact absurd rfl hn
  | cons x r ih =>
    have hx := h x List.mem_cons_self
    by_cases hr : r = []
    · subst hr
      exact ⟨x, List.mem_cons_self, fun y hy => by rw [List.mem_singleton.1 hy]; exact Int.le_refl _⟩
    · obtain ⟨m, hm, h1⟩ := ih (fun y hy => h y (List.mem_cons_of_mem _ hy)) hr
      have hmp := h m (List.mem_cons_of_mem _ hm)
      by_cases hc : x.2.1 * m.1 ≤ m.2.1 * x.1
      · refine ⟨m, List.mem_cons_of_mem _ hm, fun y hy => ?_⟩
        rcases List.mem_cons.1 hy with rfl | hy
        · exact hc
        · exact h1 y hy
      · refine ⟨x, List.mem_cons_self, fun y hy => ?_⟩
        rcases List.mem_cons.1 hy with rfl | hy
        · exact Int.le_refl _
        · have hyp := h y (List.mem_cons_of_mem _ hy)
          have h2 := h1 y hy
          refine mul_can (c := m.1) ?_ hmp
          have h3 : y.2.1 * m.1 * x.1 ≤ m.2.1 * y.1 * x.1 := Int.mul_le_mul_of_nonneg_right h2 (by omega)
          have h4 : m.2.1 * x.1 * y.1 ≤ x.2.1 * m.1 * y.1 := Int.mul_le_mul_of_nonneg_right (by omega) (by omega)
          have e1 : y.2.1 * x.1 * m.1 = y.2.1 * m.1 * x.1 := by grind
          have e2 : m.2.1 * y.1 * x.1 = m.2.1 * x.1 * y.1 := by grind
          have e3 : x.2.1 * y.1 * m.1 = x.2.1 * m.1 * y.1 := by grind
          omega
theorem least (t : List (Int × Int × Pl)) (h : ∀ x ∈ t, 0 < x.1) (hn : t ≠ []) : ∃ m ∈ t, ∀ x ∈ t, m.2.1 * x.1 ≤ x.2.1 * m.1 := by
  obtain ⟨m, hm, h1⟩ := most (t.map fun x => (x.1, -x.2.1, x.2.2)) (fun x hx => by
    obtain ⟨y, hy, rfl⟩ := List.mem_map.1 hx; exact h y hy) (by simpa using hn)
  obtain ⟨k, hk, rfl⟩ := List.mem_map.1 hm
  refine ⟨k, hk, fun x hx => ?_⟩
  have := h1 _ (List.mem_map.2 ⟨x, hx, rfl⟩)
  simp only [Int.neg_mul] at this
  omega
theorem snd_tm (a b : Int) (t : List (Int × Int × Pl)) : (tm a b t).map (·.2) = t.map (·.2.2) := by simp [tm]
/-- Where weights and another row that cancels go not alike, fewer planes do. -/
theorem red (t : List (Int × Int × Pl)) (hc : Cert (tw t)) (ha : sm Pl.A (tv t) = 0) (hb : sm Pl.B (tv t) = 0) (hcc : sm Pl.C (tv t) = 0)
    (hne : ∃ x ∈ t, ∃ y ∈ t, x.1 * y.2.1 ≠ y.1 * x.2.1) : ∃ c, Cert c ∧ c.length < t.length ∧ (c.map (·.2)).Sublist (t.map (·.2.2)) := by
  have hp : ∀ x ∈ t, 0 < x.1 := fun x hx => hc.pos _ (List.mem_map.2 ⟨x, hx, rfl⟩)
  obtain ⟨x, hx, y, hy, hxy⟩ := hne
  have hn : t ≠ [] := fun h => by rw [h] at hx; cases hx
  obtain ⟨m, hm, h1⟩ := most t hp hn
  obtain ⟨k, hk, h2⟩ := least t hp hn
  have hmp := hp m hm; have hkp := hp k hk
  have hlt : k.2.1 * m.1 < m.2.1 * k.1 := by
    rcases Int.lt_or_le (k.2.1 * m.1) (m.2.1 * k.1) with h | h
    · exact h
    · exfalso
      have same : ∀ z ∈ t, z.2.1 * m.1 = m.2.1 * z.1 := fun z hz => by
        have a1 := h1 z hz; have a2 := h2 z hz
        have hzp := hp z hz
        have b1 : m.2.1 * k.1 * z.1 ≤ k.2.1 * m.1 * z.1 := Int.mul_le_mul_of_nonneg_right h (by omega)
        have b2 : k.2.1 * z.1 * m.1 ≤ z.2.1 * k.1 * m.1 := Int.mul_le_mul_of_nonneg_right a2 (by omega)
        have b3 : m.2.1 * z.1 ≤ z.2.1 * m.1 := mul_can (c := k.1) (by
          have e1 : m.2.1 * z.1 * k.1 = m.2.1 * k.1 * z.1 := by grind
          have e2 : k.2.1 * m.1 * z.1 = k.2.1 * z.1 * m.1 := by grind
          have e3 : z.2.1 * m.1 * k.1 = z.2.1 * k.1 * m.1 := by grind
          omega) hkp
        omega
      have s1 := same x hx; have s2 := same y hy
      apply hxy
      have : (x.1 * y.2.1) * m.1 = (y.1 * x.2.1) * m.1 := by grind
      exact Int.eq_of_mul_eq_mul_right (by omega) this
  have main : ∀ (a b : Int), (∀ z ∈ t, 0 ≤ a * z.1 + b * z.2.1) → (∃ z ∈ t, 0 < a * z.1 + b * z.2.1) → (∃ z ∈ t, a * z.1 + b * z.2.1 = 0) → a * sm Pl.D (tw t) + b * sm Pl.D (tv t) ≤ 0 →
      ∃ c, Cert c ∧ c.length < t.length ∧ (c.map (·.2)).Sublist (t.map (·.2.2)) := by
    intro a b q1 q2 q3 q4
    have hge : ∀ z ∈ tm a b t, 0 ≤ z.1 := fun z hz => by obtain ⟨w, hw, rfl⟩ := List.mem_map.1 hz; exact q1 w hw
    refine ⟨pst (tm a b t), ⟨fun z hz => pst_pos hz, ?_, ?_, ?_, ?_, ?_⟩, ?_, ?_⟩
    · rw [sm_pst _ _ hge, sm_tm, hc.a, ha]; simp
    · rw [sm_pst _ _ hge, sm_tm, hc.b, hb]; simp
    · rw [sm_pst _ _ hge, sm_tm, hc.cc, hcc]; simp
    · rw [sm_pst _ _ hge, sm_tm]; exact q4
    · obtain ⟨z, hz, h0⟩ := q2
      intro h
      have : (a * z.1 + b * z.2.1, z.2.2) ∈ pst (tm a b t) := List.mem_filter.2 ⟨List.mem_map.2 ⟨z, hz, rfl⟩, by simpa using h0⟩
      rw [h] at this; cases this
    · obtain ⟨z, hz, h0⟩ := q3
      have := pst_lt (c := tm a b t) (x := (a * z.1 + b * z.2.1, z.2.2)) (List.mem_map.2 ⟨z, hz, rfl⟩) h0
      rwa [show (tm a b t).length = t.length by simp [tm]] at this
    · rw [← snd_tm a b t]; exact (pst_sub _).map _
  have hD := hc.d
  by_cases hs : m.2.1 * sm Pl.D (tw t) + (-m.1) * sm Pl.D (tv t) ≤ 0
  · refine main m.2.1 (-m.1) (fun z hz => ?_) ⟨k, hk, ?_⟩ ⟨m, hm, ?_⟩ hs
    · have := h1 z hz; rw [Int.neg_mul, Int.mul_comm m.1]; omega
    · rw [Int.neg_mul, Int.mul_comm m.1]; omega
    · grind
  · refine main (-k.2.1) k.1 (fun z hz => ?_) ⟨m, hm, ?_⟩ ⟨k, hk, ?_⟩ ?_
    · have := h2 z hz; rw [Int.neg_mul, Int.mul_comm k.1]; omega
    · rw [Int.neg_mul, Int.mul_comm k.1]; omega
    · grind
    · have q1 : 0 < (m.2.1 * sm Pl.D (tw t) + (-m.1) * sm Pl.D (tv t)) * k.1 := Int.mul_pos (by omega) hkp
      have q2 : (m.2.1 * k.1 - k.2.1 * m.1) * sm Pl.D (tw t) ≤ 0 := Int.mul_nonpos_of_nonneg_of_nonpos (by omega) hD
      refine mul_can (c := m.1) ?_ hmp
      have e : ((-k.2.1) * sm Pl.D (tw t) + k.1 * sm Pl.D (tv t)) * m.1 = (m.2.1 * k.1 - k.2.1 * m.1) * sm Pl.D (tw t) - (m.2.1 * sm Pl.D (tw t) + (-m.1) * sm Pl.D (tv t)) * k.1 := by grind
      rw [e]; omega

/-! clashes and sublists -/
theorem sub_get {x : Pl} {r : List Pl} : ∀ {l : List Pl}, (x :: r).Sublist l → ∃ j, j < l.length ∧ gt l j = x ∧ r.Sublist (l.drop (j + 1)) := by
  intro l
  induction l with
  | nil => intro h; cases h
  | cons y l ih =>
    intro h
    cases h with
    | cons _ h =>
      obtain ⟨j, h1, h2, h3⟩ := ih h
      exact ⟨j + 1, by simp only [List.length_cons]; omega, h2, h3⟩
    | cons_cons _ h => exact ⟨0, by simp, rfl, h⟩
theorem gt_drop (l : List Pl) (i j : Nat) : gt (l.drop i) j = gt l (i + j) := by unfold gt; rw [List.getElem?_drop]
theorem get_sub {l : List Pl} {i : Nat} {r : List Pl} (h : i < l.length) (hr : r.Sublist (l.drop (i + 1))) : (gt l i :: r).Sublist (l.drop i) := by
  rw [List.drop_eq_getElem_cons h, show gt l i = l[i] by unfold gt; rw [List.getElem?_eq_getElem h]; rfl]
  exact hr.cons_cons _
theorem drop_up {l r : List Pl} {i j : Nat} (h : i ≤ j) (hr : r.Sublist (l.drop j)) : r.Sublist (l.drop i) := by
  have e : l.drop j = (l.drop i).drop (j - i) := by rw [List.drop_drop]; congr 1; omega
  rw [e] at hr
  exact hr.trans (List.drop_sublist _ _)
theorem drop_any {l r : List Pl} {j : Nat} (hr : r.Sublist (l.drop j)) : r.Sublist l := drop_up (Nat.zero_le j) hr
theorem wth_sub (l : List Pl) (p : Pl) : wth l p = true ↔ (∃ q, [q].Sublist l ∧ cl2 q p = true) ∨ (∃ q r, [q, r].Sublist l ∧ cl3 q r p = true) ∨ (∃ q r s, [q, r, s].Sublist l ∧ cl4 q r s p = true) := by
  rw [wth_iff]
  constructor
  · rintro ⟨i, hi, h | ⟨j, hj, hj2, h | ⟨k, hk, hk2, h⟩⟩⟩
    · exact .inl ⟨_, drop_any (get_sub hi (List.nil_sublist _)), h⟩
    · exact .inr (.inl ⟨_, _, drop_any (get_sub hi (drop_up (j := j) hj (get_sub hj2 (List.nil_sublist _)))), h⟩)
    · exact .inr (.inr ⟨_, _, _, drop_any (get_sub hi (drop_up (j := j) hj (get_sub hj2 (drop_up (j := k) hk (get_sub hk2 (List.nil_sublist _)))))), h⟩)
  · rintro (⟨q, h1, h⟩ | ⟨q, r, h1, h⟩ | ⟨q, r, s, h1, h⟩)
    · obtain ⟨i, hi, rfl, _⟩ := sub_get h1
      exact ⟨i, hi, .inl h⟩
    · obtain ⟨i, hi, rfl, h2⟩ := sub_get h1
      obtain ⟨j, hj, rfl, _⟩ := sub_get h2
      rw [gt_drop] at h; rw [List.length_drop] at hj
      exact ⟨i, hi, .inr ⟨i + 1 + j, by omega, by omega, .inl h⟩⟩
    · obtain ⟨i, hi, rfl, h2⟩ := sub_get h1
      obtain ⟨j, hj, rfl, h3⟩ := sub_get h2
      obtain ⟨k, hk, rfl, _⟩ := sub_get h3
      rw [gt_drop, gt_drop, gt_drop] at h; rw [List.length_drop] at hj hk; rw [List.length_drop] at hk
      exact ⟨i, hi, .inr ⟨i + 1 + j, by omega, by omega, .inr ⟨i + 1 + (j + 1 + k), by omega, by omega, h⟩⟩⟩

/-- A path that has room, as it grows. -/
inductive Opn : List Pl → Prop
  | nil : Opn []
  | snoc {l p} : Opn l → wth l p = false → Opn (l ++ [p])
theorem sub_snoc {r l : List Pl} {p q : Pl} (h : (r ++ [p]).Sublist (l ++ [q])) : (r ++ [p]).Sublist l ∨ (p = q ∧ r.Sublist l) := by
  have h := h.reverse
  rw [List.reverse_append, List.reverse_append] at h
  simp only [List.reverse_singleton, List.singleton_append] at h
  cases h with
  | cons _ h => left; have := h.reverse; simpa using this
  | cons_cons _ h => right; exact ⟨rfl, by have := h.reverse; simpa using this⟩
theorem Opn.last {l : List Pl} (h : Opn l) {r : List Pl} {p : Pl} (hs : (r ++ [p]).Sublist l) : ∃ l', r.Sublist l' ∧ wth l' p = false := by
  induction h with
  | nil => have := hs.length_le; simp at this
  | @snoc l q _ hw ih =>
    rcases sub_snoc hs with h | ⟨rfl, h⟩
    · exact ih h
    · exact ⟨l, h, hw⟩
/-- Is a plane's normal something? -/
def Nz (p : Pl) : Prop := p.A ≠ 0 ∨ p.B ≠ 0 ∨ p.C ≠ 0
theorem pOk_Nz {p : Pl} (h : pOk p = true) : Nz p := by
  unfold pOk at h; simp only [Bool.and_eq_true, decide_eq_true_eq] at h; exact h.2.2.2.2.1

theorem cr_dep (p q : Pl) : cr0 p q = 0 ∧ cr1 p q = 0 ∧ cr2 p q = 0 → Nz p → Nz q → ∃ x y, x ≠ 0 ∧ y ≠ 0 ∧ x * p.A + y * q.A = 0 ∧ x * p.B + y * q.B = 0 ∧ x * p.C + y * q.C = 0 := by
  obtain ⟨a, b, c, d⟩ := p; obtain ⟨e, f, g, i⟩ := q
  unfold Nz cr0 cr1 cr2
  simp only
  rintro ⟨h0, h1, h2⟩ hp hq
  have z : ∀ x y : Int, x ≠ 0 → x * y = 0 → y = 0 := fun x y hx h => (Int.mul_eq_zero.1 h).resolve_left hx
  by_cases ha : a = 0
  · by_cases hb : b = 0
    · have hc : c ≠ 0 := by rcases hp with h | h | h <;> first | exact absurd ha h | exact absurd hb h | exact h
      refine ⟨g, -c, ?_, by omega, ?_, ?_, ?_⟩
      · rintro rfl
        have := z c e hc (by grind); have := z c f hc (by grind)
        rcases hq with h | h | h <;> omega
      · grind
      · grind
      · grind
    · refine ⟨f, -b, ?_, by omega, ?_, ?_, ?_⟩
      · rintro rfl
        have := z b e hb (by grind); have := z b g hb (by grind)
        rcases hq with h | h | h <;> omega
      · grind
      · grind
      · grind
  · refine ⟨e, -a, ?_, by omega, ?_, ?_, ?_⟩
    · rintro rfl
      have := z a f ha (by grind); have := z a g ha (by grind)
      rcases hq with h | h | h <;> omega
    · grind
    · grind
    · grind
end Evl.T

/-! Epq -/
namespace Evl.T
open Go Evl

theorem sm_app (f : Pl → Int) (a b : List (Int × Pl)) : sm f (a ++ b) = sm f a + sm f b := by
  induction a with
  | nil => simp [sm]
  | cons x r ih => simp only [List.cons_append, sm_cons, ih]; omega
theorem sm_zero (f : Pl → Int) (b : List (Int × Pl)) : sm f (b.map fun x => ((0 : Int), x.2)) = 0 := by
  induction b with
  | nil => rfl
  | cons x r ih => simp only [List.map_cons, sm_cons, ih]; omega
theorem red2 (pre : List (Int × Int × Pl)) (rest : List (Int × Pl)) (hc : Cert (tw pre ++ rest)) (ha : sm Pl.A (tv pre) = 0) (hb : sm Pl.B (tv pre) = 0) (hcc : sm Pl.C (tv pre) = 0)
    (hne : (∃ x ∈ pre, ∃ y ∈ pre, x.1 * y.2.1 ≠ y.1 * x.2.1) ∨ (rest ≠ [] ∧ ∃ x ∈ pre, x.2.1 ≠ 0)) :
    ∃ c, Cert c ∧ c.length < (tw pre ++ rest).length ∧ (c.map (·.2)).Sublist ((tw pre ++ rest).map (·.2)) := by
  let t := pre ++ rest.map fun x => (x.1, (0 : Int), x.2)
  have e1 : tw t = tw pre ++ rest := by simp [t, tw, Function.comp_def]
  have e2 : ∀ f, sm f (tv t) = sm f (tv pre) := fun f => by
    have : tv t = tv pre ++ rest.map fun x => ((0 : Int), x.2) := by simp [t, tv, Function.comp_def]
    rw [this, sm_app, sm_zero]; omega
  have e3 : t.map (·.2.2) = (tw pre ++ rest).map (·.2) := by simp [t, tw, Function.comp_def]
  have e4 : t.length = (tw pre ++ rest).length := by simp [t, tw]
  obtain ⟨c, h1, h2, h3⟩ := red t (by rw [e1]; exact hc) (by rw [e2]; exact ha) (by rw [e2]; exact hb) (by rw [e2]; exact hcc) (by
    rcases hne with ⟨x, hx, y, hy, h⟩ | ⟨hr, x, hx, h⟩
    · exact ⟨x, List.mem_append_left _ hx, y, List.mem_append_left _ hy, h⟩
    · obtain ⟨y, r, rfl⟩ := List.exists_cons_of_ne_nil hr
      refine ⟨x, List.mem_append_left _ hx, (y.1, 0, y.2), List.mem_append_right _ (by simp), ?_⟩
      have hy : 0 < y.1 := hc.pos y (List.mem_append_right _ (by simp))
      intro h0
      simp only [Int.mul_zero] at h0
      rcases Int.mul_eq_zero.1 h0.symm with h1 | h1
      · omega
      · exact h h1)
  exact ⟨c, h1, by omega, by rw [← e3]; exact h3⟩

theorem same2 {w1 w2 : Int} {p q : Pl} (h1 : 0 < w1) (h2 : 0 < w2) (hq : Nz q) (ha : w1 * p.A + w2 * q.A = 0) (hb : w1 * p.B + w2 * q.B = 0) (hc : w1 * p.C + w2 * q.C = 0)
    (hd : w1 * p.D + w2 * q.D ≤ 0) : cl2 p q = true := by
  obtain ⟨a, b, c, d⟩ := p; obtain ⟨e, f, g, i⟩ := q
  simp only at ha hb hc hd
  have z : ∀ y : Int, w1 * y = 0 → y = 0 := fun y h => (Int.mul_eq_zero.1 h).resolve_left (by omega)
  have hpos : 0 < d3 e f g e f g := d3_pos (fun h => by
    unfold Nz at hq; simp only at hq
    rcases hq with h' | h' | h'
    · exact h' h.1
    · exact h' h.2.1
    · exact h' h.2.2)
  unfold cl2
  rw [decide_eq_true_iff]
  simp only [cr0, cr1, cr2, dt]
  refine ⟨⟨z _ (by grind), z _ (by grind), z _ (by grind), ?_⟩, ?_⟩
  · have e1 : w1 * (a * e + b * f + c * g) = -(w2 * d3 e f g e f g) := by unfold d3; grind
    have e2 : 0 < w2 * d3 e f g e f g := Int.mul_pos h2 hpos
    rcases Int.lt_or_le (a * e + b * f + c * g) 0 with h | h
    · exact h
    · have := Int.mul_nonneg (Int.le_of_lt h1) h; omega
  · have n : ∀ x y : Int, w1 * x + w2 * y = 0 → w1 * (x.natAbs : Int) = w2 * (y.natAbs : Int) := fun x y h => by
      have := na_mul (a := w1) (b := x) (c := w2) (d := -y) (by grind)
      rw [Int.natAbs_neg] at this
      rwa [Int.natAbs_of_nonneg (a := w1) (by omega), Int.natAbs_of_nonneg (a := w2) (by omega)] at this
    have na := n _ _ ha; have nb := n _ _ hb; have nc := n _ _ hc
    push_cast
    refine mul_can (c := w1) ?_ h1
    have e1 : ((↑e.natAbs + ↑f.natAbs + ↑g.natAbs) * d + (↑a.natAbs + ↑b.natAbs + ↑c.natAbs) * i) * w1 = ((e.natAbs : Int) + f.natAbs + g.natAbs) * (w1 * d + w2 * i) := by grind
    rw [e1, Int.zero_mul]
    exact Int.mul_nonpos_of_nonneg_of_nonpos (by omega) hd

/-- Numbers that go as weights above 0: all above 0, or all below. -/
theorem sgn_of {w k x y : Int} (hw : 0 < w) (hk : 0 < k) (h : w * x = k * y) : (0 < y → 0 < x) ∧ (y < 0 → x < 0) ∧ w * (x.natAbs : Int) = k * (y.natAbs : Int) := by
  refine ⟨fun hy => ?_, fun hy => ?_, ?_⟩
  · have := Int.mul_pos hk hy
    rcases Int.lt_or_le 0 x with h1 | h1
    · exact h1
    · have := Int.mul_nonpos_of_nonneg_of_nonpos (Int.le_of_lt hw) h1; omega
  · have : k * y < 0 := Int.mul_neg_of_pos_of_neg hk hy
    rcases Int.lt_or_le x 0 with h1 | h1
    · exact h1
    · have := Int.mul_nonneg (Int.le_of_lt hw) h1; omega
  · have := na_mul h
    rwa [Int.natAbs_of_nonneg (a := w) (by omega), Int.natAbs_of_nonneg (a := k) (by omega)] at this
theorem same3 {w1 w2 w3 x y z : Int} {p q r : Pl} (h1 : 0 < w1) (h2 : 0 < w2) (h3 : 0 < w3) (hz : z ≠ 0) (hx : w3 * x = w1 * z) (hy : w3 * y = w2 * z)
    (hd : w1 * p.D + w2 * q.D + w3 * r.D ≤ 0) : sk x y z p.D q.D r.D = true := by
  have sx := sgn_of h3 h1 hx; have sy := sgn_of h3 h2 hy
  unfold sk
  rw [decide_eq_true_iff]
  refine ⟨?_, ?_⟩
  · rcases Int.lt_or_lt_of_ne hz with h | h
    · exact .inr ⟨sx.2.1 h, sy.2.1 h, h⟩
    · exact .inl ⟨sx.1 h, sy.1 h, h⟩
  · refine mul_can (c := w3) ?_ h3
    have e : ((x.natAbs : Int) * p.D + (y.natAbs : Int) * q.D + (z.natAbs : Int) * r.D) * w3 = (z.natAbs : Int) * (w1 * p.D + w2 * q.D + w3 * r.D) := by
      have a1 := sx.2.2; have a2 := sy.2.2; grind
    rw [e, Int.zero_mul]
    exact Int.mul_nonpos_of_nonneg_of_nonpos (by omega) hd
theorem same4 {w1 w2 w3 w4 : Int} {p q r s : Pl} (h1 : 0 < w1) (h2 : 0 < w2) (h3 : 0 < w3) (h4 : 0 < w4) (hz : 0 - det3 p q r ≠ 0)
    (hx : w4 * det3 q r s = w1 * (0 - det3 p q r)) (hy : w4 * (0 - det3 p r s) = w2 * (0 - det3 p q r)) (hv : w4 * det3 p q s = w3 * (0 - det3 p q r))
    (hd : w1 * p.D + w2 * q.D + w3 * r.D + w4 * s.D ≤ 0) : cl4 p q r s = true := by
  have sx := sgn_of h4 h1 hx; have sy := sgn_of h4 h2 hy; have sv := sgn_of h4 h3 hv
  unfold cl4
  generalize det3 q r s = a at *
  generalize (0 - det3 p r s) = b at *
  generalize det3 p q s = c at *
  generalize (0 - det3 p q r) = z at *
  rw [decide_eq_true_iff]
  refine ⟨?_, ?_⟩
  · rcases Int.lt_or_lt_of_ne hz with h | h
    · exact .inr ⟨sx.2.1 h, sy.2.1 h, sv.2.1 h, h⟩
    · exact .inl ⟨sx.1 h, sy.1 h, sv.1 h, h⟩
  · refine mul_can (c := w4) ?_ h4
    have e : ((a.natAbs : Int) * p.D + (b.natAbs : Int) * q.D + (c.natAbs : Int) * r.D + (z.natAbs : Int) * s.D) * w4 = (z.natAbs : Int) * (w1 * p.D + w2 * q.D + w3 * r.D + w4 * s.D) := by
      have a1 := sx.2.2; have a2 := sy.2.2; have a3 := sv.2.2; grind
    rw [e, Int.zero_mul]
    exact Int.mul_nonpos_of_nonneg_of_nonpos (by omega) hd

/-- The crosses of three planes without a determinant, at each place. -/
theorem cross_dep {p q r : Pl} (h : det3 p q r = 0) :
    (cr0 q r * p.A + cr0 r p * q.A + cr0 p q * r.A = 0 ∧ cr0 q r * p.B + cr0 r p * q.B + cr0 p q * r.B = 0 ∧ cr0 q r * p.C + cr0 r p * q.C + cr0 p q * r.C = 0) ∧
    (cr1 q r * p.A + cr1 r p * q.A + cr1 p q * r.A = 0 ∧ cr1 q r * p.B + cr1 r p * q.B + cr1 p q * r.B = 0 ∧ cr1 q r * p.C + cr1 r p * q.C + cr1 p q * r.C = 0) ∧
    (cr2 q r * p.A + cr2 r p * q.A + cr2 p q * r.A = 0 ∧ cr2 q r * p.B + cr2 r p * q.B + cr2 p q * r.B = 0 ∧ cr2 q r * p.C + cr2 r p * q.C + cr2 p q * r.C = 0) := by
  obtain ⟨a, b, c, d⟩ := p; obtain ⟨e, f, g, i⟩ := q; obtain ⟨j, k, l, m⟩ := r
  simp only [det3, cr0, cr1, cr2] at h ⊢
  refine ⟨⟨?_, ?_, ?_⟩, ⟨?_, ?_, ?_⟩, ?_, ?_, ?_⟩ <;> grind
theorem det_dep (p q r s : Pl) :
    det3 q r s * p.A + (0 - det3 p r s) * q.A + det3 p q s * r.A + (0 - det3 p q r) * s.A = 0 ∧
    det3 q r s * p.B + (0 - det3 p r s) * q.B + det3 p q s * r.B + (0 - det3 p q r) * s.B = 0 ∧
    det3 q r s * p.C + (0 - det3 p r s) * q.C + det3 p q s * r.C + (0 - det3 p q r) * s.C = 0 := by
  obtain ⟨a, b, c, d⟩ := p; obtain ⟨e, f, g, i⟩ := q; obtain ⟨j, k, l, m⟩ := r; obtain ⟨u, v, w, x⟩ := s
  simp only [det3]
  refine ⟨?_, ?_, ?_⟩ <;> grind
theorem det_zero {w1 w2 w3 : Int} {p q r : Pl} (h1 : 0 < w1) (ha : w1 * p.A + w2 * q.A + w3 * r.A = 0) (hb : w1 * p.B + w2 * q.B + w3 * r.B = 0) (hc : w1 * p.C + w2 * q.C + w3 * r.C = 0) : det3 p q r = 0 := by
  obtain ⟨a, b, c, d⟩ := p; obtain ⟨e, f, g, i⟩ := q; obtain ⟨j, k, l, m⟩ := r
  simp only [det3] at ha hb hc ⊢
  refine (Int.mul_eq_zero.1 (show w1 * _ = 0 from ?_)).resolve_left (by omega)
  have e1 : w1 * a = -(w2 * e) - w3 * j := by omega
  have e2 : w1 * b = -(w2 * f) - w3 * k := by omega
  have e3 : w1 * c = -(w2 * g) - w3 * l := by omega
  rw [Int.mul_add, Int.mul_add, ← Int.mul_assoc, ← Int.mul_assoc, ← Int.mul_assoc, e1, e2, e3]
  grind
/-- Three planes without a determinant: some row cancels them. -/
theorem dep3 {p q r : Pl} (h : det3 p q r = 0) (hp : Nz p) (hq : Nz q) : ∃ x y z : Int, (x ≠ 0 ∨ z ≠ 0) ∧
    x * p.A + y * q.A + z * r.A = 0 ∧ x * p.B + y * q.B + z * r.B = 0 ∧ x * p.C + y * q.C + z * r.C = 0 := by
  by_cases hw : cr0 p q = 0 ∧ cr1 p q = 0 ∧ cr2 p q = 0
  · obtain ⟨x, y, h1, h2, h3, h4, h5⟩ := cr_dep p q hw hp hq
    exact ⟨x, y, 0, .inl h1, by omega, by omega, by omega⟩
  · obtain ⟨c0, c1, c2⟩ := cross_dep h
    by_cases h0 : cr0 p q = 0
    · by_cases h1 : cr1 p q = 0
      · exact ⟨_, _, _, .inr fun h2 => hw ⟨h0, h1, h2⟩, c2⟩
      · exact ⟨_, _, _, .inr h1, c1⟩
    · exact ⟨_, _, _, .inr h0, c0⟩
end Evl.T

/-! Epr -/
namespace Evl.T
open Go Evl

theorem no_cert {l : List Pl} (ho : Opn l) (hz : ∀ q ∈ l, Nz q) : ∀ (n : Nat) (c : List (Int × Pl)), c.length < n → Cert c → (c.map (·.2)).Sublist l → False := by
  intro n
  induction n with
  | zero => intro c h; omega
  | succ n ih =>
    intro c hn hc hs
    have go : (∃ c', Cert c' ∧ c'.length < c.length ∧ (c'.map (·.2)).Sublist (c.map (·.2))) → False := fun ⟨c', h1, h2, h3⟩ => ih c' (by omega) h1 (h3.trans hs)
    have nz : ∀ x ∈ c, Nz x.2 := fun x hx => hz _ (hs.subset (List.mem_map.2 ⟨x, hx, rfl⟩))
    have ps := hc.pos
    have ha := hc.a; have hb := hc.b; have hcc := hc.cc; have hd := hc.d
    match c, hc, hs, go, nz, ps, ha, hb, hcc, hd with
    | [], hc, _, _, _, _, _, _, _, _ => exact hc.ne rfl
    | [(w, p)], _, _, _, nz, ps, ha, hb, hcc, _ =>
      have hw := ps _ (List.mem_singleton.2 rfl)
      have hn := nz _ (List.mem_singleton.2 rfl)
      simp only [sm, Int.add_zero] at ha hb hcc hw
      have z : ∀ y : Int, w * y = 0 → y = 0 := fun y h => (Int.mul_eq_zero.1 h).resolve_left (by omega)
      rcases hn with h | h | h
      · exact h (z _ ha)
      · exact h (z _ hb)
      · exact h (z _ hcc)
    | [(w1, p), (w2, q)], _, hs, _, nz, ps, ha, hb, hcc, hd =>
      have h1 : 0 < w1 := ps (w1, p) (by simp)
      have h2 : 0 < w2 := ps (w2, q) (by simp)
      have nq : Nz q := nz (w2, q) (by simp)
      simp only [sm, Int.add_zero] at ha hb hcc hd
      have hcl := same2 h1 h2 nq ha hb hcc hd
      obtain ⟨l', h3, h4⟩ := ho.last (r := [p]) (p := q) hs
      rw [(wth_sub l' q).2 (.inl ⟨p, h3, hcl⟩)] at h4
      cases h4
    | [(w1, p), (w2, q), (w3, r)], hc, hs, go, nz, ps, ha, hb, hcc, hd =>
      have h1 : 0 < w1 := ps (w1, p) (by simp)
      have h2 : 0 < w2 := ps (w2, q) (by simp)
      have h3 : 0 < w3 := ps (w3, r) (by simp)
      have np : Nz p := nz (w1, p) (by simp)
      have nq : Nz q := nz (w2, q) (by simp)
      simp only [sm, Int.add_zero] at ha hb hcc hd
      have hdet : det3 p q r = 0 := det_zero (w2 := w2) (w3 := w3) h1 (by omega) (by omega) (by omega)
      by_cases hw : cr0 p q = 0 ∧ cr1 p q = 0 ∧ cr2 p q = 0
      · obtain ⟨x, y, hx, hy, e1, e2, e3⟩ := cr_dep p q hw np nq
        refine go (red2 [(w1, x, p), (w2, y, q)] [(w3, r)] hc ?_ ?_ ?_ (.inr ⟨by simp, (w1, x, p), by simp, hx⟩))
        · simp only [tv, List.map_cons, List.map_nil, sm]; omega
        · simp only [tv, List.map_cons, List.map_nil, sm]; omega
        · simp only [tv, List.map_cons, List.map_nil, sm]; omega
      · obtain ⟨c0, c1, c2⟩ := cross_dep hdet
        obtain ⟨⟨a1, a2, a3⟩, b1, b2, b3⟩ := par3 hdet
        have pX := prj a1 a2 a3; have pY := prj b1 b2 b3
        have key : ∀ x y z : Int, z ≠ 0 → (x * p.A + y * q.A + z * r.A = 0 ∧ x * p.B + y * q.B + z * r.B = 0 ∧ x * p.C + y * q.C + z * r.C = 0) →
            d3 (cr0 q r) (cr1 q r) (cr2 q r) (cr0 p q) (cr1 p q) (cr2 p q) * z = x * d3 (cr0 p q) (cr1 p q) (cr2 p q) (cr0 p q) (cr1 p q) (cr2 p q) →
            d3 (cr0 r p) (cr1 r p) (cr2 r p) (cr0 p q) (cr1 p q) (cr2 p q) * z = y * d3 (cr0 p q) (cr1 p q) (cr2 p q) (cr0 p q) (cr1 p q) (cr2 p q) → False := by
          intro x y z hz0 ⟨d1, d2, d3'⟩ hX hY
          by_cases hx : w3 * x = w1 * z
          · by_cases hy : w3 * y = w2 * z
            · have hk := same3 (p := p) (q := q) (r := r) h1 h2 h3 hz0 hx hy (by omega)
              rw [sk_cl3 hdet hw hz0 hX hY] at hk
              obtain ⟨l', h3, h4⟩ := ho.last (r := [p, q]) (p := r) hs
              rw [(wth_sub l' r).2 (.inr (.inl ⟨p, q, h3, hk⟩))] at h4
              cases h4
            · refine go (red2 [(w1, x, p), (w2, y, q), (w3, z, r)] [] hc ?_ ?_ ?_ (.inl ⟨(w3, z, r), by simp, (w2, y, q), by simp, hy⟩))
              · simp only [tv, List.map_cons, List.map_nil, sm]; omega
              · simp only [tv, List.map_cons, List.map_nil, sm]; omega
              · simp only [tv, List.map_cons, List.map_nil, sm]; omega
          · refine go (red2 [(w1, x, p), (w2, y, q), (w3, z, r)] [] hc ?_ ?_ ?_ (.inl ⟨(w3, z, r), by simp, (w1, x, p), by simp, hx⟩))
            · simp only [tv, List.map_cons, List.map_nil, sm]; omega
            · simp only [tv, List.map_cons, List.map_nil, sm]; omega
            · simp only [tv, List.map_cons, List.map_nil, sm]; omega
        by_cases h0 : cr0 p q = 0
        · by_cases h1 : cr1 p q = 0
          · exact key _ _ _ (fun h2 => hw ⟨h0, h1, h2⟩) c2 pX.2.2 pY.2.2
          · exact key _ _ _ h1 c1 pX.2.1 pY.2.1
        · exact key _ _ _ h0 c0 pX.1 pY.1
    | (w1, p) :: (w2, q) :: (w3, r) :: (w4, s) :: rest, hc, hs, go, nz, ps, ha, hb, hcc, hd =>
      have h1 : 0 < w1 := ps (w1, p) (by simp)
      have h2 : 0 < w2 := ps (w2, q) (by simp)
      have h3 : 0 < w3 := ps (w3, r) (by simp)
      have h4 : 0 < w4 := ps (w4, s) (by simp)
      have np : Nz p := nz (w1, p) (by simp)
      have nq : Nz q := nz (w2, q) (by simp)
      by_cases hz0 : 0 - det3 p q r = 0
      · obtain ⟨x, y, z, hxz, e1, e2, e3⟩ := dep3 (p := p) (q := q) (r := r) (by omega) np nq
        refine go (red2 [(w1, x, p), (w2, y, q), (w3, z, r)] ((w4, s) :: rest) hc ?_ ?_ ?_ (.inr ⟨by simp, ?_⟩))
        · simp only [tv, List.map_cons, List.map_nil, sm]; omega
        · simp only [tv, List.map_cons, List.map_nil, sm]; omega
        · simp only [tv, List.map_cons, List.map_nil, sm]; omega
        · rcases hxz with h | h
          · exact ⟨(w1, x, p), by simp, h⟩
          · exact ⟨(w3, z, r), by simp, h⟩
      · obtain ⟨e1, e2, e3⟩ := det_dep p q r s
        have rd := red2 [(w1, det3 q r s, p), (w2, 0 - det3 p r s, q), (w3, det3 p q s, r), (w4, 0 - det3 p q r, s)] rest hc
          (by simp only [tv, List.map_cons, List.map_nil, sm]; omega) (by simp only [tv, List.map_cons, List.map_nil, sm]; omega) (by simp only [tv, List.map_cons, List.map_nil, sm]; omega)
        by_cases hr : rest = []
        · subst hr
          by_cases hx : w4 * det3 q r s = w1 * (0 - det3 p q r)
          · by_cases hy : w4 * (0 - det3 p r s) = w2 * (0 - det3 p q r)
            · by_cases hv : w4 * det3 p q s = w3 * (0 - det3 p q r)
              · simp only [sm, Int.add_zero] at hd
                have hk := same4 h1 h2 h3 h4 hz0 hx hy hv (by omega)
                obtain ⟨l', h3, h4⟩ := ho.last (r := [p, q, r]) (p := s) hs
                rw [(wth_sub l' s).2 (.inr (.inr ⟨p, q, r, h3, hk⟩))] at h4
                cases h4
              · exact go (rd (.inl ⟨(w4, 0 - det3 p q r, s), by simp, (w3, det3 p q s, r), by simp, hv⟩))
            · exact go (rd (.inl ⟨(w4, 0 - det3 p q r, s), by simp, (w2, 0 - det3 p r s, q), by simp, hy⟩))
          · exact go (rd (.inl ⟨(w4, 0 - det3 p q r, s), by simp, (w1, det3 q r s, p), by simp, hx⟩))
        · exact go (rd (.inr ⟨hr, (w4, 0 - det3 p q r, s), by simp, hz0⟩))

/-! a clash gives weights -/
/-- Weights on some of a list, and one on a plane more. -/
def Half (l : List Pl) (p : Pl) : Prop := ∃ (c : List (Int × Pl)) (m : Int), 0 < m ∧ c ≠ [] ∧ (∀ x ∈ c, 0 < x.1) ∧ (c.map (·.2)).Sublist l ∧
  sm Pl.A c + m * p.A = 0 ∧ sm Pl.B c + m * p.B = 0 ∧ sm Pl.C c + m * p.C = 0 ∧ sm Pl.D c + m * p.D ≤ 0
theorem half2 {p q : Pl} {l : List Pl} (hs : [q].Sublist l) (hq : Nz q) (h : cl2 q p = true) : Half l p := by
  unfold cl2 at h
  rw [decide_eq_true_iff] at h
  obtain ⟨⟨h0, h1, h2, h3⟩, h4⟩ := h
  obtain ⟨a, b, c, d⟩ := p; obtain ⟨e, f, g, i⟩ := q
  simp only [cr0, cr1, cr2, dt, Nz] at h0 h1 h2 h3 h4 hq
  have hN : 0 < d3 e f g e f g := d3_pos (fun h => by
    rcases hq with h' | h' | h'
    · exact h' h.1
    · exact h' h.2.1
    · exact h' h.2.2)
  have ca : (0 - (e * a + f * b + g * c)) * e + d3 e f g e f g * a = 0 := by unfold d3; grind
  have cb : (0 - (e * a + f * b + g * c)) * f + d3 e f g e f g * b = 0 := by unfold d3; grind
  have cc : (0 - (e * a + f * b + g * c)) * g + d3 e f g e f g * c = 0 := by unfold d3; grind
  generalize d3 e f g e f g = N at *
  have hM : 0 < 0 - (e * a + f * b + g * c) := by omega
  generalize 0 - (e * a + f * b + g * c) = M at *
  refine ⟨[(M, ⟨e, f, g, i⟩)], N, hN, by simp, ?_, hs, ?_, ?_, ?_, ?_⟩
  · intro x hx; rw [List.mem_singleton.1 hx]; exact hM
  · simp only [sm]; omega
  · simp only [sm]; omega
  · simp only [sm]; omega
  · simp only [sm, Int.add_zero]
    have n : ∀ x y : Int, M * x + N * y = 0 → M * (x.natAbs : Int) = N * (y.natAbs : Int) := fun x y h => by
      have := na_mul (a := M) (b := x) (c := N) (d := -y) (by grind)
      rw [Int.natAbs_neg] at this
      rwa [Int.natAbs_of_nonneg (a := M) (by omega), Int.natAbs_of_nonneg (a := N) (by omega)] at this
    have na := n _ _ ca; have nb := n _ _ cb; have nc := n _ _ cc
    push_cast at h4
    have hQ : 0 < (e.natAbs : Int) + f.natAbs + g.natAbs := by
      rcases hq with h' | h' | h' <;> omega
    refine mul_can (c := (e.natAbs : Int) + f.natAbs + g.natAbs) ?_ hQ
    have e1 : (M * i + N * d) * ((e.natAbs : Int) + f.natAbs + g.natAbs) = N * (((a.natAbs : Int) + b.natAbs + c.natAbs) * i + ((e.natAbs : Int) + f.natAbs + g.natAbs) * d) := by grind
    rw [e1, Int.zero_mul]
    exact Int.mul_nonpos_of_nonneg_of_nonpos (by omega) h4
theorem lin3 {x0 x1 x2 y0 y1 y2 w0 w1 w2 a b c : Int} (h0 : x0 * a + y0 * b + w0 * c = 0) (h1 : x1 * a + y1 * b + w1 * c = 0) (h2 : x2 * a + y2 * b + w2 * c = 0) :
    d3 x0 x1 x2 w0 w1 w2 * a + d3 y0 y1 y2 w0 w1 w2 * b + d3 w0 w1 w2 w0 w1 w2 * c = 0 := by
  have e : d3 x0 x1 x2 w0 w1 w2 * a + d3 y0 y1 y2 w0 w1 w2 * b + d3 w0 w1 w2 w0 w1 w2 * c = w0 * (x0 * a + y0 * b + w0 * c) + w1 * (x1 * a + y1 * b + w1 * c) + w2 * (x2 * a + y2 * b + w2 * c) := by unfold d3; grind
  rw [e, h0, h1, h2]; simp
theorem half3 {p q r : Pl} {l : List Pl} (hs : [q, r].Sublist l) (h : cl3 q r p = true) : Half l p := by
  unfold cl3 at h
  rw [decide_eq_true_iff] at h
  obtain ⟨h0, h1, ⟨h2, h3⟩, h4⟩ := h
  obtain ⟨⟨c1, c2, c3⟩, ⟨c4, c5, c6⟩, c7, c8, c9⟩ := cross_dep h0
  refine ⟨[(d3 (cr0 r p) (cr1 r p) (cr2 r p) (cr0 q r) (cr1 q r) (cr2 q r), q), (d3 (cr0 p q) (cr1 p q) (cr2 p q) (cr0 q r) (cr1 q r) (cr2 q r), r)], d3 (cr0 q r) (cr1 q r) (cr2 q r) (cr0 q r) (cr1 q r) (cr2 q r), h1, by simp, ?_, hs, ?_, ?_, ?_, ?_⟩
  · intro x hx
    simp only [List.mem_cons, List.not_mem_nil, or_false] at hx
    rcases hx with rfl | rfl
    · exact h2
    · exact h3
  · simp only [sm, Int.add_zero]; exact lin3 c1 c4 c7
  · simp only [sm, Int.add_zero]; exact lin3 c2 c5 c8
  · simp only [sm, Int.add_zero]; exact lin3 c3 c6 c9
  · simp only [sm]; omega
theorem half4 {p q r s : Pl} {l : List Pl} (hs : [q, r, s].Sublist l) (h : cl4 q r s p = true) : Half l p := by
  unfold cl4 at h
  rw [decide_eq_true_iff] at h
  obtain ⟨h0, h4⟩ := h
  obtain ⟨c1, c2, c3⟩ := det_dep q r s p
  generalize det3 r s p = a at *
  generalize (0 - det3 q s p) = b at *
  generalize det3 q r p = c at *
  generalize (0 - det3 q r s) = z at *
  have ps : 0 < (a.natAbs : Int) ∧ 0 < (b.natAbs : Int) ∧ 0 < (c.natAbs : Int) ∧ 0 < (z.natAbs : Int) := by omega
  have key : ∀ x y u v : Int, a * x + b * y + c * u + z * v = 0 → (a.natAbs : Int) * x + ((b.natAbs : Int) * y + ((c.natAbs : Int) * u + 0)) + (z.natAbs : Int) * v = 0 := fun x y u v h => by
    rcases h0 with h0 | h0
    · rw [Int.natAbs_of_nonneg (by omega), Int.natAbs_of_nonneg (by omega), Int.natAbs_of_nonneg (by omega), Int.natAbs_of_nonneg (by omega)]; omega
    · rw [Int.ofNat_natAbs_of_nonpos (by omega), Int.ofNat_natAbs_of_nonpos (by omega), Int.ofNat_natAbs_of_nonpos (by omega), Int.ofNat_natAbs_of_nonpos (by omega)]; grind
  refine ⟨[((a.natAbs : Int), q), ((b.natAbs : Int), r), ((c.natAbs : Int), s)], (z.natAbs : Int), ps.2.2.2, by simp, ?_, hs, key _ _ _ _ c1, key _ _ _ _ c2, key _ _ _ _ c3, ?_⟩
  · intro x hx
    simp only [List.mem_cons, List.not_mem_nil, or_false] at hx
    rcases hx with rfl | rfl | rfl
    · exact ps.1
    · exact ps.2.1
    · exact ps.2.2.1
  · simp only [sm]; omega
theorem half_of {l : List Pl} {p : Pl} (hz : ∀ q ∈ l, Nz q) (h : wth l p = true) : Half l p := by
  rcases (wth_sub l p).1 h with ⟨q, h1, h2⟩ | ⟨q, r, h1, h2⟩ | ⟨q, r, s, h1, h2⟩
  · exact half2 h1 (hz q (h1.subset List.mem_cons_self)) h2
  · exact half3 h1 h2
  · exact half4 h1 h2
/-- Weights on some of a list, as weights on all of it. -/
theorem pad {l : List Pl} : ∀ {c : List (Int × Pl)}, (c.map (·.2)).Sublist l → (∀ x ∈ c, 0 < x.1) → ∃ z : List (Int × Pl), z.map (·.2) = l ∧ (∀ x ∈ z, 0 ≤ x.1) ∧ ∀ f, sm f z = sm f c := by
  induction l with
  | nil =>
    intro c h _
    have : c = [] := by have := h.length_le; simpa using this
    subst this
    exact ⟨[], rfl, by simp, fun _ => rfl⟩
  | cons y l ih =>
    intro c h hp
    have skip : (c.map (·.2)).Sublist l → ∃ z : List (Int × Pl), z.map (·.2) = y :: l ∧ (∀ x ∈ z, 0 ≤ x.1) ∧ ∀ f, sm f z = sm f c := fun h => by
      obtain ⟨z, h1, h2, h3⟩ := ih h hp
      refine ⟨(0, y) :: z, by simp [h1], fun x hx => ?_, fun f => ?_⟩
      · rcases List.mem_cons.1 hx with rfl | hx
        · exact Int.le_refl _
        · exact h2 x hx
      · rw [sm_cons, h3]; omega
    match c, h, hp, skip with
    | [], _, _, skip => exact skip (List.nil_sublist _)
    | x :: c, h, hp, skip =>
      simp only [List.map_cons] at h
      cases h with
      | cons _ h => exact skip h
      | cons_cons _ h =>
        obtain ⟨z, h1, h2, h3⟩ := ih h fun x hx => hp x (List.mem_cons_of_mem _ hx)
        refine ⟨(x.1, x.2) :: z, by simp [h1], fun w hw => ?_, fun f => ?_⟩
        · rcases List.mem_cons.1 hw with rfl | hw
          · exact Int.le_of_lt (hp x List.mem_cons_self)
          · exact h2 w hw
        · rw [sm_cons, sm_cons, h3]
def mix (a b : Int) : List (Int × Pl) → List (Int × Pl) → List (Int × Pl)
  | x :: c, y :: d => (a * x.1 + b * y.1, x.2) :: mix a b c d
  | _, _ => []
theorem sm_mix (f : Pl → Int) (a b : Int) : ∀ (c d : List (Int × Pl)), c.map (·.2) = d.map (·.2) → sm f (mix a b c d) = a * sm f c + b * sm f d
  | [], [], _ => by simp [mix, sm]
  | x :: c, y :: d, h => by
    simp only [List.map_cons, List.cons.injEq] at h
    simp only [mix, sm_cons]
    rw [sm_mix f a b c d h.2, h.1]; grind
  | [], _ :: _, h => by simp at h
  | _ :: _, [], h => by simp at h
theorem mix_snd (a b : Int) : ∀ (c d : List (Int × Pl)), c.map (·.2) = d.map (·.2) → (mix a b c d).map (·.2) = c.map (·.2)
  | [], [], _ => rfl
  | x :: c, y :: d, h => by
    simp only [List.map_cons, List.cons.injEq] at h
    simp only [mix, List.map_cons]
    rw [mix_snd a b c d h.2]
  | [], _ :: _, h => by simp at h
  | _ :: _, [], h => by simp at h
theorem mix_ge {a b : Int} (ha : 0 ≤ a) (hb : 0 ≤ b) : ∀ (c d : List (Int × Pl)), (∀ x ∈ c, 0 ≤ x.1) → (∀ x ∈ d, 0 ≤ x.1) → ∀ x ∈ mix a b c d, 0 ≤ x.1
  | [], _, _, _ => by simp [mix]
  | _ :: _, [], _, _ => by simp [mix]
  | x :: c, y :: d, hc, hd => by
    intro z hz
    simp only [mix] at hz
    rcases List.mem_cons.1 hz with rfl | hz
    · have h1 := Int.mul_nonneg ha (hc x List.mem_cons_self)
      have h2 := Int.mul_nonneg hb (hd y List.mem_cons_self)
      show 0 ≤ a * x.1 + b * y.1
      omega
    · exact mix_ge ha hb c d (fun w hw => hc w (List.mem_cons_of_mem _ hw)) (fun w hw => hd w (List.mem_cons_of_mem _ hw)) z hz
theorem sm_pos {c : List (Int × Pl)} (h : ∀ x ∈ c, 0 < x.1) (hn : c ≠ []) : 0 < sm (fun _ => 1) c := by
  have ge : ∀ c : List (Int × Pl), (∀ x ∈ c, 0 < x.1) → 0 ≤ sm (fun _ => 1) c := fun c => by
    induction c with
    | nil => intro _; exact Int.le_refl _
    | cons x r ih =>
      intro h
      have h1 := h x List.mem_cons_self
      have h2 := ih fun y hy => h y (List.mem_cons_of_mem _ hy)
      rw [sm_cons]; omega
  obtain ⟨x, r, rfl⟩ := List.exists_cons_of_ne_nil hn
  have h1 := h x List.mem_cons_self
  have h2 := ge r fun y hy => h y (List.mem_cons_of_mem _ hy)
  rw [sm_cons]; omega
/-- Along a path that has room, a plane or its other side has room. -/
theorem flip_room {l : List Pl} (ho : Opn l) (hz : ∀ q ∈ l, Nz q) (p : Pl) : wth l p = false ∨ wth l (flp p) = false := by
  cases h1 : wth l p with
  | false => exact .inl rfl
  | true =>
    cases h2 : wth l (flp p) with
    | false => exact .inr rfl
    | true =>
      exfalso
      obtain ⟨c, m, hm, hcn, hcp, hcs, ca, cb, cc, cd⟩ := half_of hz h1
      obtain ⟨d, k, hk, hdn, hdp, hds, da, db, dc, dd⟩ := half_of hz h2
      obtain ⟨z, z1, z2, z3⟩ := pad hcs hcp
      obtain ⟨y, y1, y2, y3⟩ := pad hds hdp
      have hzy : z.map (·.2) = y.map (·.2) := by rw [z1, y1]
      have ge := mix_ge (a := k) (b := m) (by omega) (by omega) z y z2 y2
      have e : ∀ f, sm f (pst (mix k m z y)) = k * sm f c + m * sm f d := fun f => by rw [sm_pst _ _ ge, sm_mix f k m z y hzy, z3, y3]
      simp only [flp] at da db dc dd
      refine no_cert ho hz _ (pst (mix k m z y)) (Nat.lt_succ_self _) ⟨fun x hx => pst_pos hx, ?_, ?_, ?_, ?_, ?_⟩ ?_
      · rw [e]; grind
      · rw [e]; grind
      · rw [e]; grind
      · rw [e]
        have e1 : k * sm Pl.D c + m * sm Pl.D d = k * (sm Pl.D c + m * p.D) + m * (sm Pl.D d + k * (0 - p.D)) := by grind
        rw [e1]
        have h1 := Int.mul_nonpos_of_nonneg_of_nonpos (Int.le_of_lt hk) cd
        have h2 := Int.mul_nonpos_of_nonneg_of_nonpos (Int.le_of_lt hm) dd
        omega
      · intro h
        have := e fun _ => 1
        rw [h, sm_nil] at this
        have h1 := Int.mul_pos hk (sm_pos hcp hcn)
        have h2 := Int.mul_pos hm (sm_pos hdp hdn)
        omega
      · have := (pst_sub (mix k m z y)).map (·.2)
        rw [mix_snd k m z y hzy, z1] at this
        exact this
end Evl.T

/-! Eta -/
namespace Evl.T
open Go Evl

abbrev Cur := List Int × Int × Int
def CurOk (c : Cur) : Prop := 0 ≤ c.2.1 ∧ c.2.1 ≤ c.1.length ∧ c.1.length ≤ 1048576
theorem and255 (a : Int) : 0 ≤ bAnd .i64 a 255 ∧ bAnd .i64 a 255 ≤ 255 := by
  unfold bAnd
  have h1 : (BitVec.ofInt 64 a &&& BitVec.ofInt 64 255).toNat ≤ 255 := by
    rw [BitVec.toNat_and]
    have e : (BitVec.ofInt 64 255).toNat = 255 := by decide
    rw [e]; exact Nat.and_le_right
  have h2 : IntKind.i64.wrap (((BitVec.ofInt 64 a &&& BitVec.ofInt 64 255).toNat : Nat) : Int) = (((BitVec.ofInt 64 a &&& BitVec.ofInt 64 255).toNat : Nat) : Int) := w64_id (by omega) (by omega)
  show 0 ≤ IntKind.i64.wrap (((BitVec.ofInt 64 a &&& BitVec.ofInt 64 255).toNat : Nat) : Int) ∧ IntKind.i64.wrap (((BitVec.ofInt 64 a &&& BitVec.ofInt 64 255).toNat : Nat) : Int) ≤ 255
  rw [h2]; omega
theorem byteOk {c : Cur} (h : CurOk c) : ∃ v c', Dspec_l1Byte c = some (v, c') ∧ (0 ≤ v ∧ v ≤ 255) ∧ CurOk c' := by
  obtain ⟨l, i, s⟩ := c
  obtain ⟨h1, h2, h3⟩ := h
  simp only at h1 h2 h3
  unfold Dspec_l1Byte
  by_cases hi : i < (l.length : Int)
  · rw [dec_t hi, frk_t]
    obtain ⟨k, rfl⟩ : ∃ k : Nat, i = k := ⟨i.toNat, by omega⟩
    have hg : lget l (k : Int) = some l[k]! := by
      rw [lget_nat, List.getElem?_eq_getElem (by omega)]
      simp [List.getElem!_eq_getElem?_getD, List.getElem?_eq_getElem (show k < l.length by omega)]
    rw [hg, Option.bind_some, w64_suc (by unfold big; omega)]
    exact ⟨_, _, rfl, and255 _, by simp only; omega, by simp only; omega, h3⟩
  · rw [dec_f hi, frk_f]
    exact ⟨_, _, rfl, and255 _, h1, h2, h3⟩
theorem belowOk {c : Cur} (h : CurOk c) {a : Int} (h1 : 1 ≤ a) (h2 : a ≤ 256) : ∃ v c', Dspec_l1Below c a = some (v, c') ∧ (0 ≤ v ∧ v < a) ∧ CurOk c' := by
  unfold Dspec_l1Below
  rw [dec_f (by omega), frk_f, dec_t h2, frk_t]
  obtain ⟨v, c', e, hv, hc⟩ := byteOk h
  rw [e, Option.bind_some]
  unfold rm
  rw [if_neg (by omega), Option.bind_some]
  exact ⟨_, _, rfl, ⟨by simp only; rw [Int.tmod_eq_emod_of_nonneg hv.1]; exact Int.emod_nonneg _ (by omega), by simp only; rw [Int.tmod_eq_emod_of_nonneg hv.1]; exact Int.emod_lt_of_pos _ (by omega)⟩, hc⟩
theorem onceOk {c : Cur} (h : CurOk c) {a : Int} (h1 : 1 ≤ a) (h2 : a ≤ 256) : ∃ v c', Dspec_l1Once c a = some (v, c') ∧ CurOk c' := by
  obtain ⟨v, c', e, -, hc⟩ := belowOk h h1 h2
  unfold Dspec_l1Once
  rw [e, Option.bind_some]
  exact ⟨_, _, rfl, hc⟩
theorem intOk {c : Cur} (h : CurOk c) {l : List Int} (h1 : 1 ≤ l.length) (h2 : l.length ≤ 256) : ∃ v c', Dspec_l1Int c l = some (v, c') ∧ v ∈ l ∧ CurOk c' := by
  obtain ⟨v, c', e, hv, hc⟩ := belowOk h (a := (l.length : Int)) (by omega) (by omega)
  unfold Dspec_l1Int
  rw [e, Option.bind_some]
  obtain ⟨k, rfl⟩ : ∃ k : Nat, v = k := ⟨v.toNat, by omega⟩
  have hg := List.getElem?_eq_getElem (show k < l.length by omega)
  rw [show lget l (k : Int) = some l[k] by rw [lget_nat, hg], Option.bind_some]
  exact ⟨_, _, rfl, List.getElem_mem _, hc⟩
theorem coefOk {c : Cur} (h : CurOk c) : ∃ v c', Dspec_l3Coef c = some (v, c') ∧ (-5 ≤ v ∧ v ≤ 5) ∧ CurOk c' := by
  obtain ⟨v, c1, e, hv, hc⟩ := belowOk h (a := 11) (by omega) (by omega)
  unfold Dspec_l3Coef
  rw [e, Option.bind_some]
  obtain ⟨w, c2, e2, hw, hc2⟩ := intOk hc (l := [0, 0, 1, (-1), 2, (-3), w64 (v - 5)]) (by simp) (by simp)
  have e5 : w64 (v - 5) = v - 5 := w64_id (by omega) (by omega)
  simp only [e2, Option.bind_some]
  refine ⟨_, _, rfl, ?_, hc2⟩
  rw [e5] at hw
  simp only [List.mem_cons, List.not_mem_nil, or_false] at hw
  omega

/-! a primitive plane is right -/
theorem pq_abs (x : Int) (g : Nat) : (pq x g).natAbs = x.natAbs / g := by
  unfold pq
  split
  · rw [Int.natAbs_neg, Int.natAbs_natCast]
  · rw [Int.natAbs_natCast]
theorem prim_right {a b c d : Int} (h : (prim a b c d).2 = 0) : pOk (prim a b c d).1 = true := by
  unfold prim at h ⊢
  by_cases h0 : a = 0 ∧ b = 0 ∧ c = 0
  · rw [if_pos h0] at h; cases h
  · rw [if_neg h0] at h ⊢
    split at h
    · rename_i hr
      rw [if_pos hr]
      simp only [Bool.and_eq_true] at hr
      have hp := g4_pos (d := d) h0
      have hgd : g4 a b c d ∣ Nat.gcd (Nat.gcd a.natAbs b.natAbs) c.natAbs := Nat.gcd_dvd_left _ _
      have hdd : g4 a b c d ∣ d.natAbs := Nat.gcd_dvd_right _ _
      have hcd := Nat.dvd_trans hgd (Nat.gcd_dvd_right _ _)
      have hab := Nat.dvd_trans hgd (Nat.gcd_dvd_left _ _)
      have had := Nat.dvd_trans hab (Nat.gcd_dvd_left _ _)
      have hbd := Nat.dvd_trans hab (Nat.gcd_dvd_right _ _)
      have nz : ∀ {x : Int}, x ≠ 0 → g4 a b c d ∣ x.natAbs → pq x (g4 a b c d) ≠ 0 := fun {x} hx hd e => by
        have := pq_abs x (g4 a b c d)
        rw [e] at this
        have h1 : 0 < x.natAbs / g4 a b c d := Nat.div_pos (Nat.le_of_dvd (by omega) hd) hp
        simp at this; omega
      have e1 : decide (pq a (g4 a b c d) ≠ 0 ∨ pq b (g4 a b c d) ≠ 0 ∨ pq c (g4 a b c d) ≠ 0) = true := by
        apply decide_eq_true
        by_cases ha : a = 0
        · by_cases hb : b = 0
          · exact .inr (.inr (nz (fun e => h0 ⟨ha, hb, e⟩) hcd))
          · exact .inr (.inl (nz hb hbd))
        · exact .inl (nz ha had)
      have e2 : decide (Nat.gcd (Nat.gcd (pq a (g4 a b c d)).natAbs (pq b (g4 a b c d)).natAbs) (Nat.gcd (pq c (g4 a b c d)).natAbs (pq d (g4 a b c d)).natAbs) = 1) = true := by
        apply decide_eq_true
        rw [pq_abs, pq_abs, pq_abs, pq_abs]
        rw [Nat.gcd_div had hbd, Nat.gcd_div hcd hdd]
        have q1 : g4 a b c d ∣ Nat.gcd a.natAbs b.natAbs := Nat.dvd_gcd had hbd
        have q2 : g4 a b c d ∣ Nat.gcd c.natAbs d.natAbs := Nat.dvd_gcd hcd hdd
        rw [Nat.gcd_div q1 q2]
        have q3 : Nat.gcd (Nat.gcd a.natAbs b.natAbs) (Nat.gcd c.natAbs d.natAbs) = g4 a b c d := by unfold g4; rw [Nat.gcd_assoc (Nat.gcd a.natAbs b.natAbs)]
        rw [q3]; exact Nat.div_self hp
      unfold pOk
      rw [hr.1, hr.2.1, hr.2.2.1, hr.2.2.2, e1, e2]; rfl
    · cases h

theorem drawP {a b c : Int} (ha : -5 ≤ a ∧ a ≤ 5) (hb : -5 ≤ b ∧ b ≤ 5) (hc : -5 ≤ c ∧ c ≤ 5) {k : Cur} (h : CurOk k) :
    ∃ p k', (∀ n, 1000 ≤ n → Dspec_l3Draw_0 n a b c 0 0 0 0 k.1 k.2.1 k.2.2 = some (p, k')) ∧ pOk p = true ∧ CurOk k' := by
  obtain ⟨v, c1, e, hv, h1⟩ := belowOk (c := (k.1, k.2.1, k.2.2)) h (a := 25) (by omega) (by omega)
  obtain ⟨w, c2, e2, hw, h2⟩ := intOk h1 (l := [0, 1, (-1), 2, (-4), w64 (v - 12), 500, (-500)]) (by simp) (by simp)
  have e5 : w64 (v - 12) = v - 12 := w64_id (by omega) (by omega)
  have hw0 := hw
  rw [e5] at hw
  simp only [List.mem_cons, List.not_mem_nil, or_false] at hw
  have hw' : -500 ≤ w ∧ w ≤ 500 := by omega
  have step : ∀ n, 1000 ≤ n → Dspec_l3Draw_0 n a b c 0 0 0 0 k.1 k.2.1 k.2.2 = frk ((prim a b c w).2 != 0) (some ((Pl.mk 0 0 1 (-1)), c2)) (some ((prim a b c w).1, c2)) := by
    intro n hn
    unfold Dspec_l3Draw_0
    rw [e, Option.bind_some]
    simp only [e2, Option.bind_some]
    rw [primOk n a b c w (by omega) (by omega) (by omega) (by omega) (by omega) (by omega) (by omega) (by omega) (by omega), Option.bind_some]
  by_cases hz : (prim a b c w).2 = 0
  · refine ⟨_, _, fun n hn => ?_, prim_right hz, h2⟩
    rw [step n hn, show ((prim a b c w).2 != 0) = false by simpa using hz, frk_f]
  · refine ⟨⟨0, 0, 1, -1⟩, _, fun n hn => ?_, by decide, h2⟩
    rw [step n hn, show ((prim a b c w).2 != 0) = true by simpa using hz, frk_t]
theorem drawOk {k : Cur} (h : CurOk k) : ∃ p k', (∀ n, 1000 ≤ n → Dspec_l3Draw n k = some (p, k')) ∧ pOk p = true ∧ CurOk k' := by
  obtain ⟨a, k1, e1, ha, h1⟩ := coefOk h
  obtain ⟨b, k2, e2, hb, h2⟩ := coefOk h1
  obtain ⟨c, k3, e3, hc, h3⟩ := coefOk h2
  obtain ⟨o, k4, e4, h4⟩ := onceOk h3 (a := 2) (by omega) (by omega)
  have fin : ∀ {x y z : Int} {k5 : Cur}, (-5 ≤ x ∧ x ≤ 5) → (-5 ≤ y ∧ y ≤ 5) → (-5 ≤ z ∧ z ≤ 5) → CurOk k5 → (∀ n, Dspec_l3Draw n k = Dspec_l3Draw_0 n x y z 0 0 0 0 k5.1 k5.2.1 k5.2.2) → ∃ p k', (∀ n, 1000 ≤ n → Dspec_l3Draw n k = some (p, k')) ∧ pOk p = true ∧ CurOk k' := by
    intro x y z k5 hx hy hz h5 he
    obtain ⟨p, k', g1, g2, g3⟩ := drawP hx hy hz h5
    exact ⟨p, k', fun n hn => (he n).trans (g1 n hn), g2, g3⟩
  cases o with
  | false =>
    refine fin ha hb hc h4 fun n => ?_
    unfold Dspec_l3Draw
    simp only [e1, e2, e3, e4, Option.bind_some, frk_f]
  | true =>
    obtain ⟨s, k5, e5, hs, h5⟩ := intOk h4 (l := [1, (-1)]) (by simp) (by simp)
    have hs' : -5 ≤ s ∧ s ≤ 5 := by simp only [List.mem_cons, List.not_mem_nil, or_false] at hs; omega
    obtain ⟨o2, k6, e6, h6⟩ := onceOk h5 (a := 2) (by omega) (by omega)
    cases o2 with
    | true =>
      refine fin (x := 0) (z := 0) (by omega) hs' (by omega) h6 fun n => ?_
      unfold Dspec_l3Draw
      simp only [e1, e2, e3, e4, e5, e6, Option.bind_some, frk_t]
    | false =>
      obtain ⟨o3, k7, e7, h7⟩ := onceOk h6 (a := 2) (by omega) (by omega)
      cases o3 with
      | true =>
        refine fin (x := 0) (y := 0) (by omega) (by omega) hs' h7 fun n => ?_
        unfold Dspec_l3Draw
        simp only [e1, e2, e3, e4, e5, e6, e7, Option.bind_some, frk_t, frk_f]
      | false =>
        refine fin (y := 0) (z := 0) hs' (by omega) (by omega) h7 fun n => ?_
        unfold Dspec_l3Draw
        simp only [e1, e2, e3, e4, e5, e6, e7, Option.bind_some, frk_t, frk_f]
end Evl.T

/-! Eto -/
namespace Evl.T
open Go Evl

/-! how deep a tree is -/
inductive Dp : Sol → Nat → Prop
  | leaf {i p d} : Dp (.mk i p []) d
  | node {i p a b d} : Dp a d → Dp b d → Dp (.mk i p [a, b]) (d + 1)
theorem Dp.up {s : Sol} {d : Nat} (h : Dp s d) : ∀ {k}, d ≤ k → Dp s k := by
  induction h with
  | leaf => intro k _; exact .leaf
  | @node i p a b d _ _ iha ihb =>
    intro k hk
    obtain ⟨k, rfl⟩ : ∃ j, k = j + 1 := ⟨k - 1, by omega⟩
    exact .node (iha (by omega)) (ihb (by omega))
end Evl.T

/-! Ezm -/
namespace Evl.T
open Go Evl
theorem sLeaf (b : Bool) : Dspec_Leaf b = some (lfS b) := rfl
end Evl.T

/-! Etx -/
namespace Evl.T
open Go Evl

theorem newStep (n : Nat) (l : List Int) (rec0 : (Int × Int) → Option Cur) (a b : Int) : Dspec_l1New_1 n l rec0 (a, b) = frk (decide (b < (l.length : Int))) (Dspec_l1New_0 n rec0 l a b (decide (b < 4000))) (some (l, 0, a)) := rfl
theorem newLoop (l : List Int) (hl : l.length ≤ 1048576) : ∀ (k i : Nat) (a : Int), i + k = l.length → ∃ c, (∀ n m, k < m → loopN (Dspec_l1New_1 n l) m (a, (i : Int)) = some c) ∧ CurOk c := by
  intro k
  induction k with
  | zero =>
    intro i a h
    refine ⟨(l, 0, a), fun n m hm => ?_, by show 0 ≤ (0 : Int); omega, by show (0 : Int) ≤ (l.length : Int); omega, hl⟩
    obtain ⟨m, rfl⟩ : ∃ j, m = j + 1 := ⟨m - 1, by omega⟩
    rw [loop_suc, newStep, dec_f (by omega), frk_f]
  | succ k ih =>
    intro i a h
    by_cases h4 : (i : Int) < 4000
    · have hg := List.getElem?_eq_getElem (show i < l.length by omega)
      obtain ⟨c, g1, g2⟩ := ih (i + 1) (bAnd .i64 (w64 ((w64 ((w64 (a * 137)) + (w64 l[i]))) + 11)) 1073741823) (by omega)
      refine ⟨c, fun n m hm => ?_, g2⟩
      obtain ⟨m, rfl⟩ : ∃ j, m = j + 1 := ⟨m - 1, by omega⟩
      rw [loop_suc, newStep, dec_t (by omega), frk_t]
      unfold Dspec_l1New_0
      rw [dec_t h4, frk_t, lget_nat, hg, Option.bind_some, w64_suc (by unfold big; omega)]
      exact g1 n m (by omega)
    · refine ⟨(l, 0, a), fun n m hm => ?_, by show 0 ≤ (0 : Int); omega, by show (0 : Int) ≤ (l.length : Int); omega, hl⟩
      obtain ⟨m, rfl⟩ : ∃ j, m = j + 1 := ⟨m - 1, by omega⟩
      rw [loop_suc, newStep, dec_t (by omega), frk_t]
      unfold Dspec_l1New_0
      rw [dec_f h4, frk_f]
theorem newOk {l : List Int} (hl : l.length ≤ 1048576) : ∃ c, (∀ n, l.length < n → Dspec_l1New n l = some c) ∧ CurOk c := by
  obtain ⟨c, g1, g2⟩ := newLoop l hl l.length 0 (w64 (142142 + (l.length : Int))) (by omega)
  exact ⟨c, fun n hn => g1 n n hn, g2⟩
end Evl.T

/-! Etf -/
namespace Evl.T
open Go Evl


theorem any_gt (l : List Pl) (f : Pl → Bool) : ((List.range' 0 l.length).any fun i => f (gt l i)) = l.any f := by
  rw [Bool.eq_iff_iff, List.any_eq_true, List.any_eq_true]
  constructor
  · rintro ⟨i, hi, h⟩
    have : i < l.length := by simpa using hi
    exact ⟨_, gt_mem this, h⟩
  · rintro ⟨x, hx, h⟩
    obtain ⟨i, hi, e⟩ := List.getElem_of_mem hx
    refine ⟨i, by simpa using hi, ?_⟩
    have := gt_some hi
    rw [List.getElem?_eq_getElem hi] at this
    rw [← Option.some.inj this, e]; exact h
theorem all_any (l : List Pl) (f : Pl → Bool) : l.all f = !l.any fun x => !f x := by
  induction l with
  | nil => rfl
  | cons x l ih => simp only [List.all_cons, List.any_cons, ih, Bool.not_or, Bool.not_not]
theorem all_mem {l : List Pl} (h : l.all pOk = true) : ∀ q ∈ l, pOk q = true := List.all_eq_true.1 h
theorem sRightL (l : List Pl) (hb : l.length ≤ big) : Ev fun n => Dspec_l6Right n l = some (l.all pOk && decide ((l.length : Int) ≤ 24)) := by
  refine (e_ge (l.length + 502)).mono fun n hn => ?_
  have h := search (F := Dspec_l6Right_0 n l) (len := l.length) (b := fun i => !pOk (gt l i)) (hit := some false) (miss := some (decide ((l.length : Int) ≤ 24))) hb ?_ ?_ l.length 0 n (by omega) (by omega)
  · show loopN _ _ _ = _
    rw [show (0 : Int) = ((0 : Nat) : Int) from rfl, h, any_gt l fun x => !pOk x, all_any]
    cases l.any fun x => !pOk x <;> rfl
  · intro rec i hi
    unfold Dspec_l6Right_0
    simp only [lt_dec hi, frk_t, lget_nat, gt_some hi, Option.bind_some, sPlaneOk n _ (by omega)]
    cases pOk (gt l i) <;> rfl
  · intro rec
    unfold Dspec_l6Right_0
    simp only [lt_self, frk_f]
/-- Has each plane room behind those ahead of it? -/
def opB (l : List Pl) : Bool := !(List.range' 0 l.length).any fun i => wth (l.take i) (gt l i)
theorem sOpenL (l : List Pl) (hl : ∀ q ∈ l, PB q) (hb : l.length ≤ big) : Ev fun n => Dspec_l6Open n l = some (opB l) := by
  refine (e_ge (l.length + 502)).mono fun n hn => ?_
  have e : opB l = !(List.range' 1 (l.length - 1)).any fun i => wth (l.take i) (gt l i) := by
    unfold opB
    cases l with
    | nil => rfl
    | cons x l => simp only [List.length_cons, List.range'_succ, List.any_cons, Nat.add_sub_cancel]; rfl
  have hF : ∀ rec (i : Nat), i < l.length → Dspec_l6Open_0 n l rec (i : Int) = cond (wth (l.take i) (gt l i)) (some false) (rec (w64 ((i : Int) + 1))) := by
    intro rec i hi
    unfold Dspec_l6Open_0
    simp only [lt_dec hi, frk_t, lget_nat, gt_some hi, Option.bind_some, lsl_take l i (by omega)]
    rw [sWith (l.take i) (gt l i) (fun q hq => hl q (List.mem_of_mem_take hq)) (hl _ (gt_mem hi)) (by rw [List.length_take]; omega) n (by rw [List.length_take]; omega), Option.bind_some, frk_cond]
  have hE : ∀ rec, Dspec_l6Open_0 n l rec (l.length : Int) = some true := by
    intro rec
    unfold Dspec_l6Open_0
    simp only [lt_self, frk_f]
  show loopN _ _ _ = _
  cases hc : l with
  | nil =>
    obtain ⟨m, rfl⟩ : ∃ m, n = m + 1 := ⟨n - 1, by omega⟩
    rw [loop_suc]; rfl
  | cons x r =>
    rw [← hc]
    have hlen : l.length = r.length + 1 := by rw [hc]; rfl
    have h := search (F := Dspec_l6Open_0 n l) (len := l.length) (b := fun i => wth (l.take i) (gt l i)) (hit := some false) (miss := some true) hb hF hE (l.length - 1) 1 n (by omega) (by omega)
    rw [show (1 : Int) = ((1 : Nat) : Int) from rfl, h, e]
    cases (List.range' 1 (l.length - 1)).any fun i => wth (l.take i) (gt l i) <;> rfl
theorem opn_of {l : List Pl} (h : opB l = true) : Opn l := by
  have key : ∀ k, k ≤ l.length → Opn (l.take k) := by
    intro k
    induction k with
    | zero => intro _; exact .nil
    | succ k ih =>
      intro hk
      have e : l.take (k + 1) = l.take k ++ [gt l k] := by rw [List.take_add_one, gt_some (by omega)]; rfl
      rw [e]
      refine .snoc (ih (by omega)) ?_
      unfold opB at h
      simp only [Bool.not_eq_true', List.any_eq_false] at h
      simpa using h k (by simp; omega)
  have := key l.length (Nat.le_refl _)
  rwa [List.take_length] at this
theorem wth_mono {r l : List Pl} {p : Pl} (hs : r.Sublist l) (h : wth l p = false) : wth r p = false := by
  cases hr : wth r p with
  | false => rfl
  | true =>
    have : wth l p = true := by
      rw [wth_sub] at hr ⊢
      rcases hr with ⟨q, h1, h2⟩ | ⟨q, r, h1, h2⟩ | ⟨q, r, s, h1, h2⟩
      · exact .inl ⟨q, h1.trans hs, h2⟩
      · exact .inr (.inl ⟨q, r, h1.trans hs, h2⟩)
      · exact .inr (.inr ⟨q, r, s, h1.trans hs, h2⟩)
    rw [h] at this; cases this

/-- The planes that are kept of a list, behind a path. -/
def cvK : List Pl → List Pl → List Pl
  | [], _ => []
  | p :: r, path => if wth path (flp p) then cvK r path else p :: cvK r (path ++ [p])
def cvN (p : Pl) (s : Sol) : Sol := .mk false p [s, lfS false]
def cvT (k : List Pl) : Sol := k.foldr cvN (lfS true)
/-- Behind a path and some of a list, the next of the list has room. -/
def Cnd (path l : List Pl) : Prop := ∀ l1 p l2, l = l1 ++ p :: l2 → ∀ s : List Pl, s.Sublist l1 → wth (path ++ s) p = false
theorem Cnd.head {path l : List Pl} {p : Pl} (h : Cnd path (p :: l)) : wth path p = false := by
  have := h [] p l rfl [] (List.Sublist.refl _)
  simpa using this
theorem Cnd.tail {path l : List Pl} {p : Pl} (h : Cnd path (p :: l)) : Cnd path l := fun l1 q l2 e s hs => h (p :: l1) q l2 (by rw [e]; rfl) s (hs.cons p)
theorem Cnd.more {path l : List Pl} {p : Pl} (h : Cnd path (p :: l)) : Cnd (path ++ [p]) l := fun l1 q l2 e s hs => by
  have := h (p :: l1) q l2 (by rw [e]; rfl) (p :: s) (hs.cons_cons p)
  simpa using this
theorem cnd_of {l : List Pl} (h : Opn l) : Cnd [] l := fun l1 p l2 e s hs => by
  obtain ⟨l', h1, h2⟩ := h.last (r := s) (p := p) (by
    rw [e, show l1 ++ p :: l2 = (l1 ++ [p]) ++ l2 by simp]
    exact (hs.append (List.Sublist.refl _)).trans (List.sublist_append_left _ _))
  exact wth_mono h1 h2
theorem cvT_rt : ∀ (l path : List Pl), Cnd path l → (∀ q ∈ l, pOk q = true) → path.length + l.length ≤ 24 → Rt (cvT (cvK l path)) path := by
  intro l
  induction l with
  | nil => intro path _ _ _; exact .leaf rfl
  | cons p l ih =>
    intro path hc hp hl
    simp only [List.length_cons] at hl
    rw [cvK]
    cases hw : wth path (flp p) with
    | true => rw [if_pos rfl]; exact ih path hc.tail (fun q hq => hp q (by simp [hq])) (by omega)
    | false =>
      rw [if_neg (by simp)]
      exact .node (hp p (by simp)) (by omega) hc.head hw (ih _ hc.more (fun q hq => hp q (by simp [hq])) (by rw [List.length_append, List.length_singleton]; omega)) (.leaf rfl)
theorem cvK_len : ∀ (l path : List Pl), (cvK l path).length ≤ l.length := by
  intro l
  induction l with
  | nil => intro path; exact Nat.le_refl _
  | cons p l ih =>
    intro path
    rw [cvK]
    split
    · have := ih path; rw [List.length_cons]; omega
    · have := ih (path ++ [p]); rw [List.length_cons, List.length_cons]; omega
theorem cvT_nod : ∀ k : List Pl, nod (cvT k) = k.length := by
  intro k
  induction k with
  | nil => exact nod_leaf _ _
  | cons p k ih =>
    show nod (.mk false p [cvT k, lfS false]) = _
    rw [nod2, ih, show nod (lfS false) = 0 from nod_leaf _ _, List.length_cons]; omega
theorem cvT_right {l : List Pl} (ho : Opn l) (hp : ∀ q ∈ l, pOk q = true) (hl : l.length ≤ 24) : Right (cvT (cvK l [])) := by
  refine ⟨cvT_rt l [] (cnd_of ho) hp (by simpa using hl), ?_⟩
  rw [cvT_nod]
  have := cvK_len l []; omega
theorem sCvStep (n : Nat) (self : List Pl × List Pl → Option Sol) (l path : List Pl) (rec : Int → Option Sol) (k : Nat) (p : Pl) (h1 : k < l.length) (h2 : l[k]? = some p) : Dspec_l9Convex_2 n self l path false 0 0 0 0 rec (k : Int) =
    ((Dspec_l3Flip p).bind fun v1 => (Dspec_l6With n path v1).bind fun v2 => frk (!v2) ((Dspec_l6With n path p).bind fun v4 => frk (!v4) ((lsl l (w64 ((k : Int) + 1)) (l.length : Int)).bind fun v6 => (Dspec_l8Path path p).bind fun v8 => (self (v6, v8)).bind fun v9 => some (cvN p v9)) (rec (w64 ((k : Int) + 1)))) (rec (w64 ((k : Int) + 1)))) := by
  unfold Dspec_l9Convex_2
  dsimp only
  rw [lt_dec h1, frk_t, lget_nat, h2, Option.bind_some]
  unfold Dspec_l9Convex_0
  rw [lget_nat, h2]
  rfl
theorem sConvexIn : ∀ (r path : List Pl), Cnd path r → (∀ q ∈ r, PB q) → (∀ q ∈ path, PB q) → path.length + r.length ≤ 24 → E2 fun n m => ∀ (l : List Pl) (k j : Nat), l.drop k = r → l.length ≤ 24 → r.length < j →
    loopN (Dspec_l9Convex_2 n (loopN (Dspec_l9Convex_b n) m) l path false 0 0 0 0) j (k : Int) = some (cvT (cvK r path)) := by
  intro r
  induction r with
  | nil =>
    intro path _ _ _ _
    refine E2.of fun n m l k j hr hl hj => ?_
    obtain ⟨j, rfl⟩ : ∃ i, j = i + 1 := ⟨j - 1, by omega⟩
    have hk : l.length ≤ k := List.drop_eq_nil_iff.1 hr
    have hd : decide ((k : Int) < (l.length : Int)) = false := decide_eq_false (by omega)
    rw [loop_suc]
    simp only [Dspec_l9Convex_2, hd, frk_f]; rfl
  | cons p r ih =>
    intro path hc hp hpa hlen
    simp only [List.length_cons] at hlen
    have hpb : PB p := hp p (by simp)
    have hw0 : ∀ n : Nat, 40 ≤ n → Dspec_l6With n path (flp p) = some (wth path (flp p)) := fun n hn => sWith path (flp p) hpa (flp_PB hpb) (by unfold big; omega) n (by omega)
    have hw1 : ∀ n : Nat, 40 ≤ n → Dspec_l6With n path p = some false := fun n hn => by rw [sWith path p hpa hpb (by unfold big; omega) n (by omega), hc.head]
    cases hw : wth path (flp p) with
    | true =>
      have i1 := ih path hc.tail (fun q hq => hp q (by simp [hq])) hpa (by omega)
      refine (i1.and (e2_ge 40)).mono fun n m ⟨i1, hn, _⟩ l k j hr hl hj => ?_
      simp only [List.length_cons] at hj
      obtain ⟨j, rfl⟩ : ∃ i, j = i + 1 := ⟨j - 1, by omega⟩
      obtain ⟨h1, h2, h3, -⟩ := drop_get hr
      rw [loop_suc]
      rw [sCvStep n _ l path _ k p h1 h2, sFlip p hpb, Option.bind_some, hw0 n hn, Option.bind_some, hw, Bool.not_true, frk_f, w64_suc (show k < big by unfold big; omega), i1 l (k + 1) j h3 hl (by omega)]
      rw [cvK, hw, if_pos rfl]
    | false =>
      have i1 := ih (path ++ [p]) hc.more (fun q hq => hp q (by simp [hq])) (path_PB hpa hpb) (by rw [List.length_append, List.length_singleton]; omega)
      refine E2.suc ((i1.and (e2_ge 40)).mono fun n m ⟨i1, hn, _⟩ l k j hr hl hj => ?_)
      simp only [List.length_cons] at hj
      obtain ⟨j, rfl⟩ : ∃ i, j = i + 1 := ⟨j - 1, by omega⟩
      obtain ⟨h1, h2, h3, -⟩ := drop_get hr
      have hsl : lsl l ((k + 1 : Nat) : Int) (l.length : Int) = some r := by
        unfold lsl
        rw [if_pos ⟨by omega, by omega, by omega⟩, Int.toNat_natCast, Int.toNat_natCast, h3, List.take_of_length_le (by rw [← h3, List.length_drop]; omega)]
      rw [loop_suc]
      rw [sCvStep n _ l path _ k p h1 h2, sFlip p hpb, Option.bind_some, hw0 n hn, Option.bind_some, hw, Bool.not_false, frk_t, hw1 n hn, Option.bind_some, Bool.not_false, frk_t, w64_suc (show k < big by unfold big; omega), hsl, Option.bind_some, sPath path p (by omega), Option.bind_some]
      rw [loop_suc]
      have this : loopN (Dspec_l9Convex_2 n (loopN (Dspec_l9Convex_b n) m) r (path ++ [p]) false 0 0 0 0) n 0 = _ := i1 r 0 n rfl (by omega) (by omega)
      show ((loopN (Dspec_l9Convex_2 n (loopN (Dspec_l9Convex_b n) m) r (path ++ [p]) false 0 0 0 0) n 0).bind _) = _
      rw [this, Option.bind_some, cvK, hw, if_neg (by simp)]
      rfl
theorem sConvexT {l : List Pl} (ho : Opn l) (hp : ∀ q ∈ l, PB q) (hl : l.length ≤ 24) : Ev fun n => Dspec_l9Convex n l [] = some (cvT (cvK l [])) := by
  have := sConvexIn l [] (cnd_of ho) hp (by simp) (by simpa using hl)
  have h2 : E2 fun n m => loopN (Dspec_l9Convex_b n) m (l, []) = some (cvT (cvK l [])) := by
    refine E2.suc ((this.and (e2_ge 40)).mono fun n m ⟨h, hn, _⟩ => ?_)
    rw [loop_suc]
    exact h l 0 n rfl hl (by omega)
  exact h2.ev
/-- Convex, told plainly. -/
def cvR (l : List Pl) : Sol × Int := if !(l.all pOk && decide ((l.length : Int) ≤ 24)) then (lfS false, 1) else if !opB l then (lfS false, 2) else (cvT (cvK l []), 0)
theorem sConvex (l : List Pl) (hb : l.length ≤ big) : Ev fun n => Dspec_Convex n l = some (cvR l) := by
  unfold cvR
  have e1 := sRightL l hb
  cases hc : (l.all pOk && decide ((l.length : Int) ≤ 24)) with
  | false =>
    refine e1.mono fun n h1 => ?_
    simp only [Dspec_Convex, h1, hc, Option.bind_some, Bool.not_false, frk_t, if_true]; rfl
  | true =>
    simp only [Bool.and_eq_true, decide_eq_true_eq] at hc
    have hp : ∀ q ∈ l, PB q := fun q hq => pOk_PB (all_mem hc.1 q hq)
    have hc' : (l.all pOk && decide ((l.length : Int) ≤ 24)) = true := by simp only [Bool.and_eq_true, decide_eq_true_eq]; exact hc
    have e2 := sOpenL l hp hb
    cases ho : opB l with
    | false =>
      refine (e1.and e2).mono fun n ⟨h1, h2⟩ => ?_
      simp only [Dspec_Convex, h1, h2, hc', ho, sLeaf, Option.bind_some, Bool.not_true, Bool.not_false, frk_t, frk_f, if_true]; rfl
    | true =>
      have e3 := sConvexT (opn_of ho) hp (by omega)
      refine (e1.and (e2.and e3)).mono fun n ⟨h1, h2, h3⟩ => ?_
      simp only [Dspec_Convex, h1, h2, h3, hc', ho, Option.bind_some, Bool.not_true, frk_f]; rfl
theorem lf_right (b : Bool) : Right (lfS b) := ⟨.leaf rfl, by rw [show nod (lfS b) = 0 from nod_leaf _ _]; omega⟩
theorem cvR_right (l : List Pl) : Right (cvR l).1 := by
  unfold cvR
  split
  · exact lf_right _
  · rename_i h
    split
    · exact lf_right _
    · rename_i h2
      simp only [Bool.not_eq_true', Bool.not_eq_false, Bool.and_eq_true, decide_eq_true_eq] at h h2
      exact cvT_right (opn_of h2) (all_mem h.1) (by omega)
end Evl.T

/-! Etp -/
namespace Evl.T
open Go Evl

structure SpOk (q : Spot) : Prop where
  w : 1 ≤ q.W ∧ q.W ≤ 1000000000
  x : q.X.natAbs ≤ 1000000000
  y : q.Y.natAbs ≤ 1000000000
  z : q.Z.natAbs ≤ 1000000000
  g : Nat.gcd (Nat.gcd (Nat.gcd q.X.natAbs q.Y.natAbs) q.Z.natAbs) q.W.natAbs = 1
end Evl.T

/-! Etb -/
namespace Evl.T
open Go Evl

theorem growLeaf (path : List Pl) {k : Cur} (h : CurOk k) :
    ∃ s k', (∀ (n : Nat) (self : (Cur × List Pl × Int) → Option (Sol × Cur)), Dspec_l8Grow_2 n self false 0 0 0 0 k.1 k.2.1 k.2.2 = some (s, k')) ∧ Rt s path ∧ nod s = 0 ∧ (∀ d, Dp s d) ∧ CurOk k' := by
  obtain ⟨b, k1, e, h1⟩ := onceOk (c := (k.1, k.2.1, k.2.2)) h (a := 2) (by omega) (by omega)
  refine ⟨_, _, fun n self => ?_, .leaf (i := b) (p := ⟨0, 0, 0, 0⟩) rfl, nod_leaf _ _, fun _ => .leaf, h1⟩
  unfold Dspec_l8Grow_2
  rw [e, Option.bind_some]; rfl
theorem growStep (n : Nat) (self : (Cur × List Pl × Int) → Option (Sol × Cur)) (path : List Pl) (t : Int) (rec0 : (Int × Cur) → Option (Sol × Cur)) (j : Int) (k : Cur) :
    Dspec_l8Grow_3 n self path t false 0 0 0 0 rec0 (j, k) = frk (decide (j < 3)) (Dspec_l8Grow_0 n self rec0 path t false 0 0 0 0 j (decide (t > 0)) k.1 k.2.1 k.2.2) (Dspec_l8Grow_2 n self false 0 0 0 0 k.1 k.2.1 k.2.2) := rfl
/-- A tree grows: it is right along its path, and small. -/
theorem growOk : ∀ (d : Nat) (path : List Pl) (t : Int) (k : Cur), path.length + d ≤ 24 → (∀ q ∈ path, PB q) → t ≤ d → -1000 ≤ t → CurOk k →
    ∃ s k', (∀ n m, 1000 ≤ n → d < m → loopN (Dspec_l8Grow_b n) m (k, path, t) = some (s, k')) ∧ Rt s path ∧ nod s + 1 ≤ 2 ^ d ∧ Dp s d ∧ CurOk k' := by
  intro d
  induction d with
  | zero =>
    intro path t k hl hp ht ht2 hk
    obtain ⟨s, k', e, hR, hN, hD, hk'⟩ := growLeaf path hk
    refine ⟨s, k', fun n m hn hm => ?_, hR, by omega, hD _, hk'⟩
    obtain ⟨m, rfl⟩ : ∃ j, m = j + 1 := ⟨m - 1, by omega⟩
    rw [loop_suc]
    show loopN (Dspec_l8Grow_3 n (loopN (Dspec_l8Grow_b n) m) path t false 0 0 0 0) n (0, k) = _
    have key : ∀ j, loopN (Dspec_l8Grow_3 n (loopN (Dspec_l8Grow_b n) m) path t false 0 0 0 0) (j + 1) (0, k) = some (s, k') := by
      intro j
      rw [loop_suc, growStep, dec_t (by omega), frk_t]
      unfold Dspec_l8Grow_0
      rw [dec_f (by omega), frk_f]
      exact e n _
    have := key (n - 1)
    rwa [show n - 1 + 1 = n by omega] at this
  | succ d ih =>
    intro path t k hl hp ht ht2 hk
    have hpow : 2 ^ (d + 1) = 2 ^ d + 2 ^ d := by rw [Nat.pow_succ]; omega
    have h2 : 1 ≤ 2 ^ d := Nat.one_le_two_pow
    -- the three tries
    have tries : ∀ (r : Nat) (k : Cur), r ≤ 3 → CurOk k → ∃ s k', (∀ n m f, 1000 ≤ n → d < m → r < f → loopN (Dspec_l8Grow_3 n (loopN (Dspec_l8Grow_b n) m) path t false 0 0 0 0) f (((3 - r : Nat) : Int), k) = some (s, k')) ∧ Rt s path ∧ nod s + 1 ≤ 2 ^ (d + 1) ∧ Dp s (d + 1) ∧ CurOk k' := by
      intro r
      induction r with
      | zero =>
        intro k _ hk
        obtain ⟨s, k', e, hR, hN, hD, hk'⟩ := growLeaf path hk
        refine ⟨s, k', fun n m f hn hm hf => ?_, hR, by omega, hD _, hk'⟩
        obtain ⟨f, rfl⟩ : ∃ j, f = j + 1 := ⟨f - 1, by omega⟩
        rw [loop_suc, growStep, dec_f (by omega), frk_f]; exact e n _
      | succ r ihr =>
        intro k hr hk
        have hw3 : w64 (((3 - (r + 1) : Nat) : Int) + 1) = ((3 - r : Nat) : Int) := by rw [w64_id (by omega) (by omega)]; omega
        by_cases ht0 : t > 0
        · obtain ⟨p, k1, e1, hpo, h1⟩ := drawOk (k := (k.1, k.2.1, k.2.2)) hk
          have hpb := pOk_PB hpo
          have again : ∀ (hW : wth path p = true ∨ (wth path p = false ∧ wth path (flp p) = true)), ∃ s k', (∀ n m f, 1000 ≤ n → d < m → r + 1 < f → loopN (Dspec_l8Grow_3 n (loopN (Dspec_l8Grow_b n) m) path t false 0 0 0 0) f (((3 - (r + 1) : Nat) : Int), k) = some (s, k')) ∧ Rt s path ∧ nod s + 1 ≤ 2 ^ (d + 1) ∧ Dp s (d + 1) ∧ CurOk k' := by
            intro hW
            obtain ⟨s, k', g1, g2, g3, g5, g4⟩ := ihr k1 (by omega) h1
            refine ⟨s, k', fun n m f hn hm hf => ?_, g2, g3, g5, g4⟩
            obtain ⟨f, rfl⟩ : ∃ j, f = j + 1 := ⟨f - 1, by omega⟩
            have g := g1 n m f hn hm (by omega)
            rw [loop_suc, growStep, dec_t (by omega), frk_t]
            unfold Dspec_l8Grow_0
            rw [dec_t ht0, frk_t, hw3, e1 n hn, Option.bind_some]
            simp only [sWith path p hp hpb (by unfold big; omega) n (by omega), Option.bind_some]
            rcases hW with hw | ⟨hw, hw2⟩
            · rw [hw, Bool.not_true, frk_f]; exact g
            · rw [hw, Bool.not_false, frk_t, sFlip p hpb, Option.bind_some, sWith path (flp p) hp (flp_PB hpb) (by unfold big; omega) n (by omega), Option.bind_some]
              unfold Dspec_l8Grow_1
              rw [hw2, Bool.not_true, frk_f]; rw [hw3]; exact g
          cases hw : wth path p with
          | true => exact again (.inl hw)
          | false =>
            cases hw2 : wth path (flp p) with
            | true => exact again (.inr ⟨hw, hw2⟩)
            | false =>
              obtain ⟨v, k2, e2, hv, h2'⟩ := belowOk (c := (k1.1, k1.2.1, k1.2.2)) h1 (a := 2) (by omega) (by omega)
              have ev : w64 (w64 (t - 1) - v) = t - 1 - v := by rw [w64_id (x := t - 1) (by omega) (by omega), w64_id (by omega) (by omega)]
              obtain ⟨x, k3, e3, hRx, hNx, hDx, h3⟩ := ih (path ++ [p]) (t - 1 - v) k2 (by simp; omega) (path_PB hp hpb) (by omega) (by omega) h2'
              obtain ⟨u, k4, e4, hu, h4⟩ := belowOk h3 (a := 2) (by omega) (by omega)
              have eu : w64 (w64 (t - 1) - u) = t - 1 - u := by rw [w64_id (x := t - 1) (by omega) (by omega), w64_id (by omega) (by omega)]
              obtain ⟨y, k5, e5, hRy, hNy, hDy, h5⟩ := ih (path ++ [flp p]) (t - 1 - u) k4 (by simp; omega) (path_PB hp (flp_PB hpb)) (by omega) (by omega) h4
              refine ⟨.mk false p [x, y], k5, fun n m f hn hm hf => ?_, .node hpo (by omega) hw hw2 hRx hRy, by rw [nod2]; omega, .node hDx hDy, h5⟩
              obtain ⟨f, rfl⟩ : ∃ j, f = j + 1 := ⟨f - 1, by omega⟩
              rw [loop_suc, growStep, dec_t (by omega), frk_t]
              unfold Dspec_l8Grow_0
              rw [dec_t ht0, frk_t, e1 n hn, Option.bind_some]
              simp only [sWith path p hp hpb (by unfold big; omega) n (by omega), Option.bind_some]
              rw [hw, Bool.not_false, frk_t, sFlip p hpb, Option.bind_some, sWith path (flp p) hp (flp_PB hpb) (by unfold big; omega) n (by omega), Option.bind_some]
              unfold Dspec_l8Grow_1
              rw [hw2, Bool.not_false, frk_t]
              simp only [pl_eq]
              rw [sPath path p (by omega), Option.bind_some, e2, Option.bind_some]
              simp only [ev, e3 n m hn hm, Option.bind_some, sFlip p hpb, sPath path (flp p) (show path.length ≤ 1000 by omega), e4, eu, e5 n m hn hm]
              rfl
        · obtain ⟨s, k', e, hR, hN, hD, hk'⟩ := growLeaf path hk
          refine ⟨s, k', fun n m f hn hm hf => ?_, hR, by omega, hD _, hk'⟩
          obtain ⟨f, rfl⟩ : ∃ j, f = j + 1 := ⟨f - 1, by omega⟩
          rw [loop_suc, growStep, dec_t (by omega), frk_t]
          unfold Dspec_l8Grow_0
          rw [dec_f ht0, frk_f]; exact e n _
    obtain ⟨s, k', g1, g2, g3, g5, g4⟩ := tries 3 k (by omega) hk
    refine ⟨s, k', fun n m hn hm => ?_, g2, g3, g5, g4⟩
    obtain ⟨m, rfl⟩ : ∃ j, m = j + 1 := ⟨m - 1, by omega⟩
    rw [loop_suc]
    exact g1 n m n hn (by omega) (by omega)
end Evl.T

/-! Eth -/
namespace Evl.T
open Go Evl

/-! a cell's planes -/
theorem cellStep (n : Nat) (rec0 : (Int × List Pl × Cur) → Option (List Pl × Cur)) (t : Int) (l : List Pl) (k : Cur) :
    Dspec_l6Cell_1 n rec0 (t, l, k) = frk (decide (t > 0)) ((Dspec_l3Draw n k).bind fun v3 => (Dspec_l6With n l v3.1).bind fun v4 => frk (!v4) (chk (apB 32 (l.length + 1)) (rec0 (w64 (t - 1), (l ++ [v3.1]), v3.2.1, v3.2.2.1, v3.2.2.2))) (rec0 (w64 (t - 1), l, v3.2.1, v3.2.2.1, v3.2.2.2))) (some (l, k)) := rfl
theorem cellStep3 (n : Nat) (rec0 : (Int × List Pl × Cur) → Option (List Pl × Cur)) (t : Int) (l : List Pl) (k : Cur) :
    Dspec_l6Cell_3 n rec0 (t, l, k) = Dspec_l6Cell_1 n rec0 (t, l, k) := rfl
theorem ap32 {n : Nat} (h : n ≤ 1000000) : apB 32 n = true := by
  simp only [apB, Bool.and_eq_true, decide_eq_true_eq]; omega
theorem cellLoop {F : Nat → ((Int × List Pl × Cur) → Option (List Pl × Cur)) → (Int × List Pl × Cur) → Option (List Pl × Cur)} (hF : ∀ n rec0 t l k, F n rec0 (t, l, k) = Dspec_l6Cell_1 n rec0 (t, l, k)) :
    ∀ (j : Nat) (l : List Pl) (k : Cur), (∀ q ∈ l, PB q) → l.length + j ≤ 100 → CurOk k → ∃ l' k', (∀ n m, 1000 ≤ n → j < m → loopN (F n) m ((j : Int), l, k) = some (l', k')) ∧ l'.length ≤ l.length + j ∧ CurOk k' := by
  intro j
  induction j with
  | zero =>
    intro l k hl hlen hk
    refine ⟨l, k, fun n m hn hm => ?_, by omega, hk⟩
    obtain ⟨m, rfl⟩ : ∃ j, m = j + 1 := ⟨m - 1, by omega⟩
    rw [loop_suc, hF, cellStep, dec_f (by omega), frk_f]
  | succ j ih =>
    intro l k hl hlen hk
    obtain ⟨p, k1, e1, hp, h1⟩ := drawOk hk
    have hpb := pOk_PB hp
    have e : w64 (((j + 1 : Nat) : Int) - 1) = (j : Int) := by rw [w64_id (by omega) (by omega)]; omega
    cases hw : wth l p with
    | true =>
      obtain ⟨l', k', g1, g2, g3⟩ := ih l k1 hl (by omega) h1
      refine ⟨l', k', fun n m hn hm => ?_, by omega, g3⟩
      obtain ⟨m, rfl⟩ : ∃ j, m = j + 1 := ⟨m - 1, by omega⟩
      rw [loop_suc, hF, cellStep, dec_t (by omega), frk_t, e1 n hn, Option.bind_some]
      simp only [sWith l p hl hpb (by unfold big; omega) n (by omega), Option.bind_some, e, hw, Bool.not_true, frk_f]
      exact g1 n m hn (by omega)
    | false =>
      obtain ⟨l', k', g1, g2, g3⟩ := ih (l ++ [p]) k1 (path_PB hl hpb) (by simp; omega) h1
      refine ⟨l', k', fun n m hn hm => ?_, by simp at g2; omega, g3⟩
      obtain ⟨m, rfl⟩ : ∃ j, m = j + 1 := ⟨m - 1, by omega⟩
      rw [loop_suc, hF, cellStep, dec_t (by omega), frk_t, e1 n hn, Option.bind_some]
      simp only [sWith l p hl hpb (by unfold big; omega) n (by omega), Option.bind_some, e, hw, Bool.not_false, frk_t]
      rw [chk_eq (ap32 (by omega))]
      exact g1 n m hn (by omega)
theorem cellOk {k : Cur} (hk : CurOk k) {a : Int} (h1 : 1 ≤ a) (h2 : a ≤ 10) : ∃ l k', (∀ n, 1000 ≤ n → Dspec_l6Cell n k a = some (l, k')) ∧ (l.length : Int) ≤ 5 + a ∧ CurOk k' := by
  obtain ⟨o, k1, e1, c1⟩ := onceOk hk (a := 4) (by omega) (by omega)
  cases o with
  | true =>
    obtain ⟨v, k2, e2, hv, c2⟩ := belowOk (c := (k1.1, k1.2.1, k1.2.2)) c1 (a := a) h1 (by omega)
    obtain ⟨j, rfl⟩ : ∃ j : Nat, v = j := ⟨v.toNat, by omega⟩
    obtain ⟨l', k', g1, g2, g3⟩ := cellLoop (F := Dspec_l6Cell_3) (fun _ _ _ _ _ => rfl) j [] k2 (by simp) (by simp; omega) c2
    refine ⟨l', k', fun n hn => ?_, by simp at g2; omega, g3⟩
    unfold Dspec_l6Cell Dspec_l6Cell_2
    simp only [e1, Option.bind_some, Bool.not_true, frk_f, e2]
    exact g1 n n hn (by omega)
  | false =>
    obtain ⟨u, k2, e2, hu, c2⟩ := belowOk c1 (a := 5) (by omega) (by omega)
    obtain ⟨v, k3, e3, hv, c3⟩ := belowOk (c := (k2.1, k2.2.1, k2.2.2)) c2 (a := a) h1 (by omega)
    obtain ⟨j, rfl⟩ : ∃ j : Nat, v = j := ⟨v.toNat, by omega⟩
    have w1 : w64 (1 + u) = 1 + u := w64_id (by omega) (by omega)
    have w2 : w64 (1 + u + 1) = 1 + u + 1 := w64_id (by omega) (by omega)
    have bb : ∀ {x y z t : Int}, (-500 ≤ x ∧ x ≤ 500) → (-500 ≤ y ∧ y ≤ 500) → (-500 ≤ z ∧ z ≤ 500) → (-500 ≤ t ∧ t ≤ 500) → PB ⟨x, y, z, t⟩ := fun {x y z t} h1 h2 h3 h4 => ⟨(B.of (by omega) (by omega) : B 500 x), (B.of (by omega) (by omega) : B 500 y), (B.of (by omega) (by omega) : B 500 z), (B.of (by omega) (by omega) : B 500 t)⟩
    obtain ⟨l', k', g1, g2, g3⟩ := cellLoop (F := Dspec_l6Cell_1) (fun _ _ _ _ _ => rfl) j [⟨1, 0, 0, 1 + u⟩, ⟨-1, 0, 0, 1 + u⟩, ⟨0, 1, 0, 1 + u⟩, ⟨0, -1, 0, 1 + u + 1⟩, ⟨0, 0, 1, 1 + u⟩, ⟨0, 0, -1, 1 + u⟩] k3 (fun q hq => by
      simp only [List.mem_cons, List.not_mem_nil, or_false] at hq
      rcases hq with rfl | rfl | rfl | rfl | rfl | rfl <;> exact bb (by omega) (by omega) (by omega) (by omega)) (by simp; omega) c3
    refine ⟨l', k', fun n hn => ?_, by simp at g2; omega, g3⟩
    unfold Dspec_l6Cell Dspec_l6Cell_0
    simp only [e1, e2, Option.bind_some, Bool.not_false, frk_t, e3, w1, w2]
    exact g1 n n hn (by omega)

theorem cvT_dp : ∀ k : List Pl, Dp (cvT k) k.length
  | [] => .leaf
  | _ :: k => .node (cvT_dp k) .leaf
theorem cvR_dp (l : List Pl) : Dp (cvR l).1 l.length := by
  unfold cvR
  split
  · exact .leaf
  · split
    · exact .leaf
    · exact (cvT_dp _).up (cvK_len l [])
end Evl.T

/-! Eue -/
namespace Evl.T
open Go Evl

theorem ap64 {k : Nat} (h : k ≤ 1048576) : apB 64 k = true := by
  simp only [apB, Bool.and_eq_true, decide_eq_true_eq]; omega
/-- A list is copied one by one. -/
theorem copyLoop {F : (Int × List Sol → Option Sol) → Int × List Sol → Option Sol} {self : Sol → Option Sol} {l : List Sol} {R : List Sol → Option Sol} (hl : l.length ≤ 1048576) (hs : ∀ x ∈ l, self x = some x)
    (hF : ∀ rec (t : Int) (d : List Sol), F rec (t, d) = frk (decide (t < (l.length : Int))) ((lget l t).bind fun v0 => (self v0).bind fun v1 => chk (apB 64 (d.length + 1)) (rec (w64 (t + 1), d ++ [v1]))) (R d)) :
    ∀ (r : List Sol) (k m : Nat), l.drop k = r → k ≤ l.length → r.length < m → loopN F m ((k : Int), l.take k) = R l := by
  intro r
  induction r with
  | nil =>
    intro k m hr hk hm
    obtain ⟨m, rfl⟩ : ∃ j, m = j + 1 := ⟨m - 1, by omega⟩
    have hk : k = l.length := by have := List.drop_eq_nil_iff.1 hr; omega
    rw [loop_suc, hF, hk, lt_self, frk_f, List.take_length]
  | cons x r ih =>
    intro k m hr hk hm
    simp only [List.length_cons] at hm
    obtain ⟨m, rfl⟩ : ∃ j, m = j + 1 := ⟨m - 1, by omega⟩
    obtain ⟨hkl, hx, hr', hmem⟩ := drop_get hr
    have ht : (l.take k).length = k := by rw [List.length_take]; omega
    rw [loop_suc, hF, lt_dec hkl, frk_t, lget_nat, hx, Option.bind_some, hs x hmem, Option.bind_some, chk_eq (ap64 (by rw [ht]; omega)), w64_suc (by unfold big; omega)]
    have e : l.take k ++ [x] = l.take (k + 1) := by rw [List.take_add_one, hx]; simp
    rw [e]
    exact ih (k + 1) m hr' (by omega) (by omega)
theorem sCopy : ∀ s, tot s ≤ 1048576 → E2 fun n m => loopN (Dspec_l8Copy_b n) m s = some s := by
  refine sol_ind fun i p k ih hl => ?_
  rw [tot_mk] at hl
  have h1 := E2.all fun x hx => ih x hx (by have := tot_le hx; omega)
  have h2 : E2 fun n _ => k.length < n := ⟨k.length + 1, fun n hn _ _ => by omega⟩
  refine E2.suc ((h1.and h2).mono fun n m ⟨h1, h2⟩ => ?_)
  rw [loop_suc]
  exact copyLoop (F := Dspec_l8Copy_0 n (loopN (Dspec_l8Copy_b n) m) i p.A p.B p.C p.D k false 0 0 0 0 i p.A p.B p.C p.D) (l := k) (R := fun d => some (.mk i p d)) (by omega) h1 (fun _ _ _ => rfl) k 0 n (by simp) (by omega) h2
theorem sCopyE {s : Sol} (h : tot s ≤ 1048576) : Ev fun n => Dspec_l8Copy n s = some s := (sCopy s h).ev
end Evl.T

/-! Eui -/
namespace Evl.T
open Go Evl

theorem anyDraw {k : Cur} (h : CurOk k) : ∃ p k', (∀ n, 1000 ≤ n → Dspec_l3DrawAny n k = some (p, k')) ∧ CurOk k' := by
  obtain ⟨p, k1, e1, -, h1⟩ := drawOk h
  obtain ⟨d, k2, e2, -, h2⟩ := belowOk h1 (a := 20) (by omega) (by omega)
  obtain ⟨v, k3, e3, -, h3⟩ := intOk h2 (l := [0, 500, 501, (-9223372036854775808)]) (by simp) (by simp)
  obtain ⟨w, k4, e4, -, h4⟩ := intOk h2 (l := [501, 9223372036854775807]) (by simp) (by simp)
  have go : ∃ q k', CurOk k' ∧ ∀ n, 1000 ≤ n → Dspec_l3DrawAny n k = some (q, k') := by
    by_cases c0 : d = 0
    · refine ⟨⟨v, p.B, p.C, p.D⟩, k3, h3, fun n hn => ?_⟩
      unfold Dspec_l3DrawAny
      simp only [e1 n hn, e2, e3, Option.bind_some]
      rw [show (d == 0) = true by simpa using c0, frk_t]
    · by_cases c1 : d = 1
      · refine ⟨⟨p.A, p.B, p.C, w⟩, k4, h4, fun n hn => ?_⟩
        unfold Dspec_l3DrawAny
        simp only [e1 n hn, e2, e4, Option.bind_some]
        rw [show (d == 0) = false by simpa using c0, frk_f, show (d == 1) = true by simpa using c1, frk_t]
      · by_cases c2 : d = 2
        · refine ⟨⟨0, 0, 0, 1⟩, k2, h2, fun n hn => ?_⟩
          unfold Dspec_l3DrawAny
          simp only [e1 n hn, e2, Option.bind_some]
          rw [show (d == 0) = false by simpa using c0, frk_f, show (d == 1) = false by simpa using c1, frk_f, show (d == 2) = true by simpa using c2, frk_t]
        · by_cases c3 : d = 3
          · refine ⟨⟨2, -4, 0, 6⟩, k2, h2, fun n hn => ?_⟩
            unfold Dspec_l3DrawAny
            simp only [e1 n hn, e2, Option.bind_some]
            rw [show (d == 0) = false by simpa using c0, frk_f, show (d == 1) = false by simpa using c1, frk_f, show (d == 2) = false by simpa using c2, frk_f, show (d == 3) = true by simpa using c3, frk_t]
          · refine ⟨p, k2, h2, fun n hn => ?_⟩
            unfold Dspec_l3DrawAny
            simp only [e1 n hn, e2, Option.bind_some]
            rw [show (d == 0) = false by simpa using c0, frk_f, show (d == 1) = false by simpa using c1, frk_f, show (d == 2) = false by simpa using c2, frk_f, show (d == 3) = false by simpa using c3, frk_f]
  obtain ⟨q, k', g1, g2⟩ := go
  exact ⟨q, k', g2, g1⟩
end Evl.T

/-! Eyi -/
namespace Evl.T
open Go Evl

theorem totL_set : ∀ (l : List Sol) (i : Nat) (x y : Sol), l[i]? = some x → tot y ≤ tot x + 4 → totL (l.set i y) ≤ totL l + 4
  | [], _, _, _, h, _ => by simp at h
  | z :: l, 0, x, y, h, ht => by
    simp only [List.getElem?_cons_zero, Option.some.injEq] at h; subst h
    rw [List.set_cons_zero, totL_cons, totL_cons]; omega
  | z :: l, i + 1, x, y, h, ht => by
    rw [List.set_cons_succ, totL_cons, totL_cons]
    have := totL_set l i x y (by simpa using h) ht
    omega
theorem tot_get : ∀ (l : List Sol) (i : Nat) (x : Sol), l[i]? = some x → tot x ≤ totL l
  | [], _, _, h => by simp at h
  | z :: l, 0, x, h => by
    simp only [List.getElem?_cons_zero, Option.some.injEq] at h; subst h
    rw [totL_cons]; omega
  | z :: l, i + 1, x, h => by
    rw [totL_cons]
    have := tot_get l i x (by simpa using h)
    omega
theorem totL_app (l : List Sol) (x : Sol) : totL (l ++ [x]) = totL l + tot x := by
  induction l with
  | nil => show totL (x :: []) = _; rw [totL_cons]; show tot x + 0 = 0 + tot x; omega
  | cons y l ih => rw [List.cons_append, totL_cons, totL_cons, ih]; omega
theorem tot_lf (i : Bool) (p : Pl) : tot (.mk i p []) = 0 := by rw [tot_mk]; rfl
/-- No path of a tree is longer than d. -/
inductive Sh : Nat → Sol → Prop
  | leaf {d i p} : Sh d (.mk i p [])
  | node {d i p k} : (∀ x ∈ k, Sh d x) → Sh (d + 1) (.mk i p k)
theorem Sh.up {d : Nat} {s : Sol} (h : Sh d s) : ∀ {e}, d ≤ e → Sh e s := by
  induction h with
  | leaf => intro e _; exact .leaf
  | @node d i p k _ ih =>
    intro e he
    obtain ⟨e, rfl⟩ : ∃ j, e = j + 1 := ⟨e - 1, by omega⟩
    exact .node fun x hx => ih x hx (by omega)
theorem Sh.kids {d : Nat} {i : Bool} {p : Pl} {k : List Sol} (h : Sh d (.mk i p k)) : ∃ e, (k = [] ∨ d = e + 1) ∧ ∀ x ∈ k, Sh e x := by
  cases h with
  | leaf => exact ⟨d, .inl rfl, by simp⟩
  | @node d _ _ _ h => exact ⟨d, .inr rfl, h⟩
theorem Sh.re {d : Nat} {i j : Bool} {p q : Pl} {k : List Sol} (h : Sh d (.mk i p k)) : Sh d (.mk j q k) := by
  cases h with
  | leaf => exact .leaf
  | node h => exact .node h
/-- Bent here. -/
theorem bend3 {i : Bool} {p : Pl} {k : List Sol} {c : Cur} (hl : Lens (.mk i p k)) (ht : tot (.mk i p k) ≤ 200000) (hc : CurOk c) : ∃ s' c', (∀ n self, 1000 ≤ n → Dspec_l8Bend_3 n self false 0 0 0 0 i p.A p.B p.C p.D k c.1 c.2.1 c.2.2 = some (s', c')) ∧ Lens s' ∧ tot s' ≤ tot (.mk i p k) + 4 ∧ CurOk c' ∧ ∀ d, Sh d (.mk i p k) → Sh (d + 1) s' := by
  obtain ⟨v, c1, e1, b1, h1⟩ := belowOk hc (a := 6) (by omega) (by omega)
  obtain ⟨p', c2, e2, h2⟩ := anyDraw h1
  have e1' : Dspec_l1Below (c.1, c.2.1, c.2.2) 6 = some (v, c1) := e1
  have hk := tot_mk i p k
  have hkl : k.length ≤ big ∧ ∀ x ∈ k, Lens x := by cases hl with | mk a b => exact ⟨a, b⟩
  have hb : (200004 : Nat) ≤ big := by unfold big; omega
  have lz : ∀ (i : Bool) (p : Pl), Lens (.mk i p []) := fun i p => .mk (by simp) (by simp)
  have hv : v = 0 ∨ v = 1 ∨ v = 2 ∨ v = 3 ∨ v = 4 ∨ v = 5 := by omega
  rcases hv with rfl | rfl | rfl | rfl | rfl | rfl
  · refine ⟨.mk (!i) p k, c1, fun n self hn => by unfold Dspec_l8Bend_3; rw [e1']; rfl, .mk hkl.1 hkl.2, ?_, h1, fun d h => h.re.up (by omega)⟩
    rw [tot_mk, tot_mk]; omega
  · refine ⟨.mk i p' k, c2, fun n self hn => by unfold Dspec_l8Bend_3; rw [e1', Option.bind_some]; show ((Dspec_l3DrawAny n c1).bind _) = _; rw [e2 n hn]; rfl, .mk hkl.1 hkl.2, ?_, h2, fun d h => h.re.up (by omega)⟩
    rw [tot_mk, tot_mk]; omega
  · refine ⟨.mk i p (k ++ [.mk false ⟨0, 0, 0, 0⟩ []]), c1, fun n self hn => by
      unfold Dspec_l8Bend_3 Dspec_l8Bend_2
      rw [e1', Option.bind_some]
      show chk (apB 64 (k.length + 1)) _ = _
      rw [chk_eq (ap64 (by omega))], .mk (by rw [List.length_append, List.length_singleton]; omega) (fun x hx => ?_), ?_, h1, fun d h => by
      obtain ⟨e, he, hx⟩ := h.kids
      refine .node fun x hm => ?_
      rcases List.mem_append.1 hm with hm | hm
      · rcases he with he | he
        · rw [he] at hm; cases hm
        · exact (hx x hm).up (by omega)
      · rw [List.mem_singleton.1 hm]; exact .leaf⟩
    · rcases List.mem_append.1 hx with hx | hx
      · exact hkl.2 x hx
      · rw [List.mem_singleton.1 hx]; exact lz _ _
    · rw [tot_mk, tot_mk, totL_app, tot_lf, List.length_append, List.length_singleton]; omega
  · refine ⟨.mk false p [.mk i p k, lfS true], c1, fun n self hn => by unfold Dspec_l8Bend_3; rw [e1']; rfl, .mk (by simp [big]) (fun x hx => ?_), ?_, h1, fun d h => .node fun x hm => by
      simp only [List.mem_cons, List.not_mem_nil, or_false] at hm
      rcases hm with rfl | rfl
      · exact h
      · exact .leaf⟩
    · simp only [List.mem_cons, List.not_mem_nil, or_false] at hx
      rcases hx with rfl | rfl
      · exact hl
      · exact lz _ _
    · rw [tot_mk false p, totL_cons, totL_cons, show tot (lfS true) = 0 from tot_lf _ _]
      show 2 + (tot (.mk i p k) + (0 + 0)) ≤ _
      omega
  · refine ⟨.mk i p [], c1, fun n self hn => by unfold Dspec_l8Bend_3; rw [e1']; rfl, lz _ _, ?_, h1, fun d _ => .leaf⟩
    rw [tot_lf]; omega
  · refine ⟨.mk i p k, c1, fun n self hn => by unfold Dspec_l8Bend_3; rw [e1']; rfl, hl, by omega, h1, fun d h => h.up (by omega)⟩
/-- Bent somewhere. -/
theorem bendOk : ∀ (N : Nat) (s : Sol), tot s ≤ N → Lens s → tot s ≤ 200000 → ∀ c : Cur, CurOk c → ∃ s' c', (E2 fun n m => loopN (Dspec_l8Bend_b n) m (c, s) = some (s', c')) ∧ Lens s' ∧ tot s' ≤ tot s + 4 ∧ CurOk c' ∧ ∀ d, Sh d s → Sh (d + 1) s' := by
  intro N
  induction N with
  | zero =>
    intro s hs hl ht c hc
    obtain ⟨i, p, k⟩ := s
    have hk : k = [] := by rw [tot_mk] at hs; exact List.eq_nil_of_length_eq_zero (by omega)
    subst hk
    obtain ⟨s', c', e, h1, h2, h3⟩ := bend3 hl ht hc
    refine ⟨s', c', E2.suc (((sCopyE (s := .mk i p []) (by omega)).e2.and (e2_ge 1000)).mono fun n m ⟨g, hn, _⟩ => ?_), h1, h2, h3⟩
    rw [loop_suc]
    unfold Dspec_l8Bend_b
    dsimp only
    rw [g, Option.bind_some]
    exact e n _ hn
  | succ N ih =>
    intro s hs hl ht c hc
    obtain ⟨i, p, k⟩ := s
    have hkl : k.length ≤ big ∧ ∀ x ∈ k, Lens x := by cases hl with | mk a b => exact ⟨a, b⟩
    have htk := tot_mk i p k
    have gc := sCopyE (s := .mk i p k) (by omega)
    by_cases h2 : k.length = 2
    · obtain ⟨b, c1, e1, h1⟩ := onceOk hc (a := 2) (by omega) (by omega)
      cases b with
      | true =>
        obtain ⟨v, c2, e2, b2, h3⟩ := belowOk h1 (a := 2) (by omega) (by omega)
        obtain ⟨j, rfl⟩ : ∃ j : Nat, v = j := ⟨v.toNat, by omega⟩
        have hj : k[j]? = some k[j] := List.getElem?_eq_getElem (by omega)
        have hjt := tot_get k j _ hj
        obtain ⟨x', c3, e3, g1, g2, g3⟩ := ih k[j] (by omega) (hkl.2 _ (List.getElem_mem _)) (by omega) c2 h3
        refine ⟨.mk i p (k.set j x'), c3, E2.suc ((gc.e2.and (e3.and (e2_ge 1000))).mono fun n m ⟨q1, q2, _⟩ => ?_), .mk (by rw [List.length_set]; exact hkl.1) (fun x hx => ?_), ?_, g3.1, fun d h => by
          obtain ⟨e, he, hx⟩ := h.kids
          have hd : d = e + 1 := he.resolve_left fun h => by rw [h] at h2; cases h2
          subst hd
          refine .node fun x hm => ?_
          rcases List.mem_or_eq_of_mem_set hm with h | h
          · exact (hx x h).up (by omega)
          · rw [h]; exact g3.2 e (hx _ (List.getElem_mem _))⟩
        · rw [loop_suc]
          unfold Dspec_l8Bend_b
          dsimp only
          rw [q1, Option.bind_some]
          show frk ((k.length : Int) == 2) _ _ = _
          rw [show ((k.length : Int) == 2) = true by simpa using (by omega : (k.length : Int) = 2), frk_t, e1, Option.bind_some]
          show Dspec_l8Bend_0 n _ true false 0 0 0 0 i p.A p.B p.C p.D k c1.1 c1.2.1 c1.2.2 = _
          unfold Dspec_l8Bend_0
          have e2' : Dspec_l1Below (c1.1, c1.2.1, c1.2.2) 2 = some ((j : Int), c2) := e2
          rw [frk_t, e2', Option.bind_some]
          unfold Dspec_l8Bend_1
          show ((lget k (j : Int)).bind _) = _
          rw [lget_nat, hj, Option.bind_some]
          show ((loopN (Dspec_l8Bend_b n) m (c2, k[j])).bind _) = _
          rw [q2, Option.bind_some, Option.bind_some, Int.toNat_natCast]
        · rcases List.mem_or_eq_of_mem_set hx with h | h
          · exact hkl.2 x h
          · rw [h]; exact g1
        · have := totL_set k j _ x' hj g2
          rw [tot_mk, tot_mk, List.length_set]; omega
      | false =>
        obtain ⟨s', c', e, g1, g2, g3⟩ := bend3 hl ht h1
        refine ⟨s', c', E2.suc ((gc.e2.and (e2_ge 1000)).mono fun n m ⟨q1, hn, _⟩ => ?_), g1, g2, g3⟩
        rw [loop_suc]
        unfold Dspec_l8Bend_b
        dsimp only
        rw [q1, Option.bind_some]
        show frk ((k.length : Int) == 2) _ _ = _
        rw [show ((k.length : Int) == 2) = true by simpa using (by omega : (k.length : Int) = 2), frk_t, e1, Option.bind_some]
        exact e n _ hn
    · obtain ⟨s', c', e, g1, g2, g3⟩ := bend3 hl ht hc
      refine ⟨s', c', E2.suc ((gc.e2.and (e2_ge 1000)).mono fun n m ⟨q1, hn, _⟩ => ?_), g1, g2, g3⟩
      rw [loop_suc]
      unfold Dspec_l8Bend_b
      dsimp only
      rw [q1, Option.bind_some]
      show frk ((k.length : Int) == 2) _ _ = _
      rw [show ((k.length : Int) == 2) = false by simpa using (by omega : ¬ (k.length : Int) = 2), frk_f]
      exact e n _ hn
end Evl.T

/-! Eyj -/
namespace Evl.T
open Go Evl

theorem rt_lens {s : Sol} {path : List Pl} (h : Rt s path) : Lens s ∧ tot s = 2 * nod s := by
  induction h with
  | @leaf i p path _ => exact ⟨.mk (by simp) (by simp), by rw [tot_lf, nod_leaf]⟩
  | @node p a b path _ _ _ _ _ _ iha ihb =>
    refine ⟨.mk (by simp [big]) (fun x hx => ?_), ?_⟩
    · simp only [List.mem_cons, List.not_mem_nil, or_false] at hx
      rcases hx with rfl | rfl
      · exact iha.1
      · exact ihb.1
    · rw [tot_mk, totL_cons, totL_cons, nod2, iha.2, ihb.2]
      show 2 + (2 * nod a + (2 * nod b + 0)) = _
      omega
theorem anyTree0 {c : Cur} (hc : CurOk c) {s : Sol} (hl : Lens s) (ht : tot s ≤ 9000) {d : Nat} (hd : Sh d s) : ∃ s' c', (Ev fun n => Dspec_l8DrawAny_0 n false 0 0 0 0 s.inn s.pl.A s.pl.B s.pl.C s.pl.D s.kids c.1 c.2.1 c.2.2 = some (s', c')) ∧ Lens s' ∧ tot s' ≤ tot s + 4 ∧ Sh (d + 1) s' ∧ CurOk c' := by
  obtain ⟨o, c1, e1, h1⟩ := onceOk hc (a := 10) (by omega) (by omega)
  have e1' : Dspec_l1Once (c.1, c.2.1, c.2.2) 10 = some (o, c1) := e1
  cases o with
  | false =>
    refine ⟨s, c1, Ev.of fun n => ?_, hl, by omega, hd.up (by omega), h1⟩
    unfold Dspec_l8DrawAny_0
    rw [e1', Option.bind_some, frk_f, sol_eq']
  | true =>
    obtain ⟨s', c2, e2, g1, g2, g3, g4⟩ := bendOk (tot s) s (Nat.le_refl _) hl (by omega) c1 h1
    refine ⟨s', c2, e2.ev.mono fun n h => ?_, g1, by omega, g4 d hd, g3⟩
    have h' : Dspec_l8Bend n c1 s = some (s', c2) := h
    unfold Dspec_l8DrawAny_0
    rw [e1', Option.bind_some, frk_t, sol_eq', h']; rfl
theorem Dp.sh {s : Sol} {d : Nat} (h : Dp s d) : Sh d s := by
  induction h with
  | leaf => exact .leaf
  | node _ _ iha ihb =>
    refine .node fun x hx => ?_
    simp only [List.mem_cons, List.not_mem_nil, or_false] at hx
    rcases hx with rfl | rfl
    · exact iha
    · exact ihb
theorem Sh.dp {d : Nat} {s : Sol} (h : Sh d s) : ∀ {l}, Rt s l → Dp s d := by
  induction h with
  | leaf => intro l _; exact .leaf
  | node _ ih =>
    intro l hr
    cases hr with
    | leaf _ => exact .leaf
    | node _ _ _ _ ha hb => exact .node (ih _ (by simp) ha) (ih _ (by simp) hb)
theorem cvR_nod (l : List Pl) : nod (cvR l).1 ≤ l.length := by
  unfold cvR
  split
  · rw [show nod (lfS false) = 0 from nod_leaf _ _]; omega
  · split
    · rw [show nod (lfS false) = 0 from nod_leaf _ _]; omega
    · show nod (cvT _) ≤ _
      rw [cvT_nod]; exact cvK_len l []
/-- A drawn tree: how many nodes, how deep. -/
theorem anyTreeB {c : Cur} (hc : CurOk c) {a : Int} (d : Nat) (h1 : 1 ≤ a) (h2 : a ≤ d) (h4 : 4 ≤ d) (h5 : d ≤ 5) : ∃ s c', (Ev fun n => Dspec_l8DrawAny n c a = some (s, c')) ∧ Lens s ∧ tot s ≤ 2 * 2 ^ d + 2 ∧ Sh 9 s ∧ CurOk c' := by
  have hp : 2 ^ d = 16 ∨ 2 ^ d = 32 := by
    rcases (by omega : d = 4 ∨ d = 5) with rfl | rfl
    · exact .inl rfl
    · exact .inr rfl
  obtain ⟨v, c1, e1, b1, k1⟩ := belowOk hc h1 (by omega)
  have w1 : w64 (1 + v) = 1 + v := w64_id (by omega) (by omega)
  obtain ⟨s, c2, e2, hR, hN, hD, k2⟩ := growOk d [] (1 + v) c1 (by simp; omega) (by simp) (by omega) (by omega) k1
  have e2' : ∀ n, 1000 ≤ n → Dspec_l8Grow n c1 [] (w64 (1 + v)) = some (s, c2) := fun n hn => by rw [w1]; exact e2 n n hn (by omega)
  obtain ⟨o, c3, e3, k3⟩ := onceOk k2 (a := 4) (by omega) (by omega)
  obtain ⟨r1, r2⟩ := rt_lens hR
  cases o with
  | false =>
    obtain ⟨s', c4, e4, g1, g2, g3, g4⟩ := anyTree0 k3 r1 (by omega) hD.sh
    refine ⟨s', c4, (e4.and (e_ge 1000)).mono fun n ⟨h, hn⟩ => ?_, g1, by omega, g3.up (by omega), g4⟩
    unfold Dspec_l8DrawAny
    rw [e1, Option.bind_some, e2' n hn, Option.bind_some, e3, Option.bind_some, frk_f]
    exact h
  | true =>
    obtain ⟨l, c4, e4, b4, k4⟩ := cellOk k3 (a := 3) (by omega) (by omega)
    have hr := cvR_right l
    have hS := sConvex l (by unfold big; omega)
    obtain ⟨q1, q2⟩ := rt_lens hr.1
    have hn := cvR_nod l
    obtain ⟨s', c5, e5, g1, g2, g3, g4⟩ := anyTree0 k4 q1 (by omega) (cvR_dp l).sh
    refine ⟨s', c5, (e5.and (hS.and (e_ge 1000))).mono fun n ⟨h, hc, hn⟩ => ?_, g1, by omega, g3.up (by omega), g4⟩
    unfold Dspec_l8DrawAny
    rw [e1, Option.bind_some, e2' n hn, Option.bind_some, e3, Option.bind_some, frk_t, e4 n hn, Option.bind_some, hc, Option.bind_some]
    exact h
theorem anyTree {c : Cur} (hc : CurOk c) {a : Int} (h1 : 1 ≤ a) (h2 : a ≤ 5) : ∃ s c', (Ev fun n => Dspec_l8DrawAny n c a = some (s, c')) ∧ Lens s ∧ tot s ≤ 10000 ∧ CurOk c' := by
  obtain ⟨s, c', h, k1, k2, -, k3⟩ := anyTreeB hc 5 h1 h2 (by omega) (by omega)
  exact ⟨s, c', h, k1, by omega, k3⟩
end Evl.T

/-! Ehc -/
namespace Evl.T
open Go Evl

/-! bytes that are counted -/
def e35 (v : Int) : Nat := if v = 35 then 1 else 0
def e43 (v : Int) : Nat := if v = 43 then 1 else 0
def cntL (p : Int → Nat) : List Int → Nat
  | [] => 0
  | x :: l => p x + cntL p l
theorem cntL_app (p : Int → Nat) : ∀ l k : List Int, cntL p (l ++ k) = cntL p l + cntL p k
  | [], k => by simp [cntL]
  | x :: l, k => by simp only [List.cons_append, cntL, cntL_app p l k]; omega
theorem sumF_list (p : Int → Nat) : ∀ l : List Int, sumF l.length (fun t => p (l.getD t 0)) = cntL p l
  | [] => rfl
  | x :: l => by
    rw [List.length_cons, sumF, cntL, ← sumF_list p l]; rfl
theorem sumF_last : ∀ (k : Nat) (f : Nat → Nat), sumF (k + 1) f = sumF k f + f k
  | 0, f => by simp [sumF]
  | k + 1, f => by
    have := sumF_last k fun t => f (t + 1)
    rw [sumF, this, sumF]; omega
theorem e35_ch (c : Int) : e35 (chI c) = i1 c := by
  unfold e35 chI i1
  by_cases h1 : c = 1
  · rw [if_pos h1, if_pos h1]; rfl
  · rw [if_neg h1, if_neg h1]; by_cases h0 : c = 0
    · rw [if_pos h0]; rfl
    · rw [if_neg h0]; rfl
theorem e43_ch (c : Int) : e43 (chI c) = i0 c := by
  unfold e43 chI i0
  by_cases h1 : c = 1
  · rw [if_pos h1, if_neg (by omega : ¬ c = 0)]; rfl
  · rw [if_neg h1]; by_cases h0 : c = 0
    · rw [if_pos h0, if_pos h0]; rfl
    · rw [if_neg h0, if_neg h0]; rfl
theorem line_cnt (p : Int → Nat) (q : Int → Nat) (hp : ∀ c, p (chI c) = q c) (g : Int → Int → Int) (y : Int) : ∀ (k : Nat) (x : Int), cntL p (lineI g y k x) = sumF k fun t => q (g (x + (t : Nat)) y)
  | 0, _ => rfl
  | k + 1, x => by
    rw [lineI, cntL, hp, sumF, line_cnt p q hp g y k (x + 1)]
    have e0 : x + ((0 : Nat) : Int) = x := by omega
    rw [e0]; congr 1
    exact sumF_congr k fun t _ => by congr 2; omega
theorem grid_cnt (p : Int → Nat) (q : Int → Nat) (hp : ∀ c, p (chI c) = q c) (h10 : p 10 = 0) (g : Int → Int → Int) (lx ly : Int) (kx : Nat) : ∀ (k : Nat) (y : Int), y = ly + k - 1 → cntL p (gridI g lx kx k y) = sumF k fun u => sumF kx fun t => q (g (lx + (t : Nat)) (ly + (u : Nat)))
  | 0, _, _ => rfl
  | k + 1, y, h => by
    rw [gridI, cntL_app, cntL, h10, grid_cnt p q hp h10 g lx ly kx k (y - 1) (by omega), sumF_last, line_cnt p q hp]
    have e : y = ly + (k : Nat) := by omega
    rw [e]; omega
theorem lineI_mem (g : Int → Int → Int) (y : Int) : ∀ (k : Nat) (x : Int), ∀ v ∈ lineI g y k x, 0 ≤ v ∧ v < 256
  | 0, _, v, hv => by simp [lineI] at hv
  | k + 1, x, v, hv => by
    simp only [lineI, List.mem_cons] at hv
    rcases hv with rfl | hv
    · unfold chI; split
      · omega
      · split <;> omega
    · exact lineI_mem g y k (x + 1) v hv
theorem gridI_mem (g : Int → Int → Int) (lx : Int) (kx : Nat) : ∀ (k : Nat) (y : Int), ∀ v ∈ gridI g lx kx k y, 0 ≤ v ∧ v < 256
  | 0, _, v, hv => by simp [gridI] at hv
  | k + 1, y, v, hv => by
    simp only [gridI, List.mem_append, List.mem_cons] at hv
    rcases hv with hv | rfl | hv
    · exact lineI_mem g y kx lx v hv
    · omega
    · exact gridI_mem g lx kx k (y - 1) v hv
theorem gridI_len (g : Int → Int → Int) (lx : Int) (kx : Nat) : ∀ (k : Nat) (y : Int), (gridI g lx kx k y).length = k * (kx + 1)
  | 0, _ => by simp [gridI]
  | k + 1, y => by
    rw [gridI, List.length_append, List.length_cons, lineI_len, gridI_len g lx kx k (y - 1), Nat.succ_mul]; omega
theorem u8s_size (l : List Int) : (ByteArray.mk (u8s l).toArray).size = l.length := by
  show (u8s l).toArray.size = _
  simp [u8s]
theorem sget_u8s {l : List Int} (hl : ∀ v ∈ l, 0 ≤ v ∧ v < 256) {i : Nat} (hi : i < l.length) : sget ⟨(u8s l).toArray⟩ (i : Int) = some (l.getD i 0) := by
  have hs := u8s_size l
  unfold sget
  have h : 0 ≤ (i : Int) ∧ (i : Int).toNat < (ByteArray.mk (u8s l).toArray).size := ⟨by omega, by rw [hs]; omega⟩
  rw [dif_pos h]
  have e : (ByteArray.mk (u8s l).toArray)[(i : Int).toNat]'h.2 = (u8s l)[i]'(by simpa [u8s] using hi) := by
    show (u8s l).toArray[(i : Int).toNat]'_ = _
    simp
  rw [e]
  have e2 : (u8s l)[i]'(by simpa [u8s] using hi) = UInt8.ofNat (l[i]'hi).toNat := by simp [u8s]
  rw [e2, List.getD_eq_getElem?_getD, List.getElem?_eq_getElem hi]
  obtain ⟨h1, h2⟩ := hl _ (List.getElem_mem hi)
  have : (UInt8.ofNat (l[i]'hi).toNat).toNat = (l[i]'hi).toNat := by
    rw [UInt8.toNat_ofNat']; omega
  rw [this]
  simp only [Option.getD_some]
  congr 1; omega

section
variable {n : Nat} {s : Sol} {lo hi : Pt} {t6 t7 : Int} {rec0 : Int × Int × Int → Option Bool}
/-- The bytes of one slice. -/
theorem bytesLoop (z : Int) (l : List Int) (hl : ∀ v ∈ l, 0 ≤ v ∧ v < 256) (h3 : l.length ≤ 300) (hn : 1000 ≤ n) (a b : Nat) (ha : a ≤ 100000) (hb : b ≤ 100000) :
    loopN (Dlaws_FnCounted_4 n rec0 t6 t7 s.inn s.pl.A s.pl.B s.pl.C s.pl.D s.kids lo.X lo.Y lo.Z hi.X hi.Y hi.Z z ⟨(u8s l).toArray⟩) n ((a : Int), (b : Int), 0) =
      rec0 (((a + cntL e35 l : Nat) : Int), ((b + cntL e43 l : Nat) : Int), w64 (z + 1)) := by
  have hs := u8s_size l
  have := sumLoop (F := Dlaws_FnCounted_4 n rec0 t6 t7 s.inn s.pl.A s.pl.B s.pl.C s.pl.D s.kids lo.X lo.Y lo.Z hi.X hi.Y hi.Z z ⟨(u8s l).toArray⟩) (st := fun i : Int => i) (out := fun a b => rec0 ((a : Int), (b : Int), w64 (z + 1))) (h1 := fun i => e35 (l.getD i.toNat 0)) (h0 := fun i => e43 (l.getD i.toNat 0)) (lo := 0) (hi := (l.length : Int) - 1) (c := 1) (A := 200000)
    (fun rec a b y h1 h2 h3 h4 => ?_) (fun rec a b y h => ?_) (fun y _ _ => ?_) l.length n 0 a b (by omega) (by omega) (by omega) (by omega) (by omega)
  · rw [this]
    have e : ∀ p : Int → Nat, sumF l.length (fun t => p (l.getD ((0 : Int) + (t : Nat)).toNat 0)) = cntL p l := fun p => by
      rw [← sumF_list p l]
      exact sumF_congr _ fun t _ => by congr 2; omega
    rw [e e35, e e43]
  · obtain ⟨i, rfl⟩ : ∃ i : Nat, y = i := ⟨y.toNat, by omega⟩
    have hi : i < l.length := by omega
    have hw : w64 ((i : Int) + 1) = (i : Int) + 1 := w64_id (by omega) (by omega)
    have ea : w64 ((a : Int) + 1) = ((a + 1 : Nat) : Int) := w64_suc (by unfold big; omega)
    have eb : w64 ((b : Int) + 1) = ((b + 1 : Nat) : Int) := w64_suc (by unfold big; omega)
    show frk (decide ((i : Int) < ((ByteArray.mk (u8s l).toArray).size : Int))) _ _ = _
    rw [hs, decide_eq_true (by omega), frk_t, sget_u8s hl hi, Option.bind_some]
    unfold Dlaws_FnCounted_3
    simp only [sget_u8s hl hi, Option.bind_some, hw, ea, eb, Int.toNat_natCast]
    generalize l.getD i 0 = v
    unfold e35 e43
    by_cases h5 : v = 35
    · subst h5; rfl
    · by_cases h6 : v = 43
      · subst h6; rfl
      · rw [beq_eq_false_iff_ne.2 h5, beq_eq_false_iff_ne.2 h6, frk_f, frk_f, if_neg h5, if_neg h6]; rfl
  · show frk (decide (y < ((ByteArray.mk (u8s l).toArray).size : Int))) _ _ = _
    rw [hs, decide_eq_false (by omega), frk_f]
  · unfold e35 e43; constructor <;> split <;> omega
end
end Evl.T

/-! Ehd -/
namespace Evl.T
open Go Evl

theorem cntL_le (p : Int → Nat) (hp : ∀ v, p v ≤ 1) : ∀ l : List Int, cntL p l ≤ l.length
  | [] => by simp [cntL]
  | x :: l => by have := hp x; have := cntL_le p hp l; simp only [cntL, List.length_cons]; omega
theorem e_le (v : Int) : e35 v ≤ 1 ∧ e43 v ≤ 1 := by unfold e35 e43; constructor <;> split <;> omega
theorem grid17 {c : Cur} (hc : CurOk c) : ∃ lo hi c', Dspec_l17Grid c = some (lo, hi, c') := by
  obtain ⟨v0, c0, e0, -, h0⟩ := belowOk hc (a := 6) (by omega) (by omega)
  obtain ⟨v1, c1, e1, -, h1⟩ := belowOk h0 (a := 6) (by omega) (by omega)
  obtain ⟨v2, c2, e2, -, h2⟩ := belowOk h1 (a := 6) (by omega) (by omega)
  obtain ⟨v3, c3, e3, -, h3⟩ := belowOk h2 (a := 5) (by omega) (by omega)
  obtain ⟨v4, c4, e4, -, h4⟩ := belowOk h3 (a := 5) (by omega) (by omega)
  obtain ⟨v5, c5, e5, -, h5⟩ := belowOk h4 (a := 4) (by omega) (by omega)
  obtain ⟨v6, c6, e6, -, h6⟩ := belowOk h5 (a := 12) (by omega) (by omega)
  obtain ⟨v7, c7, e7, -, -⟩ := intOk h6 (l := [(-1), 15, 16]) (by decide) (by decide)
  obtain ⟨v8, c8, e8, -, -⟩ := intOk h6 (l := [(-1000001), 9]) (by decide) (by decide)
  unfold Dspec_l17Grid
  rw [e0, Option.bind_some, e1, Option.bind_some, e2, Option.bind_some, e3, Option.bind_some, e4, Option.bind_some, e5, Option.bind_some, e6, Option.bind_some]
  dsimp only
  rw [e7, e8]
  cases v6 == 0
  · cases v6 == 1
    · cases v6 == 2
      · exact ⟨_, _, _, rfl⟩
      · exact ⟨_, _, _, rfl⟩
    · exact ⟨_, _, _, rfl⟩
  · exact ⟨_, _, _, rfl⟩

section
variable {n : Nat} {s : Sol} {lo hi : Pt} {t6 t7 : Int} {g : Int → Int → Int → Int}
/-- All slices of a grid. -/
theorem slicesLoop (hSl : ∀ z, lo.Z ≤ z → z ≤ hi.Z → Dimpl_Slice n s z lo hi = some (slV (fun x y => g x y z) lo hi)) (hn : 1000 ≤ n) {kx ky kz : Nat} (hx : lo.X + kx = hi.X + 1) (hy : lo.Y + ky = hi.Y + 1) (hz : lo.Z + kz = hi.Z + 1)
    (x16 : kx ≤ 16) (y16 : ky ≤ 16) (z16 : kz ≤ 16) (bx : In6 lo.X ∧ In6 hi.X) (bY : In6 lo.Y ∧ In6 hi.Y) (bz : In6 lo.Z ∧ In6 hi.Z) :
    loopN (Dlaws_FnCounted_6 n t6 t7 s.inn s.pl.A s.pl.B s.pl.C s.pl.D s.kids lo.X lo.Y lo.Z hi.X hi.Y hi.Z) n (0, 0, lo.Z) = Dlaws_FnCounted_5 n t6 t7 (gridV g lo kx ky kz).1 (gridV g lo kx ky kz).2 := by
  have hlen : ∀ z, (gridI (fun x y => g x y z) lo.X kx ky hi.Y).length ≤ 272 := fun z => by
    rw [gridI_len]
    have := Nat.mul_le_mul y16 (show kx + 1 ≤ 17 by omega)
    omega
  have hkx : (hi.X - lo.X + 1).toNat = kx := by omega
  have hky : (hi.Y - lo.Y + 1).toNat = ky := by omega
  have := sumLoop (F := Dlaws_FnCounted_6 n t6 t7 s.inn s.pl.A s.pl.B s.pl.C s.pl.D s.kids lo.X lo.Y lo.Z hi.X hi.Y hi.Z) (st := fun z : Int => z) (out := fun a b => Dlaws_FnCounted_5 n t6 t7 (a : Int) (b : Int)) (h1 := fun z => cntL e35 (gridI (fun x y => g x y z) lo.X kx ky hi.Y)) (h0 := fun z => cntL e43 (gridI (fun x y => g x y z) lo.X kx ky hi.Y)) (lo := lo.Z) (hi := hi.Z) (c := 300) (A := 90000)
    (fun rec a b z h1 h2 h3 h4 => ?_) (fun rec a b z h => ?_) (fun z _ _ => ?_) kz n lo.Z 0 0 hz (by omega) (by omega) (by omega) (by omega)
  · rw [show (0 : Int) = ((0 : Nat) : Int) from rfl, this]
    unfold gridV
    simp only [Nat.zero_add]
    have q : ∀ (p q : Int → Nat), (∀ c, p (chI c) = q c) → p 10 = 0 → (sumF kz fun t => cntL p (gridI (fun x y => g x y (lo.Z + (t : Nat))) lo.X kx ky hi.Y)) = sumF kz fun v => sumF ky fun u => sumF kx fun t => q (g (lo.X + (t : Nat)) (lo.Y + (u : Nat)) (lo.Z + (v : Nat))) := fun p q hp h10 =>
      sumF_congr kz fun v _ => grid_cnt p q hp h10 (fun x y => g x y (lo.Z + (v : Nat))) lo.X lo.Y kx ky hi.Y (by omega)
    rw [q e35 i1 e35_ch rfl, q e43 i0 e43_ch rfl]
  · have hw : w64 (z + 1) = z + 1 := w64_id (by unfold In6 at bz; omega) (by unfold In6 at bz; omega)
    show frk (decide (z ≤ hi.Z)) _ _ = _
    rw [le_dec h2, frk_t, sol_eq']
    show ((Dimpl_Slice n s z lo hi).bind _) = _
    rw [hSl z h1 h2, Option.bind_some]
    unfold slV
    rw [hkx, hky, u8s_size, gridI_len]
    have m1 : w64 (hi.X - lo.X) = (kx : Int) - 1 := by rw [w64_id (by unfold In6 at bx; omega) (by unfold In6 at bx; omega)]; omega
    have m2 : w64 ((kx : Int) - 1 + 2) = ((kx + 1 : Nat) : Int) := by rw [w64_id (by omega) (by omega)]; omega
    have m3 : w64 (hi.Y - lo.Y) = (ky : Int) - 1 := by rw [w64_id (by unfold In6 at bY; omega) (by unfold In6 at bY; omega)]; omega
    have m4 : w64 ((ky : Int) - 1 + 1) = (ky : Int) := by rw [w64_id (by omega) (by omega)]; omega
    have m5 : w64 (((kx + 1 : Nat) : Int) * (ky : Int)) = ((ky * (kx + 1) : Nat) : Int) := by
      have h5 := Nat.mul_le_mul y16 (show kx + 1 ≤ 17 by omega)
      have e5 : ((kx + 1 : Nat) : Int) * (ky : Int) = ((ky * (kx + 1) : Nat) : Int) := by rw [Nat.mul_comm, Int.natCast_mul]
      rw [e5, w64_id (by omega) (by omega)]
    rw [m1, m2, m3, m4, m5, bne_self_eq_false, frk_f, bytesLoop z _ (gridI_mem _ _ _ _ _) (by have := hlen z; omega) hn a b (by omega) (by omega), hw]
  · show frk (decide (z ≤ hi.Z)) _ (Dlaws_FnCounted_5 n t6 t7 _ _) = _
    rw [le_no h, frk_f]
  · have h1 := cntL_le e35 (fun v => (e_le v).1) (gridI (fun x y => g x y z) lo.X kx ky hi.Y)
    have h2 := cntL_le e43 (fun v => (e_le v).2) (gridI (fun x y => g x y z) lo.X kx ky hi.Y)
    have := hlen z
    omega
end
theorem bigK {l : List Int} (h : l.length ≤ 1048576) : Dlaws_big l = some false := by unfold Dlaws_big; rw [dec_f (by omega)]
theorem bigL {l : List Int} (h : ¬ l.length ≤ 1048576) : Dlaws_big l = some true := by unfold Dlaws_big; rw [dec_t (by omega)]
theorem one00 (n : Nat) : Dlaws_FnCounted_1 n 0 0 = some true := rfl
theorem five (n : Nat) (a b : Int) : Dlaws_FnCounted_5 n a b a b = some true := by unfold Dlaws_FnCounted_5; rw [beq_self_eq_true, frk_t, beq_self_eq_true]
open Classical in
theorem plain_FnCounted {F : Int → Prop} (l : List Int) (_ : l.length ≤ maxLen ∧ ∀ x ∈ l, F x) : ∃ n, Dlaws_FnCounted n l = some true := by
  by_cases hb : l.length ≤ 1048576
  · obtain ⟨k0, e0, c0⟩ := newOk hb
    obtain ⟨s, k1, eT, hL, -, c1⟩ := anyTree c0 (a := 4) (by omega) (by omega)
    obtain ⟨lo, hi, k2, eG⟩ := grid17 c1
    have eD : Ev fun n => Dspec_DrawCountIn n l = some (s, lo, hi) := (eT.and (e_ge (l.length + 1))).mono fun n ⟨h, hn⟩ => by
      unfold Dspec_DrawCountIn
      rw [e0 n (by omega), Option.bind_some, h, Option.bind_some]
      show ((Dspec_l17Grid k1).bind _) = _
      rw [eG]; rfl
    have E1 := sSolidOk s hL; have E2 := iSolidOk s
    have f0 := bigK hb
    by_cases hg : Right s ∧ ptB lo = true ∧ ptB hi = true ∧ (wyB lo.X hi.X && (wyB lo.Y hi.Y && wyB lo.Z hi.Z)) = true
    · obtain ⟨hr, hl, hh, hw⟩ := hg
      obtain ⟨g, hG⟩ := whereBoth hr
      obtain ⟨n, hN⟩ := (eD.and (E1.and E2)).and (hG.and (e_ge 1000002))
      obtain ⟨⟨d, k1, k2⟩, ⟨gI, gS⟩, hn⟩ := hN n (Nat.le_refl n)
      obtain ⟨q1, q2⟩ := countGood k1 k2 hr hn gI gS hl hh hw
      obtain ⟨l1, l2, l3⟩ := (ptB_iff lo).1 hl
      obtain ⟨h1, h2, h3⟩ := (ptB_iff hi).1 hh
      have hw' := hw
      simp only [Bool.and_eq_true] at hw'
      obtain ⟨w1, w2, w3⟩ := hw'
      have u1 := w1; have u2 := w2; have u3 := w3
      unfold wyB at u1 u2 u3
      simp only [Bool.and_eq_true, decide_eq_true_eq] at u1 u2 u3
      have hSl : ∀ z, lo.Z ≤ z → z ≤ hi.Z → Dimpl_Slice n s z lo hi = some (slV (fun x y => g x y z) lo hi) := fun z z1 z2 => by
        have z6 : In6 z := In6.mid ⟨l3, h3⟩ z1 z2
        exact implSl k2 hr gI ((ptB_iff _).2 ⟨l1, l2, z6⟩) ((ptB_iff _).2 ⟨h1, h2, z6⟩) (by rw [w1, w2]; rfl)
      refine ⟨n, ?_⟩
      unfold Dlaws_FnCounted
      simp only [f0, Option.bind_some, frk_f, d, q1, q2, bne_self_eq_false]
      unfold Dlaws_FnCounted_0
      have m1 : w64 (hi.X - lo.X) = hi.X - lo.X := w64_id (by unfold In6 at *; omega) (by unfold In6 at *; omega)
      have m2 : w64 (hi.Y - lo.Y) = hi.Y - lo.Y := w64_id (by unfold In6 at *; omega) (by unfold In6 at *; omega)
      have m3 : w64 (hi.Z - lo.Z) = hi.Z - lo.Z := w64_id (by unfold In6 at *; omega) (by unfold In6 at *; omega)
      rw [frk_f, sol_eq', k1, Option.bind_some, decide_eq_true hr]
      simp only [sPtOk, hl, hh, Option.bind_some, Bool.not_true, frk_f, m1, m2, m3]
      rw [decide_eq_false (by omega), frk_f, decide_eq_false (by omega), frk_f, decide_eq_false (by omega), frk_f, decide_eq_false (by omega), frk_f, decide_eq_false (by omega), frk_f, decide_eq_false (by omega)]
      unfold Dlaws_FnCounted_2
      rw [frk_f, slicesLoop (g := g) hSl (by omega) (kx := (hi.X - lo.X + 1).toNat) (ky := (hi.Y - lo.Y + 1).toNat) (kz := (hi.Z - lo.Z + 1).toNat) (by omega) (by omega) (by omega) (by omega) (by omega) (by omega) ⟨l1, h1⟩ ⟨l2, h2⟩ ⟨l3, h3⟩]
      exact five n _ _
    · obtain ⟨n, hN⟩ := eD.and (E1.and E2)
      obtain ⟨d, k1, k2⟩ := hN n (Nat.le_refl n)
      obtain ⟨q1, q2⟩ := countBad k1 k2 hg
      refine ⟨n, ?_⟩
      unfold Dlaws_FnCounted
      simp only [f0, Option.bind_some, frk_f, d, q1, q2, bne_self_eq_false]
      unfold Dlaws_FnCounted_0
      rw [frk_f, sol_eq', k1, Option.bind_some]
      by_cases hr : Right s
      · rw [decide_eq_true hr]
        simp only [sPtOk, Bool.not_true, frk_f, Option.bind_some]
        cases hl : ptB lo
        · rfl
        · cases hh : ptB hi
          · rfl
          · simp only [Bool.not_true, frk_f]
            obtain ⟨l1, l2, l3⟩ := (ptB_iff lo).1 hl
            obtain ⟨h1, h2, h3⟩ := (ptB_iff hi).1 hh
            have m1 : w64 (hi.X - lo.X) = hi.X - lo.X := w64_id (by unfold In6 at *; omega) (by unfold In6 at *; omega)
            have m2 : w64 (hi.Y - lo.Y) = hi.Y - lo.Y := w64_id (by unfold In6 at *; omega) (by unfold In6 at *; omega)
            have m3 : w64 (hi.Z - lo.Z) = hi.Z - lo.Z := w64_id (by unfold In6 at *; omega) (by unfold In6 at *; omega)
            rw [m1, m2, m3]
            have hw : ¬ (wyB lo.X hi.X && (wyB lo.Y hi.Y && wyB lo.Z hi.Z)) = true := fun h => hg ⟨hr, hl, hh, h⟩
            unfold wyB at hw
            simp only [Bool.and_eq_true, decide_eq_true_eq] at hw
            by_cases t1 : hi.X < lo.X
            · rw [decide_eq_true t1]; rfl
            rw [decide_eq_false t1, frk_f]
            by_cases t2 : hi.Y < lo.Y
            · rw [decide_eq_true t2]; rfl
            rw [decide_eq_false t2, frk_f]
            by_cases t3 : hi.Z < lo.Z
            · rw [decide_eq_true t3]; rfl
            rw [decide_eq_false t3, frk_f]
            by_cases t4 : hi.X - lo.X ≥ 16
            · rw [decide_eq_true t4]; rfl
            rw [decide_eq_false t4, frk_f]
            by_cases t5 : hi.Y - lo.Y ≥ 16
            · rw [decide_eq_true t5]; rfl
            rw [decide_eq_false t5, frk_f]
            have t6 : hi.Z - lo.Z ≥ 16 := by
              rcases Int.lt_or_le (hi.Z - lo.Z) 16 with h | h
              · exact absurd ⟨⟨by omega, by omega⟩, ⟨by omega, by omega⟩, by omega, h⟩ hw
              · exact h
            rw [decide_eq_true t6]; rfl
      · rw [decide_eq_false hr]; rfl
  · refine ⟨0, ?_⟩
    unfold Dlaws_FnCounted
    rw [bigL hb]; rfl
end Evl.T
