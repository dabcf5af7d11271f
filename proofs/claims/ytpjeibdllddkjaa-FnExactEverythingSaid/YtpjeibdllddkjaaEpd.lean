/- The reference's test of three planes. -/
import Derived.Test.YtpjeibdllddkjaaEpc
namespace Evl.T
open Go Evl

/-- What crosses of planes whose determinant is 0 have in common. -/
theorem par3 {p q r : Pl} (h : det3 p q r = 0) :
    (cr0 q r * cr1 p q = cr1 q r * cr0 p q ∧ cr0 q r * cr2 p q = cr2 q r * cr0 p q ∧ cr1 q r * cr2 p q = cr2 q r * cr1 p q) ∧
    (cr0 r p * cr1 p q = cr1 r p * cr0 p q ∧ cr0 r p * cr2 p q = cr2 r p * cr0 p q ∧ cr1 r p * cr2 p q = cr2 r p * cr1 p q) := by
  obtain ⟨a, b, c, d⟩ := p; obtain ⟨e, f, g, i⟩ := q; obtain ⟨j, k, l, m⟩ := r
  simp only [det3, cr0, cr1, cr2] at h ⊢
  refine ⟨⟨?_, ?_, ?_⟩, ?_, ?_, ?_⟩ <;> grind
theorem prj {x0 x1 x2 w0 w1 w2 : Int} (h1 : x0 * w1 = x1 * w0) (h2 : x0 * w2 = x2 * w0) (h3 : x1 * w2 = x2 * w1) :
    d3 x0 x1 x2 w0 w1 w2 * w0 = x0 * d3 w0 w1 w2 w0 w1 w2 ∧ d3 x0 x1 x2 w0 w1 w2 * w1 = x1 * d3 w0 w1 w2 w0 w1 w2 ∧ d3 x0 x1 x2 w0 w1 w2 * w2 = x2 * d3 w0 w1 w2 w0 w1 w2 := by
  unfold d3
  refine ⟨?_, ?_, ?_⟩ <;> grind
theorem zero_of {x0 x1 x2 w0 w1 w2 : Int} (h1 : x0 * w1 = x1 * w0) (h2 : x0 * w2 = x2 * w0) (hw : ¬(w0 = 0 ∧ w1 = 0 ∧ w2 = 0)) (h0 : w0 = 0) : x0 = 0 := by
  rw [h0, Int.mul_zero] at h1 h2
  rcases Int.mul_eq_zero.1 h1 with h | h
  · exact h
  · rcases Int.mul_eq_zero.1 h2 with h' | h'
    · exact h'
    · exact absurd ⟨h0, h, h'⟩ hw

def sk (x y w d e f : Int) : Bool := decide (((x > 0 ∧ y > 0 ∧ w > 0) ∨ (x < 0 ∧ y < 0 ∧ w < 0)) ∧ (x.natAbs : Int) * d + (y.natAbs : Int) * e + (w.natAbs : Int) * f ≤ 0)
theorem sk_zero (x y d e f : Int) : sk x y 0 d e f = false := by
  unfold sk; apply decide_eq_false; rintro ⟨h | h, -⟩ <;> omega
theorem sk_cl3 {p q r : Pl} {x y w : Int} (h : det3 p q r = 0) (hw : ¬(cr0 p q = 0 ∧ cr1 p q = 0 ∧ cr2 p q = 0)) (h0 : w ≠ 0)
    (hX : d3 (cr0 q r) (cr1 q r) (cr2 q r) (cr0 p q) (cr1 p q) (cr2 p q) * w = x * d3 (cr0 p q) (cr1 p q) (cr2 p q) (cr0 p q) (cr1 p q) (cr2 p q))
    (hY : d3 (cr0 r p) (cr1 r p) (cr2 r p) (cr0 p q) (cr1 p q) (cr2 p q) * w = y * d3 (cr0 p q) (cr1 p q) (cr2 p q) (cr0 p q) (cr1 p q) (cr2 p q)) : sk x y w p.D q.D r.D = cl3 p q r := by
  have hZ := d3_pos hw
  unfold sk cl3
  apply dec_iff
  rw [core hZ h0 hX hY]
  exact ⟨fun h1 => ⟨h, hZ, h1.1, h1.2⟩, fun h1 => ⟨h1.2.2.1, h1.2.2.2⟩⟩

theorem sClash3 (p q r : Pl) (hp : PB p) (hq : PB q) (hr : PB r) (n : Nat) (hn : 4 ≤ n) : Dspec_l6Clash3 n p q r = some (cl3 p q r) := by
  have x1 := crB hp hq; have x2 := crB hq hr; have x3 := crB hr hp
  have hS : ∀ {x y w : Int}, B 500000 x → B 500000 y → B 500000 w → Dspec_l6Sum n [x, y, w] [p.D, q.D, r.D] = some (sk x y w p.D q.D r.D) := fun h1 h2 h3 =>
    sSum3 (k := 500000) (by omega) h1 h2 h3 hp.2.2.2 hq.2.2.2 hr.2.2.2 n hn
  have s0 := hS x2.1 x3.1 x1.1
  have s1 := hS x2.2.1 x3.2.1 x1.2.1
  have s2 := hS x2.2.2 x3.2.2 x1.2.2
  unfold Dspec_l6Clash3
  rw [sDet3 p q r hp hq hr, sCross q r hq hr, sCross r p hr hp, sCross p q hp hq]
  simp only [Option.bind_some]
  show frk _ _ (frk (cr0 q r != 0) (Dspec_l6Clash3_0 n p.A p.B p.C p.D q.A q.B q.C q.D r.A r.B r.C r.D (cr0 q r) (cr1 q r) (cr2 q r) (cr0 r p) (cr1 r p) (cr2 r p) (cr0 p q) (cr1 p q) (cr2 p q)) (frk (cr0 r p != 0) (Dspec_l6Clash3_0 n p.A p.B p.C p.D q.A q.B q.C q.D r.A r.B r.C r.D (cr0 q r) (cr1 q r) (cr2 q r) (cr0 r p) (cr1 r p) (cr2 r p) (cr0 p q) (cr1 p q) (cr2 p q)) (Dspec_l6Clash3_1 n (cr0 p q != 0) p.A p.B p.C p.D q.A q.B q.C q.D r.A r.B r.C r.D (cr0 q r) (cr1 q r) (cr2 q r) (cr0 r p) (cr1 r p) (cr2 r p) (cr0 p q) (cr1 p q) (cr2 p q)))) = _
  unfold Dspec_l6Clash3_1 Dspec_l6Clash3_3 Dspec_l6Clash3_5 Dspec_l6Clash3_0 Dspec_l6Clash3_2 Dspec_l6Clash3_4
  simp only [s0, s1, s2, Option.bind_some, frk_if, bne_iff_ne, ne_eq, ite_not]
  by_cases h : det3 p q r = 0
  · rw [if_pos h]
    by_cases hw : cr0 p q = 0 ∧ cr1 p q = 0 ∧ cr2 p q = 0
    · have e : cl3 p q r = false := by
        unfold cl3; rw [hw.1, hw.2.1, hw.2.2]; simp [d3]
      rw [e, hw.1, hw.2.1, hw.2.2]
      simp only [sk_zero, if_true]
      split <;> (try rfl)
      split <;> (try rfl)
      split <;> (try rfl)
      split <;> (try rfl)
      split <;> (try rfl)
      split <;> rfl
    · obtain ⟨⟨g1, g2, g3⟩, g4, g5, g6⟩ := par3 h
      obtain ⟨k0, k1, k2⟩ := prj g1 g2 g3
      obtain ⟨l0, l1, l2⟩ := prj g4 g5 g6
      have w0 : cr0 p q ≠ 0 → sk (cr0 q r) (cr0 r p) (cr0 p q) p.D q.D r.D = cl3 p q r := fun h0 => sk_cl3 h hw h0 k0 l0
      have w1 : cr1 p q ≠ 0 → sk (cr1 q r) (cr1 r p) (cr1 p q) p.D q.D r.D = cl3 p q r := fun h0 => sk_cl3 h hw h0 k1 l1
      have w2 : cr2 p q ≠ 0 → sk (cr2 q r) (cr2 r p) (cr2 p q) p.D q.D r.D = cl3 p q r := fun h0 => sk_cl3 h hw h0 k2 l2
      have z0 : cr0 p q = 0 → cr0 q r = 0 ∧ cr0 r p = 0 := fun h0 => ⟨zero_of g1 g2 hw h0, zero_of g4 g5 hw h0⟩
      have hw1 : ¬(cr1 p q = 0 ∧ cr0 p q = 0 ∧ cr2 p q = 0) := fun h1 => hw ⟨h1.2.1, h1.1, h1.2.2⟩
      have hw2 : ¬(cr2 p q = 0 ∧ cr0 p q = 0 ∧ cr1 p q = 0) := fun h1 => hw ⟨h1.2.1, h1.2.2, h1.1⟩
      have z1 : cr1 p q = 0 → cr1 q r = 0 ∧ cr1 r p = 0 := fun h0 => ⟨zero_of g1.symm g3 hw1 h0, zero_of g4.symm g6 hw1 h0⟩
      by_cases h0 : cr0 p q = 0
      · obtain ⟨y1, y2⟩ := z0 h0
        simp only [h0, y1, y2, if_true]
        by_cases h1 : cr1 p q = 0
        · obtain ⟨y3, y4⟩ := z1 h1
          have h2 : cr2 p q ≠ 0 := fun h2 => hw ⟨h0, h1, h2⟩
          simp only [h1, y3, y4, if_true, w2 h2, if_neg h2]
          split <;> (try rfl)
          split <;> rfl
        · simp only [w1 h1, if_neg h1]
          split <;> (try rfl)
          split <;> rfl
      · simp only [w0 h0, if_neg h0]
        split <;> (try rfl)
        split <;> rfl
  · rw [if_neg h]
    congr 1; symm; unfold cl3; apply decide_eq_false; exact fun h1 => h h1.1
end Evl.T
