/- The clash tests of the program and of the reference are the same, for planes whose numbers are at most 500. -/
import Derived.Test.YtpjeibdllddkjaaEpa
import Derived.Test.YtpjeibdllddkjaaWa
namespace Evl.T
open Go Evl

def PB (p : Pl) : Prop := B 500 p.A ∧ B 500 p.B ∧ B 500 p.C ∧ B 500 p.D

def det3 (p q r : Pl) : Int := p.A * (q.B * r.C - q.C * r.B) + p.B * (q.C * r.A - q.A * r.C) + p.C * (q.A * r.B - q.B * r.A)

theorem sAbs (x : Int) (h : B 9223372036854775807 x) : Dspec_l3Abs x = some (x.natAbs : Int) := by
  unfold Dspec_l3Abs B at *
  rw [frk_if]
  split
  · rename_i hx; have := of_decide_eq_true hx; rw [w64_id (by omega) (by omega)]; congr 1; omega
  · rename_i hx; simp only [decide_eq_true_eq] at hx; congr 1; omega
def sgn (x : Int) : Int := if x > 0 then 1 else if x < 0 then -1 else 0
theorem sSign (x : Int) : Dspec_l3Sign x = some (sgn x) := by
  unfold Dspec_l3Sign sgn
  simp only [frk_if, decide_eq_true_eq]
  split
  · rfl
  · split <;> rfl
theorem iSign (x : Int) : Dimpl_sign x = some (sgn x) := by
  unfold Dimpl_sign Dcmp_Compare Dcmp_isNaN sgn
  simp only [Option.bind_some, bne_self_eq_false, frk_f, frk_if, decide_eq_true_eq]
  by_cases h1 : x < 0 <;> by_cases h2 : x > 0 <;> simp [h1, h2] <;> omega

theorem sCross (p q : Pl) (hp : PB p) (hq : PB q) : Dspec_l4Cross p q = some (p.B * q.C - p.C * q.B, p.C * q.A - p.A * q.C, p.A * q.B - p.B * q.A) := by
  obtain ⟨a1, a2, a3, a4⟩ := hp; obtain ⟨b1, b2, b3, b4⟩ := hq
  unfold Dspec_l4Cross
  simp only [w64_sub_l, w64_sub_r]
  rw [w64_B ((a2.mul b3).sub (a3.mul b2)) rfl, w64_B ((a3.mul b1).sub (a1.mul b3)) rfl, w64_B ((a1.mul b2).sub (a2.mul b1)) rfl]
theorem sDet3 (p q r : Pl) (hp : PB p) (hq : PB q) (hr : PB r) : Dspec_l4Det3 p q r = some (det3 p q r) := by
  unfold Dspec_l4Det3
  rw [sCross q r hq hr]
  obtain ⟨a1, a2, a3, a4⟩ := hp; obtain ⟨b1, b2, b3, b4⟩ := hq; obtain ⟨c1, c2, c3, c4⟩ := hr
  simp only [Option.bind_some, w64_add_l, w64_add_r]
  rw [w64_B (((a1.mul ((b2.mul c3).sub (b3.mul c2))).add (a2.mul ((b3.mul c1).sub (b1.mul c3)))).add (a3.mul ((b1.mul c2).sub (b2.mul c1)))) rfl]
  rfl

/-- The product of the rows' numbers. -/
def dt (p q : Pl) : Int := p.A * q.A + p.B * q.B + p.C * q.C
def cr0 (p q : Pl) : Int := p.B * q.C - p.C * q.B
def cr1 (p q : Pl) : Int := p.C * q.A - p.A * q.C
def cr2 (p q : Pl) : Int := p.A * q.B - p.B * q.A
theorem crB {p q : Pl} (hp : PB p) (hq : PB q) : B 500000 (cr0 p q) ∧ B 500000 (cr1 p q) ∧ B 500000 (cr2 p q) := by
  obtain ⟨a1, a2, a3, a4⟩ := hp; obtain ⟨b1, b2, b3, b4⟩ := hq
  exact ⟨(a2.mul b3).sub (a3.mul b2), (a3.mul b1).sub (a1.mul b3), (a1.mul b2).sub (a2.mul b1)⟩
theorem sPar (p q : Pl) (hp : PB p) (hq : PB q) : Dspec_l4Parallel p q = some (if cr0 p q = 0 ∧ cr1 p q = 0 ∧ cr2 p q = 0 then sgn (dt p q) else 0) := by
  unfold Dspec_l4Parallel
  rw [sCross p q hp hq]
  obtain ⟨a1, a2, a3, a4⟩ := hp; obtain ⟨b1, b2, b3, b4⟩ := hq
  simp only [Option.bind_some, w64_add_l, w64_add_r, sSign]
  rw [w64_B (((a1.mul b1).add (a2.mul b2)).add (a3.mul b3)) rfl, frk_if]
  show (if (!(cr0 p q == 0 && (cr1 p q == 0 && (cr2 p q == 0 && true)))) = true then _ else _) = _
  by_cases h : cr0 p q = 0 ∧ cr1 p q = 0 ∧ cr2 p q = 0
  · rw [if_pos h, h.1, h.2.1, h.2.2]; rfl
  · rw [if_neg h, if_pos]
    simp only [Bool.not_eq_true', Bool.and_true, Bool.and_eq_false_iff, beq_eq_false_iff_ne]
    by_cases h1 : cr0 p q = 0
    · by_cases h2 : cr1 p q = 0
      · exact .inr (.inr fun h3 => h ⟨h1, h2, h3⟩)
      · exact .inr (.inl h2)
    · exact .inl h1

theorem iCross (u v : Int × Int × Int) (k l : Nat) (h : decide (k * l + k * l ≤ 9223372036854775807) = true) (a1 : B k u.1) (a2 : B k u.2.1) (a3 : B k u.2.2) (b1 : B l v.1) (b2 : B l v.2.1) (b3 : B l v.2.2) :
    Dimpl_crossOf u v = some (u.2.1 * v.2.2 - u.2.2 * v.2.1, u.2.2 * v.1 - u.1 * v.2.2, u.1 * v.2.1 - u.2.1 * v.1) := by
  unfold Dimpl_crossOf
  simp only [w64_sub_l, w64_sub_r]
  rw [w64_B ((a2.mul b3).sub (a3.mul b2)) h, w64_B ((a3.mul b1).sub (a1.mul b3)) h, w64_B ((a1.mul b2).sub (a2.mul b1)) h]
theorem iDot (u v : Int × Int × Int) (k l : Nat) (h : decide (k * l + k * l + k * l ≤ 9223372036854775807) = true) (a1 : B k u.1) (a2 : B k u.2.1) (a3 : B k u.2.2) (b1 : B l v.1) (b2 : B l v.2.1) (b3 : B l v.2.2) :
    Dimpl_dot u v = some (u.1 * v.1 + u.2.1 * v.2.1 + u.2.2 * v.2.2) := by
  unfold Dimpl_dot
  simp only [w64_add_l, w64_add_r]
  rw [w64_B (((a1.mul b1).add (a2.mul b2)).add (a3.mul b3)) h]
theorem iDet (p q r : Pl) (hp : PB p) (hq : PB q) (hr : PB r) : Dimpl_det (p.A, p.B, p.C) (q.A, q.B, q.C) (r.A, r.B, r.C) = some (det3 p q r) := by
  unfold Dimpl_det
  have hc := crB hq hr
  obtain ⟨a1, a2, a3, a4⟩ := hp; obtain ⟨b1, b2, b3, b4⟩ := hq; obtain ⟨c1, c2, c3, c4⟩ := hr
  rw [iCross (q.A, q.B, q.C) (r.A, r.B, r.C) 500 500 rfl b1 b2 b3 c1 c2 c3]
  simp only [Option.bind_some]
  show ((Dimpl_dot (p.A, p.B, p.C) (cr0 q r, cr1 q r, cr2 q r)).bind fun v1 => some v1) = _
  rw [iDot (p.A, p.B, p.C) (cr0 q r, cr1 q r, cr2 q r) 500 500000 rfl a1 a2 a3 hc.1 hc.2.1 hc.2.2]
  rfl
theorem iDet3 (p q r : Pl) (hp : PB p) (hq : PB q) (hr : PB r) : Dimpl_det3 p q r = some (det3 p q r) := by
  unfold Dimpl_det3 Dimpl_normal
  simp only [Option.bind_some]
  rw [iDet p q r hp hq hr]; rfl
theorem iPar (p q : Pl) (hp : PB p) (hq : PB q) : Dimpl_parallel p q = some (if cr0 p q = 0 ∧ cr1 p q = 0 ∧ cr2 p q = 0 then sgn (dt p q) else 0) := by
  unfold Dimpl_parallel Dimpl_normal
  obtain ⟨a1, a2, a3, a4⟩ := hp; obtain ⟨b1, b2, b3, b4⟩ := hq
  simp only [Option.bind_some, iSign]
  rw [iCross (p.A, p.B, p.C) (q.A, q.B, q.C) 500 500 rfl a1 a2 a3 b1 b2 b3, iDot (p.A, p.B, p.C) (q.A, q.B, q.C) 500 500 rfl a1 a2 a3 b1 b2 b3]
  simp only [Option.bind_some, frk_if]
  show (if (!(cr0 p q == 0 && (cr1 p q == 0 && (cr2 p q == 0 && true)))) = true then _ else _) = _
  by_cases h : cr0 p q = 0 ∧ cr1 p q = 0 ∧ cr2 p q = 0
  · rw [if_pos h, h.1, h.2.1, h.2.2]; rfl
  · rw [if_neg h, if_pos]
    simp only [Bool.not_eq_true', Bool.and_true, Bool.and_eq_false_iff, beq_eq_false_iff_ne]
    by_cases h1 : cr0 p q = 0
    · by_cases h2 : cr1 p q = 0
      · exact .inr (.inr fun h3 => h ⟨h1, h2, h3⟩)
      · exact .inr (.inl h2)
    · exact .inl h1

/-! two planes -/
def cl2 (p q : Pl) : Bool := decide ((cr0 p q = 0 ∧ cr1 p q = 0 ∧ cr2 p q = 0 ∧ dt p q < 0) ∧
  ((q.A.natAbs + q.B.natAbs + q.C.natAbs : Nat) : Int) * p.D + ((p.A.natAbs + p.B.natAbs + p.C.natAbs : Nat) : Int) * q.D ≤ 0)
theorem par_neg (p q : Pl) : ((if cr0 p q = 0 ∧ cr1 p q = 0 ∧ cr2 p q = 0 then sgn (dt p q) else 0) ≥ 0) ↔ ¬(cr0 p q = 0 ∧ cr1 p q = 0 ∧ cr2 p q = 0 ∧ dt p q < 0) := by
  by_cases h : cr0 p q = 0 ∧ cr1 p q = 0 ∧ cr2 p q = 0
  · rw [if_pos h]; unfold sgn
    constructor
    · intro h1 h2
      rw [if_neg (by omega), if_pos h2.2.2.2] at h1; omega
    · intro h1
      have : ¬ dt p q < 0 := fun h2 => h1 ⟨h.1, h.2.1, h.2.2, h2⟩
      split
      · omega
      · omega
  · rw [if_neg h]
    exact ⟨fun _ h2 => h ⟨h2.1, h2.2.1, h2.2.2.1⟩, fun _ => by omega⟩
theorem sClash2 (p q : Pl) (hp : PB p) (hq : PB q) : Dspec_l6Clash2 p q = some (cl2 p q) := by
  unfold Dspec_l6Clash2
  rw [sPar p q hp hq]
  obtain ⟨a1, a2, a3, a4⟩ := hp; obtain ⟨b1, b2, b3, b4⟩ := hq
  simp only [Option.bind_some, frk_if, decide_eq_true_eq]
  unfold cl2
  by_cases h : cr0 p q = 0 ∧ cr1 p q = 0 ∧ cr2 p q = 0 ∧ dt p q < 0
  · rw [if_neg (fun h1 => (par_neg p q).1 h1 h)]
    rw [sAbs _ (b1.up (by decide)), sAbs _ (b2.up (by decide)), sAbs _ (b3.up (by decide)), sAbs _ (a1.up (by decide)), sAbs _ (a2.up (by decide)), sAbs _ (a3.up (by decide))]
    simp only [Option.bind_some, w64_add_l, w64_add_r, w64_mul_l]
    rw [w64_B (((((b1.abs).add b2.abs).add b3.abs).mul a4).add ((((a1.abs).add a2.abs).add a3.abs).mul b4)) rfl]
    congr 1
    apply dec_iff
    simp only [Int.natCast_add]
    exact ⟨fun h1 => ⟨h, h1⟩, fun h1 => h1.2⟩
  · rw [if_pos ((par_neg p q).2 h)]
    congr 1; symm; apply decide_eq_false; exact fun h1 => h h1.1
/-- max of x and -x. -/
theorem maxAbs (x : Int) (h : B 500 x) : maxN x [w64 (0 - x)] = (x.natAbs : Int) := by
  unfold B at h
  rw [w64_id (by omega) (by omega)]
  simp only [maxN]; split <;> omega
theorem scale_iff {x y k l : Int} (hk : 0 < k) (hl : 0 < l) (h : x * k = y * l) : x ≤ 0 ↔ y ≤ 0 := by
  constructor
  · intro hx
    have h1 : x * k ≤ 0 := Int.mul_nonpos_of_nonpos_of_nonneg hx (Int.le_of_lt hk)
    rw [h] at h1
    by_cases hy : 0 < y
    · have := Int.mul_pos hy hl; omega
    · omega
  · intro hy
    have h1 : y * l ≤ 0 := Int.mul_nonpos_of_nonpos_of_nonneg hy (Int.le_of_lt hl)
    rw [← h] at h1
    by_cases hx : 0 < x
    · have := Int.mul_pos hx hk; omega
    · omega
theorem na_mul {a b c d : Int} (h : a * b = c * d) : (a.natAbs : Int) * b.natAbs = c.natAbs * d.natAbs := by
  have := congrArg Int.natAbs h
  rw [Int.natAbs_mul, Int.natAbs_mul] at this
  exact_mod_cast this
theorem iClash2 (n : Nat) (p q : Pl) (hp : PB p) (hq : PB q) : Dimpl_clash2 n p q = some (cl2 p q) := by
  unfold Dimpl_clash2
  rw [iPar p q hp hq]
  have hp0 := hp; have hq0 := hq
  obtain ⟨a1, a2, a3, a4⟩ := hp; obtain ⟨b1, b2, b3, b4⟩ := hq
  unfold Dimpl_normal
  simp only [Option.bind_some, frk_if, decide_eq_true_eq, bne_iff_ne, ne_eq]
  unfold cl2
  by_cases h : cr0 p q = 0 ∧ cr1 p q = 0 ∧ cr2 p q = 0 ∧ dt p q < 0
  · rw [if_neg (fun h1 => (par_neg p q).1 h1 h)]
    obtain ⟨e0, e1, e2, e3⟩ := h
    have k0 : p.B * q.C = p.C * q.B := by unfold cr0 at e0; omega
    have k1 : p.C * q.A = p.A * q.C := by unfold cr1 at e1; omega
    have k2 : p.A * q.B = p.B * q.A := by unfold cr2 at e2; omega
    have l0 := na_mul k0; have l1 := na_mul k1; have l2 := na_mul k2
    simp only [w64_add_l, w64_add_r]
    simp only [maxAbs _ a1, maxAbs _ a2, maxAbs _ a3, maxAbs _ b1, maxAbs _ b2, maxAbs _ b3]
    rw [w64_B ((a4.mul b1.abs).add (b4.mul a1.abs)) rfl, w64_B ((a4.mul b2.abs).add (b4.mul a2.abs)) rfl, w64_B ((a4.mul b3.abs).add (b4.mul a3.abs)) rfl]
    have key : ∀ x y : Nat, 0 < x → (x : Int) * (q.A.natAbs + q.B.natAbs + q.C.natAbs : Nat) = (y : Int) * (p.A.natAbs + p.B.natAbs + p.C.natAbs : Nat) → 0 < p.A.natAbs + p.B.natAbs + p.C.natAbs →
        (p.D * (y : Int) + q.D * (x : Int) ≤ 0 ↔ ((q.A.natAbs + q.B.natAbs + q.C.natAbs : Nat) : Int) * p.D + ((p.A.natAbs + p.B.natAbs + p.C.natAbs : Nat) : Int) * q.D ≤ 0) := by
      intro x y hx he hv
      refine scale_iff (k := ((p.A.natAbs + p.B.natAbs + p.C.natAbs : Nat) : Int)) (l := (x : Int)) (by omega) (by omega) ?_
      generalize ((p.A.natAbs + p.B.natAbs + p.C.natAbs : Nat) : Int) = v at he ⊢
      generalize ((q.A.natAbs + q.B.natAbs + q.C.natAbs : Nat) : Int) = u at he ⊢
      generalize (x : Int) = x at he ⊢
      generalize (y : Int) = y at he ⊢
      grind
    by_cases hA : p.A = 0
    · by_cases hB : p.B = 0
      · by_cases hC : p.C = 0
        · exfalso; unfold dt at e3; rw [hA, hB, hC] at e3; simp at e3
        · rw [if_neg (by simpa using hA), if_neg (by simpa using hB), if_pos (by simpa using hC)]
          congr 1; apply dec_iff
          rw [key p.C.natAbs q.C.natAbs (by omega) (by simp only [Int.natCast_add]; grind) (by omega)]
          exact ⟨fun h1 => ⟨⟨e0, e1, e2, e3⟩, h1⟩, fun h1 => h1.2⟩
      · rw [if_neg (by simpa using hA), if_pos (by simpa using hB)]
        congr 1; apply dec_iff
        rw [key p.B.natAbs q.B.natAbs (by omega) (by simp only [Int.natCast_add]; grind) (by omega)]
        exact ⟨fun h1 => ⟨⟨e0, e1, e2, e3⟩, h1⟩, fun h1 => h1.2⟩
    · rw [if_pos (by simpa using hA)]
      congr 1; apply dec_iff
      rw [key p.A.natAbs q.A.natAbs (by omega) (by simp only [Int.natCast_add]; grind) (by omega)]
      exact ⟨fun h1 => ⟨⟨e0, e1, e2, e3⟩, h1⟩, fun h1 => h1.2⟩
  · rw [if_pos ((par_neg p q).2 h)]
    congr 1; symm; apply decide_eq_false; exact fun h1 => h h1.1
end Evl.T
