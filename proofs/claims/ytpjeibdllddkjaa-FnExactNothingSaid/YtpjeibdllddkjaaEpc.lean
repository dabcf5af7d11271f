/- The clash tests of three and of four planes are the same. -/
import Derived.Test.YtpjeibdllddkjaaEpb
namespace Evl.T
open Go Evl

/-! sums by weights -/
theorem sSumStep (n : Nat) (f d : List Int) (rec : Bool × Bool × Int × Int → Option Bool) (up dn : Bool) (s : Int) (i : Nat) {v w : Int} (hi : f[i]? = some v) (hd : d[i]? = some w) (hB : B 9223372036854775807 v) :
    Dspec_l6Sum_3 n f d rec (up, dn, s, (i : Int)) = rec (up && decide (v > 0), dn && decide (v < 0), w64 (s + (v.natAbs : Int) * w), w64 ((i : Int) + 1)) := by
  have hl : i < f.length := (List.getElem?_eq_some_iff.1 hi).1
  unfold Dspec_l6Sum_3 Dspec_l6Sum_0 Dspec_l6Sum_1
  simp only [lget_nat, hi, hd, Option.bind_some, sAbs v hB, w64_add_r]
  have : decide ((i : Int) < (f.length : Int)) = true := by simpa using hl
  rw [this, frk_t]
  cases up <;> cases dn <;> simp [frk_t, frk_f]
theorem sSumEnd (n : Nat) (f d : List Int) (rec : Bool × Bool × Int × Int → Option Bool) (up dn : Bool) (s : Int) (i : Nat) (hi : f.length = i) :
    Dspec_l6Sum_3 n f d rec (up, dn, s, (i : Int)) = some ((up || dn) && decide (s ≤ 0)) := by
  unfold Dspec_l6Sum_3 Dspec_l6Sum_2
  subst hi
  simp only [Int.lt_irrefl, decide_false, frk_f]
  cases up <;> cases dn <;> simp [frk_t, frk_f]
theorem iWStep (n : Nat) (d : List Int) (one : Int) (f : List Int) (rec : Int × Int → Option Bool) (s : Int) (i : Nat) {v w : Int} (hi : f[i]? = some v) (hd : d[i]? = some w) :
    Dimpl_weighs_1 n d one f (f.length : Int) rec (s, (i : Int)) = if one = 0 ∨ sgn v ≠ one then some false else rec (w64 (s + v * w), w64 ((i : Int) + 1)) := by
  have hl : i < f.length := (List.getElem?_eq_some_iff.1 hi).1
  unfold Dimpl_weighs_1 Dimpl_weighs_0
  simp only [lget_nat, hi, hd, Option.bind_some, iSign, w64_add_r]
  have : decide ((i : Int) < (f.length : Int)) = true := by simpa using hl
  rw [this, frk_t]
  by_cases h1 : one = 0
  · simp [h1, frk_t]
  · have e1 : (one == 0) = false := by simpa using h1
    rw [e1, frk_f]
    by_cases h2 : sgn v = one
    · have e2 : (sgn v != one) = false := by simpa using h2
      rw [e2, frk_f, if_neg (by simp [h1, h2])]
    · have e2 : (sgn v != one) = true := by simpa using h2
      rw [e2, frk_t, if_pos (.inr h2)]
theorem iWEnd (n : Nat) (d : List Int) (one : Int) (f : List Int) (rec : Int × Int → Option Bool) (s : Int) (i : Nat) (hi : f.length = i) :
    Dimpl_weighs_1 n d one f (f.length : Int) rec (s, (i : Int)) = some (decide (w64 (s * one) ≤ 0)) := by
  unfold Dimpl_weighs_1
  subst hi
  simp only [Int.lt_irrefl, decide_false, frk_f]

theorem big1 : w64 ((0 : Nat) : Int) = ((0 : Nat) : Int) := rfl
theorem sSum3 {k : Nat} {a b c d e f : Int} (hk : k ≤ 1000000000000) (ha : B k a) (hb : B k b) (hc : B k c) (hd : B 500 d) (he : B 500 e) (hf : B 500 f) (n : Nat) (hn : 4 ≤ n) :
    Dspec_l6Sum n [a, b, c] [d, e, f] = some (decide (((a > 0 ∧ b > 0 ∧ c > 0) ∨ (a < 0 ∧ b < 0 ∧ c < 0)) ∧ (a.natAbs : Int) * d + (b.natAbs : Int) * e + (c.natAbs : Int) * f ≤ 0)) := by
  obtain ⟨n, rfl⟩ : ∃ m, n = m + 4 := ⟨n - 4, by omega⟩
  have up : ∀ {x}, B k x → B 9223372036854775807 x := fun h => h.up (by omega)
  have s1 : w64 (0 + (a.natAbs : Int) * d) = (a.natAbs : Int) * d := by
    rw [Int.zero_add]; exact w64_B' (ha.abs.mul hd) (by omega)
  have s2 : w64 ((a.natAbs : Int) * d + (b.natAbs : Int) * e) = (a.natAbs : Int) * d + (b.natAbs : Int) * e := w64_B' ((ha.abs.mul hd).add (hb.abs.mul he)) (by omega)
  have s3 : w64 ((a.natAbs : Int) * d + (b.natAbs : Int) * e + (c.natAbs : Int) * f) = (a.natAbs : Int) * d + (b.natAbs : Int) * e + (c.natAbs : Int) * f := w64_B' (((ha.abs.mul hd).add (hb.abs.mul he)).add (hc.abs.mul hf)) (by omega)
  unfold Dspec_l6Sum
  rw [loop_suc]
  show Dspec_l6Sum_3 _ _ _ _ (true, true, 0, ((0 : Nat) : Int)) = _
  rw [sSumStep _ _ _ _ _ _ _ 0 (v := a) (w := d) rfl rfl (up ha), s1, w64_suc (by decide), loop_suc]
  rw [sSumStep _ _ _ _ _ _ _ 1 (v := b) (w := e) rfl rfl (up hb), s2, w64_suc (by decide), loop_suc]
  rw [sSumStep _ _ _ _ _ _ _ 2 (v := c) (w := f) rfl rfl (up hc), s3, w64_suc (by decide), loop_suc]
  rw [sSumEnd _ _ _ _ _ _ _ 3 rfl]
  congr 1
  simp only [Bool.true_and, ← Bool.decide_and, ← Bool.decide_or]
  apply dec_iff
  constructor
  · rintro ⟨h | h, h2⟩
    · exact ⟨.inl ⟨h.1.1, h.1.2, h.2⟩, h2⟩
    · exact ⟨.inr ⟨h.1.1, h.1.2, h.2⟩, h2⟩
  · rintro ⟨h | h, h2⟩
    · exact ⟨.inl ⟨⟨h.1, h.2.1⟩, h.2.2⟩, h2⟩
    · exact ⟨.inr ⟨⟨h.1, h.2.1⟩, h.2.2⟩, h2⟩
theorem sSum4 {k : Nat} {a b c g d e f h : Int} (hk : k ≤ 1000000000000) (ha : B k a) (hb : B k b) (hc : B k c) (hg : B k g) (hd : B 500 d) (he : B 500 e) (hf : B 500 f) (hh : B 500 h) (n : Nat) (hn : 5 ≤ n) :
    Dspec_l6Sum n [a, b, c, g] [d, e, f, h] = some (decide (((a > 0 ∧ b > 0 ∧ c > 0 ∧ g > 0) ∨ (a < 0 ∧ b < 0 ∧ c < 0 ∧ g < 0)) ∧ (a.natAbs : Int) * d + (b.natAbs : Int) * e + (c.natAbs : Int) * f + (g.natAbs : Int) * h ≤ 0)) := by
  obtain ⟨n, rfl⟩ : ∃ m, n = m + 5 := ⟨n - 5, by omega⟩
  have up : ∀ {x}, B k x → B 9223372036854775807 x := fun h => h.up (by omega)
  have s1 : w64 (0 + (a.natAbs : Int) * d) = (a.natAbs : Int) * d := by
    rw [Int.zero_add]; exact w64_B' (ha.abs.mul hd) (by omega)
  have s2 : w64 ((a.natAbs : Int) * d + (b.natAbs : Int) * e) = (a.natAbs : Int) * d + (b.natAbs : Int) * e := w64_B' ((ha.abs.mul hd).add (hb.abs.mul he)) (by omega)
  have s3 : w64 ((a.natAbs : Int) * d + (b.natAbs : Int) * e + (c.natAbs : Int) * f) = (a.natAbs : Int) * d + (b.natAbs : Int) * e + (c.natAbs : Int) * f := w64_B' (((ha.abs.mul hd).add (hb.abs.mul he)).add (hc.abs.mul hf)) (by omega)
  have s4 : w64 ((a.natAbs : Int) * d + (b.natAbs : Int) * e + (c.natAbs : Int) * f + (g.natAbs : Int) * h) = (a.natAbs : Int) * d + (b.natAbs : Int) * e + (c.natAbs : Int) * f + (g.natAbs : Int) * h := w64_B' ((((ha.abs.mul hd).add (hb.abs.mul he)).add (hc.abs.mul hf)).add (hg.abs.mul hh)) (by omega)
  unfold Dspec_l6Sum
  rw [loop_suc]
  show Dspec_l6Sum_3 _ _ _ _ (true, true, 0, ((0 : Nat) : Int)) = _
  rw [sSumStep _ _ _ _ _ _ _ 0 (v := a) (w := d) rfl rfl (up ha), s1, w64_suc (by decide), loop_suc]
  rw [sSumStep _ _ _ _ _ _ _ 1 (v := b) (w := e) rfl rfl (up hb), s2, w64_suc (by decide), loop_suc]
  rw [sSumStep _ _ _ _ _ _ _ 2 (v := c) (w := f) rfl rfl (up hc), s3, w64_suc (by decide), loop_suc]
  rw [sSumStep _ _ _ _ _ _ _ 3 (v := g) (w := h) rfl rfl (up hg), s4, w64_suc (by decide), loop_suc]
  rw [sSumEnd _ _ _ _ _ _ _ 4 rfl]
  congr 1
  simp only [Bool.true_and, ← Bool.decide_and, ← Bool.decide_or]
  apply dec_iff
  constructor
  · rintro ⟨h | h, h2⟩
    · exact ⟨.inl ⟨h.1.1.1, h.1.1.2, h.1.2, h.2⟩, h2⟩
    · exact ⟨.inr ⟨h.1.1.1, h.1.1.2, h.1.2, h.2⟩, h2⟩
  · rintro ⟨h | h, h2⟩
    · exact ⟨.inl ⟨⟨⟨h.1, h.2.1⟩, h.2.2.1⟩, h.2.2.2⟩, h2⟩
    · exact ⟨.inr ⟨⟨⟨h.1, h.2.1⟩, h.2.2.1⟩, h.2.2.2⟩, h2⟩

theorem sgn_B (x : Int) : B 1 (sgn x) := by unfold sgn B; split; decide; split <;> decide
theorem iW3 {k : Nat} {a b c d e f : Int} (hk : k ≤ 1000000000000) (ha : B k a) (hb : B k b) (hc : B k c) (hd : B 500 d) (he : B 500 e) (hf : B 500 f) (n : Nat) (hn : 4 ≤ n) :
    Dimpl_weighs n [a, b, c] [d, e, f] = some (decide ((sgn a ≠ 0 ∧ sgn b = sgn a ∧ sgn c = sgn a) ∧ (a * d + b * e + c * f) * sgn a ≤ 0)) := by
  obtain ⟨n, rfl⟩ : ∃ m, n = m + 4 := ⟨n - 4, by omega⟩
  have s1 : w64 (0 + a * d) = a * d := by rw [Int.zero_add]; exact w64_B' (ha.mul hd) (by omega)
  have s2 : w64 (a * d + b * e) = a * d + b * e := w64_B' ((ha.mul hd).add (hb.mul he)) (by omega)
  have s3 : w64 (a * d + b * e + c * f) = a * d + b * e + c * f := w64_B' (((ha.mul hd).add (hb.mul he)).add (hc.mul hf)) (by omega)
  have s4 : w64 ((a * d + b * e + c * f) * sgn a) = (a * d + b * e + c * f) * sgn a := w64_B' ((((ha.mul hd).add (hb.mul he)).add (hc.mul hf)).mul (sgn_B a)) (by omega)
  unfold Dimpl_weighs
  show ((some a).bind _) = _
  simp only [Option.bind_some, iSign]
  rw [loop_suc]
  show Dimpl_weighs_1 _ _ _ _ (([a, b, c] : List Int).length : Int) _ (0, ((0 : Nat) : Int)) = _
  rw [iWStep _ _ _ _ _ _ 0 (v := a) (w := d) rfl rfl, s1, w64_suc (by decide), loop_suc]
  rw [iWStep _ _ _ _ _ _ 1 (v := b) (w := e) rfl rfl, s2, w64_suc (by decide), loop_suc]
  rw [iWStep _ _ _ _ _ _ 2 (v := c) (w := f) rfl rfl, s3, w64_suc (by decide), loop_suc]
  rw [iWEnd _ _ _ _ _ _ 3 rfl, s4]
  by_cases h1 : sgn a = 0
  · simp [h1]
  · by_cases h2 : sgn b = sgn a <;> by_cases h3 : sgn c = sgn a <;> simp [h1, h2, h3]
theorem iW4 {k : Nat} {a b c g d e f h : Int} (hk : k ≤ 1000000000000) (ha : B k a) (hb : B k b) (hc : B k c) (hg : B k g) (hd : B 500 d) (he : B 500 e) (hf : B 500 f) (hh : B 500 h) (n : Nat) (hn : 5 ≤ n) :
    Dimpl_weighs n [a, b, c, g] [d, e, f, h] = some (decide ((sgn a ≠ 0 ∧ sgn b = sgn a ∧ sgn c = sgn a ∧ sgn g = sgn a) ∧ (a * d + b * e + c * f + g * h) * sgn a ≤ 0)) := by
  obtain ⟨n, rfl⟩ : ∃ m, n = m + 5 := ⟨n - 5, by omega⟩
  have s1 : w64 (0 + a * d) = a * d := by rw [Int.zero_add]; exact w64_B' (ha.mul hd) (by omega)
  have s2 : w64 (a * d + b * e) = a * d + b * e := w64_B' ((ha.mul hd).add (hb.mul he)) (by omega)
  have s3 : w64 (a * d + b * e + c * f) = a * d + b * e + c * f := w64_B' (((ha.mul hd).add (hb.mul he)).add (hc.mul hf)) (by omega)
  have s4 : w64 (a * d + b * e + c * f + g * h) = a * d + b * e + c * f + g * h := w64_B' ((((ha.mul hd).add (hb.mul he)).add (hc.mul hf)).add (hg.mul hh)) (by omega)
  have s5 : w64 ((a * d + b * e + c * f + g * h) * sgn a) = (a * d + b * e + c * f + g * h) * sgn a := w64_B' (((((ha.mul hd).add (hb.mul he)).add (hc.mul hf)).add (hg.mul hh)).mul (sgn_B a)) (by omega)
  unfold Dimpl_weighs
  show ((some a).bind _) = _
  simp only [Option.bind_some, iSign]
  rw [loop_suc]
  show Dimpl_weighs_1 _ _ _ _ (([a, b, c, g] : List Int).length : Int) _ (0, ((0 : Nat) : Int)) = _
  rw [iWStep _ _ _ _ _ _ 0 (v := a) (w := d) rfl rfl, s1, w64_suc (by decide), loop_suc]
  rw [iWStep _ _ _ _ _ _ 1 (v := b) (w := e) rfl rfl, s2, w64_suc (by decide), loop_suc]
  rw [iWStep _ _ _ _ _ _ 2 (v := c) (w := f) rfl rfl, s3, w64_suc (by decide), loop_suc]
  rw [iWStep _ _ _ _ _ _ 3 (v := g) (w := h) rfl rfl, s4, w64_suc (by decide), loop_suc]
  rw [iWEnd _ _ _ _ _ _ 4 rfl, s5]
  by_cases h1 : sgn a = 0
  · simp [h1]
  · by_cases h2 : sgn b = sgn a <;> by_cases h3 : sgn c = sgn a <;> by_cases h4 : sgn g = sgn a <;> simp [h1, h2, h3, h4]

theorem sgn_pos {x : Int} : sgn x = 1 ↔ x > 0 := by unfold sgn; split; omega; split <;> omega
theorem sgn_neg {x : Int} : sgn x = -1 ↔ x < 0 := by unfold sgn; split; omega; split <;> omega
theorem sgn_zero {x : Int} : sgn x = 0 ↔ x = 0 := by unfold sgn; split; omega; split <;> omega

/-! four planes -/
def cl4 (p q r s : Pl) : Bool :=
  decide (((det3 q r s > 0 ∧ 0 - det3 p r s > 0 ∧ det3 p q s > 0 ∧ 0 - det3 p q r > 0) ∨ (det3 q r s < 0 ∧ 0 - det3 p r s < 0 ∧ det3 p q s < 0 ∧ 0 - det3 p q r < 0)) ∧
    ((det3 q r s).natAbs : Int) * p.D + ((0 - det3 p r s).natAbs : Int) * q.D + ((det3 p q s).natAbs : Int) * r.D + ((0 - det3 p q r).natAbs : Int) * s.D ≤ 0)
theorem detB {p q r : Pl} (hp : PB p) (hq : PB q) (hr : PB r) : B 750000000 (det3 p q r) := by
  have hc := crB hq hr
  obtain ⟨a1, a2, a3, a4⟩ := hp
  exact ((a1.mul hc.1).add (a2.mul hc.2.1)).add (a3.mul hc.2.2)
theorem sClash4 (p q r s : Pl) (hp : PB p) (hq : PB q) (hr : PB r) (hs : PB s) (n : Nat) (hn : 5 ≤ n) : Dspec_l6Clash4 n p q r s = some (cl4 p q r s) := by
  unfold Dspec_l6Clash4
  rw [sDet3 q r s hq hr hs, sDet3 p r s hp hr hs, sDet3 p q s hp hq hs, sDet3 p q r hp hq hr]
  simp only [Option.bind_some]
  rw [w64_B (detB hp hr hs).zsub rfl, w64_B (detB hp hq hr).zsub rfl]
  rw [sSum4 (k := 750000000) (by omega) (detB hq hr hs) (detB hp hr hs).zsub (detB hp hq hs) (detB hp hq hr).zsub hp.2.2.2 hq.2.2.2 hr.2.2.2 hs.2.2.2 n hn]
  rfl
theorem four {a b c g d e f h : Int} : ((sgn a ≠ 0 ∧ sgn b = sgn a ∧ sgn c = sgn a ∧ sgn g = sgn a) ∧ (a * d + b * e + c * f + g * h) * sgn a ≤ 0) ↔
    (((a > 0 ∧ b > 0 ∧ c > 0 ∧ g > 0) ∨ (a < 0 ∧ b < 0 ∧ c < 0 ∧ g < 0)) ∧ (a.natAbs : Int) * d + (b.natAbs : Int) * e + (c.natAbs : Int) * f + (g.natAbs : Int) * h ≤ 0) := by
  by_cases ha : a > 0
  · have h1 : sgn a = 1 := sgn_pos.2 ha
    rw [h1]
    constructor
    · rintro ⟨⟨-, hb, hc, hg⟩, hs⟩
      have hb := sgn_pos.1 hb; have hc := sgn_pos.1 hc; have hg := sgn_pos.1 hg
      refine ⟨.inl ⟨ha, hb, hc, hg⟩, ?_⟩
      rw [Int.natAbs_of_nonneg (by omega), Int.natAbs_of_nonneg (by omega), Int.natAbs_of_nonneg (by omega), Int.natAbs_of_nonneg (by omega)]; omega
    · rintro ⟨⟨-, hb, hc, hg⟩ | h2, hs⟩
      · refine ⟨⟨by omega, sgn_pos.2 hb, sgn_pos.2 hc, sgn_pos.2 hg⟩, ?_⟩
        rw [Int.natAbs_of_nonneg (by omega), Int.natAbs_of_nonneg (by omega), Int.natAbs_of_nonneg (by omega), Int.natAbs_of_nonneg (by omega)] at hs; omega
      · omega
  · by_cases ha' : a < 0
    · have h1 : sgn a = -1 := sgn_neg.2 ha'
      rw [h1]
      constructor
      · rintro ⟨⟨-, hb, hc, hg⟩, hs⟩
        have hb := sgn_neg.1 hb; have hc := sgn_neg.1 hc; have hg := sgn_neg.1 hg
        refine ⟨.inr ⟨ha', hb, hc, hg⟩, ?_⟩
        rw [Int.ofNat_natAbs_of_nonpos (by omega), Int.ofNat_natAbs_of_nonpos (by omega), Int.ofNat_natAbs_of_nonpos (by omega), Int.ofNat_natAbs_of_nonpos (by omega)]
        simp only [Int.neg_mul]; omega
      · rintro ⟨h2 | ⟨-, hb, hc, hg⟩, hs⟩
        · omega
        · refine ⟨⟨by omega, sgn_neg.2 hb, sgn_neg.2 hc, sgn_neg.2 hg⟩, ?_⟩
          rw [Int.ofNat_natAbs_of_nonpos (by omega), Int.ofNat_natAbs_of_nonpos (by omega), Int.ofNat_natAbs_of_nonpos (by omega), Int.ofNat_natAbs_of_nonpos (by omega)] at hs
          simp only [Int.neg_mul] at hs; omega
    · have h1 : sgn a = 0 := sgn_zero.2 (by omega)
      rw [h1]
      constructor
      · rintro ⟨⟨h2, -⟩, -⟩; exact absurd rfl h2
      · rintro ⟨h2 | h2, -⟩ <;> omega
theorem iClash4 (p q r s : Pl) (hp : PB p) (hq : PB q) (hr : PB r) (hs : PB s) (n : Nat) (hn : 5 ≤ n) : Dimpl_clash4 n p q r s = some (cl4 p q r s) := by
  unfold Dimpl_clash4
  rw [iDet3 q r s hq hr hs, iDet3 p r s hp hr hs, iDet3 p q s hp hq hs, iDet3 p q r hp hq hr]
  simp only [Option.bind_some]
  rw [w64_B (detB hp hr hs).zsub rfl, w64_B (detB hp hq hr).zsub rfl]
  rw [iW4 (k := 750000000) (by omega) (detB hq hr hs) (detB hp hr hs).zsub (detB hp hq hs) (detB hp hq hr).zsub hp.2.2.2 hq.2.2.2 hr.2.2.2 hs.2.2.2 n hn]
  simp only [Option.bind_some]
  unfold cl4
  congr 1
  exact dec_iff four

/-! three planes -/
theorem three {a b c d e f : Int} (hc : c > 0) : ((sgn a ≠ 0 ∧ sgn b = sgn a ∧ sgn c = sgn a) ∧ (a * d + b * e + c * f) * sgn a ≤ 0) ↔ ((a > 0 ∧ b > 0) ∧ a * d + b * e + c * f ≤ 0) := by
  have h1 : sgn c = 1 := sgn_pos.2 hc
  rw [h1]
  constructor
  · rintro ⟨⟨-, h3, h4⟩, h5⟩
    rw [← h4] at h3 h5
    exact ⟨⟨sgn_pos.1 h4.symm, sgn_pos.1 h3⟩, by omega⟩
  · rintro ⟨⟨h2, h3⟩, h5⟩
    rw [sgn_pos.2 h2, sgn_pos.2 h3]
    exact ⟨⟨by decide, rfl, rfl⟩, by omega⟩
theorem mul_pos_iff {x y k l : Int} (hk : 0 < k) (hl : 0 < l) (h : x * k = y * l) : 0 < x ↔ 0 < y := by
  have h1 := scale_iff hk hl h
  omega
/-- One part of the crosses tells what all together tell. -/
theorem core {x y w X Y Z d e f : Int} (hZ : 0 < Z) (hw : w ≠ 0) (hX : X * w = x * Z) (hY : Y * w = y * Z) :
    (((x > 0 ∧ y > 0 ∧ w > 0) ∨ (x < 0 ∧ y < 0 ∧ w < 0)) ∧ (x.natAbs : Int) * d + (y.natAbs : Int) * e + (w.natAbs : Int) * f ≤ 0) ↔ ((X > 0 ∧ Y > 0) ∧ X * d + Y * e + Z * f ≤ 0) := by
  by_cases h : 0 < w
  · have h1 := mul_pos_iff h hZ hX
    have h2 := mul_pos_iff h hZ hY
    have key : (X * d + Y * e + Z * f) * w = (x * d + y * e + w * f) * Z := by grind
    have h3 := scale_iff h hZ key
    constructor
    · rintro ⟨⟨hx, hy, -⟩ | h4, hs⟩
      · refine ⟨⟨h1.2 hx, h2.2 hy⟩, h3.2 ?_⟩
        rw [Int.natAbs_of_nonneg (by omega), Int.natAbs_of_nonneg (by omega), Int.natAbs_of_nonneg (by omega)] at hs; exact hs
      · omega
    · rintro ⟨⟨hx, hy⟩, hs⟩
      have hx := h1.1 hx; have hy := h2.1 hy
      refine ⟨.inl ⟨hx, hy, h⟩, ?_⟩
      rw [Int.natAbs_of_nonneg (by omega), Int.natAbs_of_nonneg (by omega), Int.natAbs_of_nonneg (by omega)]; exact h3.1 hs
  · have h0 : 0 < -w := by omega
    have h1 : 0 < X ↔ 0 < -x := mul_pos_iff h0 hZ (by grind)
    have h2 : 0 < Y ↔ 0 < -y := mul_pos_iff h0 hZ (by grind)
    have key : (X * d + Y * e + Z * f) * (-w) = (-x * d + -y * e + -w * f) * Z := by grind
    have h3 := scale_iff h0 hZ key
    constructor
    · rintro ⟨h4 | ⟨hx, hy, -⟩, hs⟩
      · omega
      · refine ⟨⟨h1.2 (by omega), h2.2 (by omega)⟩, h3.2 ?_⟩
        rw [Int.ofNat_natAbs_of_nonpos (by omega), Int.ofNat_natAbs_of_nonpos (by omega), Int.ofNat_natAbs_of_nonpos (by omega)] at hs; exact hs
    · rintro ⟨⟨hx, hy⟩, hs⟩
      have hx := h1.1 hx; have hy := h2.1 hy
      refine ⟨.inr ⟨by omega, by omega, by omega⟩, ?_⟩
      rw [Int.ofNat_natAbs_of_nonpos (by omega), Int.ofNat_natAbs_of_nonpos (by omega), Int.ofNat_natAbs_of_nonpos (by omega)]; exact h3.1 hs
def d3 (a b c d e f : Int) : Int := a * d + b * e + c * f
def cl3 (p q r : Pl) : Bool :=
  decide (det3 p q r = 0 ∧ 0 < d3 (cr0 p q) (cr1 p q) (cr2 p q) (cr0 p q) (cr1 p q) (cr2 p q) ∧
    (d3 (cr0 q r) (cr1 q r) (cr2 q r) (cr0 p q) (cr1 p q) (cr2 p q) > 0 ∧ d3 (cr0 r p) (cr1 r p) (cr2 r p) (cr0 p q) (cr1 p q) (cr2 p q) > 0) ∧
    d3 (cr0 q r) (cr1 q r) (cr2 q r) (cr0 p q) (cr1 p q) (cr2 p q) * p.D + d3 (cr0 r p) (cr1 r p) (cr2 r p) (cr0 p q) (cr1 p q) (cr2 p q) * q.D + d3 (cr0 p q) (cr1 p q) (cr2 p q) (cr0 p q) (cr1 p q) (cr2 p q) * r.D ≤ 0)
theorem d3B {a b c d e f : Int} (h1 : B 500000 a) (h2 : B 500000 b) (h3 : B 500000 c) (h4 : B 500000 d) (h5 : B 500000 e) (h6 : B 500000 f) : B 750000000000 (d3 a b c d e f) := ((h1.mul h4).add (h2.mul h5)).add (h3.mul h6)
theorem d3_pos {a b c : Int} (h : ¬(a = 0 ∧ b = 0 ∧ c = 0)) : 0 < d3 a b c a b c := by
  unfold d3
  have h1 : 0 ≤ a * a := by rw [← Int.natAbs_mul_self]; omega
  have h2 : 0 ≤ b * b := by rw [← Int.natAbs_mul_self]; omega
  have h3 : 0 ≤ c * c := by rw [← Int.natAbs_mul_self]; omega
  have key : ∀ x : Int, x ≠ 0 → 0 < x * x := fun x hx => by
    rw [← Int.natAbs_mul_self]
    have : 0 < x.natAbs := by omega
    have := Nat.mul_pos this this
    omega
  by_cases ha : a = 0
  · by_cases hb : b = 0
    · have := key c (fun hc => h ⟨ha, hb, hc⟩); omega
    · have := key b hb; omega
  · have := key a ha; omega
theorem iClash3 (p q r : Pl) (hp : PB p) (hq : PB q) (hr : PB r) (n : Nat) (hn : 4 ≤ n) : Dimpl_clash3 n p q r = some (cl3 p q r) := by
  unfold Dimpl_clash3 Dimpl_normal
  simp only [Option.bind_some]
  rw [iDet p q r hp hq hr]
  have x1 := crB hp hq; have x2 := crB hq hr; have x3 := crB hr hp
  have hD := And.intro hp.2.2.2 (And.intro hq.2.2.2 hr.2.2.2)
  obtain ⟨a1, a2, a3, a4⟩ := hp; obtain ⟨b1, b2, b3, b4⟩ := hq; obtain ⟨c1, c2, c3, c4⟩ := hr
  rw [iCross (p.A, p.B, p.C) (q.A, q.B, q.C) 500 500 rfl a1 a2 a3 b1 b2 b3, iCross (q.A, q.B, q.C) (r.A, r.B, r.C) 500 500 rfl b1 b2 b3 c1 c2 c3, iCross (r.A, r.B, r.C) (p.A, p.B, p.C) 500 500 rfl c1 c2 c3 a1 a2 a3]
  simp only [Option.bind_some]
  show frk _ _ ((Dimpl_dot (cr0 q r, cr1 q r, cr2 q r) (cr0 p q, cr1 p q, cr2 p q)).bind fun v6 => (Dimpl_dot (cr0 r p, cr1 r p, cr2 r p) (cr0 p q, cr1 p q, cr2 p q)).bind fun v8 => (Dimpl_dot (cr0 p q, cr1 p q, cr2 p q) (cr0 p q, cr1 p q, cr2 p q)).bind fun v9 => _) = _
  rw [iDot (cr0 q r, cr1 q r, cr2 q r) (cr0 p q, cr1 p q, cr2 p q) 500000 500000 rfl x2.1 x2.2.1 x2.2.2 x1.1 x1.2.1 x1.2.2, iDot (cr0 r p, cr1 r p, cr2 r p) (cr0 p q, cr1 p q, cr2 p q) 500000 500000 rfl x3.1 x3.2.1 x3.2.2 x1.1 x1.2.1 x1.2.2, iDot (cr0 p q, cr1 p q, cr2 p q) (cr0 p q, cr1 p q, cr2 p q) 500000 500000 rfl x1.1 x1.2.1 x1.2.2 x1.1 x1.2.1 x1.2.2]
  simp only [Option.bind_some]
  show frk _ _ ((Dimpl_weighs n [d3 (cr0 q r) (cr1 q r) (cr2 q r) (cr0 p q) (cr1 p q) (cr2 p q), d3 (cr0 r p) (cr1 r p) (cr2 r p) (cr0 p q) (cr1 p q) (cr2 p q), d3 (cr0 p q) (cr1 p q) (cr2 p q) (cr0 p q) (cr1 p q) (cr2 p q)] [p.D, q.D, r.D]).bind _) = _
  rw [iW3 (k := 750000000000) (by omega) (d3B x2.1 x2.2.1 x2.2.2 x1.1 x1.2.1 x1.2.2) (d3B x3.1 x3.2.1 x3.2.2 x1.1 x1.2.1 x1.2.2) (d3B x1.1 x1.2.1 x1.2.2 x1.1 x1.2.1 x1.2.2) hD.1 hD.2.1 hD.2.2 n hn]
  simp only [Option.bind_some, frk_if, bne_iff_ne, ne_eq]
  unfold cl3
  by_cases h : det3 p q r = 0
  · rw [if_neg (by simpa using h)]
    congr 1
    by_cases hw : cr0 p q = 0 ∧ cr1 p q = 0 ∧ cr2 p q = 0
    · rw [hw.1, hw.2.1, hw.2.2]
      simp [d3, sgn]
    · have hZ := d3_pos hw
      apply dec_iff
      rw [three hZ]
      exact ⟨fun h1 => ⟨h, hZ, h1.1, h1.2⟩, fun h1 => ⟨h1.2.2.1, h1.2.2.2⟩⟩
  · rw [if_pos h]
    congr 1; symm; apply decide_eq_false; exact fun h1 => h h1.1
end Evl.T
