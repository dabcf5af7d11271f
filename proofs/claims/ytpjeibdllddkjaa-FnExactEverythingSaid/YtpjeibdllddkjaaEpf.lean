/- A plane is right: the program and the reference say the same. -/
import Derived.Test.YtpjeibdllddkjaaEpe
namespace Evl.T
open Go Evl

def rIn (a lo hi : Int) : Bool := decide (a ≥ lo) && decide (a ≤ hi)
theorem sIn (a lo hi : Int) : Dspec_l1In a lo hi = some (rIn a lo hi) := by
  unfold Dspec_l1In rIn; cases decide (a ≥ lo) <;> simp [frk_t, frk_f]
theorem iIn (a lo hi : Int) : Dimpl_inRange a lo hi = some (rIn a lo hi) := by
  unfold Dimpl_inRange rIn; cases decide (a ≥ lo) <;> simp [frk_t, frk_f]
theorem iCoef (a : Int) : Dimpl_isCoef a = some (rIn a (-500) 500) := by unfold Dimpl_isCoef; rw [iIn]; rfl
theorem rIn_iff {a lo hi : Int} : rIn a lo hi = true ↔ lo ≤ a ∧ a ≤ hi := by unfold rIn; simp

theorem tmod_nat (a b : Nat) : Int.tmod (a : Int) (b : Int) = ((a % b : Nat) : Int) := by
  rw [Int.tmod_eq_emod_of_nonneg (by omega)]; rfl
theorem sGcdStep (n : Nat) (rec : Int × Int → Option Int) (a b : Int) : Dspec_l3Gcd_0 n rec (a, b) = frk (decide (b > 0)) ((rm .i64 a b).bind fun v => rec (b, v)) (some a) := rfl
theorem iDivInStep (n : Nat) (rec0 : Int × Int → Option Int) (l : List Int) (ln i : Int) (rec : Int × Int → Option Int) (a b : Int) : Dimpl_divisor_0 n rec0 l ln i rec (a, b) = frk (b != 0) ((rm .i64 a b).bind fun v => rec (b, v)) (rec0 (a, w64 (i + 1))) := rfl
theorem sGcdLoop (n : Nat) : ∀ (b a m : Nat), b < m → loopN (Dspec_l3Gcd_0 n) m ((a : Int), (b : Int)) = some ((Nat.gcd a b : Nat) : Int) := by
  intro b
  induction b using Nat.strongRecOn with
  | ind b ih =>
    intro a m hm
    obtain ⟨m, rfl⟩ : ∃ j, m = j + 1 := ⟨m - 1, by omega⟩
    rw [loop_suc, sGcdStep]
    by_cases hb : b = 0
    · subst hb; simp [frk_f]
    · have h1 : decide ((b : Int) > 0) = true := by simpa using by omega
      rw [h1, frk_t]
      unfold rm
      rw [if_neg (by omega)]
      simp only [Option.bind_some, tmod_nat]
      rw [ih (a % b) (Nat.mod_lt _ (by omega)) b m (by have := Nat.mod_lt a (show b > 0 by omega); omega)]
      congr 2
      rw [Nat.gcd_comm b, Nat.gcd_comm a, Nat.gcd_rec b a]
theorem sGcd (n : Nat) (a b : Int) (ha : B 9223372036854775807 a) (hb : B 9223372036854775807 b) (hn : b.natAbs < n) : Dspec_l3Gcd n a b = some ((Nat.gcd a.natAbs b.natAbs : Nat) : Int) := by
  unfold Dspec_l3Gcd
  rw [sAbs a ha, sAbs b hb]
  exact sGcdLoop n _ _ _ hn
theorem iDivIn (n : Nat) (rec0 : Int × Int → Option Int) (l : List Int) (ln i : Int) : ∀ (b a m : Nat), b < m → loopN (Dimpl_divisor_0 n rec0 l ln i) m ((a : Int), (b : Int)) = rec0 (((Nat.gcd a b : Nat) : Int), w64 (i + 1)) := by
  intro b
  induction b using Nat.strongRecOn with
  | ind b ih =>
    intro a m hm
    obtain ⟨m, rfl⟩ : ∃ j, m = j + 1 := ⟨m - 1, by omega⟩
    rw [loop_suc, iDivInStep]
    by_cases hb : b = 0
    · subst hb; simp [frk_f]
    · have h1 : ((b : Int) != 0) = true := by simpa using hb
      rw [h1, frk_t]
      unfold rm
      rw [if_neg (by omega)]
      simp only [Option.bind_some, tmod_nat]
      rw [ih (a % b) (Nat.mod_lt _ (by omega)) b m (by have := Nat.mod_lt a (show b > 0 by omega); omega)]
      congr 3
      rw [Nat.gcd_comm b, Nat.gcd_comm a, Nat.gcd_rec b a]
theorem maxAbs' (x : Int) (h : B 9223372036854775807 x) : maxN x [w64 (0 - x)] = (x.natAbs : Int) := by
  unfold B at h
  rw [w64_id (by omega) (by omega)]
  simp only [maxN]; split <;> omega
theorem iDivStep (n : Nat) (l : List Int) (rec0 : Int × Int → Option Int) (g i : Nat) {v : Int} (hv : l[i]? = some v) (hB : B 9223372036854775807 v) (hn : v.natAbs < n) :
    Dimpl_divisor_1 n l (l.length : Int) rec0 ((g : Int), (i : Int)) = rec0 (((Nat.gcd g v.natAbs : Nat) : Int), w64 ((i : Int) + 1)) := by
  have hl : i < l.length := (List.getElem?_eq_some_iff.1 hv).1
  unfold Dimpl_divisor_1
  simp only [lt_dec hl, frk_t, lget_nat, hv, Option.bind_some, maxAbs' v hB]
  exact iDivIn n rec0 l _ _ _ _ _ hn
theorem iDivEnd (n : Nat) (l : List Int) (rec0 : Int × Int → Option Int) (g i : Nat) (hi : l.length = i) :
    Dimpl_divisor_1 n l (l.length : Int) rec0 ((g : Int), (i : Int)) = some (g : Int) := by
  unfold Dimpl_divisor_1
  subst hi
  simp only [lt_self, frk_f]
theorem iDiv4 (n : Nat) (a b c d : Int) (ha : B 9223372036854775807 a) (hb : B 9223372036854775807 b) (hc : B 9223372036854775807 c) (hd : B 9223372036854775807 d) (h1 : a.natAbs < n) (h2 : b.natAbs < n) (h3 : c.natAbs < n) (h4 : d.natAbs < n) (h5 : 5 ≤ n) :
    Dimpl_divisor n [a, b, c, d] = some ((Nat.gcd (Nat.gcd (Nat.gcd a.natAbs b.natAbs) c.natAbs) d.natAbs : Nat) : Int) := by
  unfold Dimpl_divisor
  have key : ∀ m, 5 ≤ m → loopN (Dimpl_divisor_1 n [a, b, c, d] (([a, b, c, d] : List Int).length : Int)) m (((0 : Nat) : Int), ((0 : Nat) : Int)) = some ((Nat.gcd (Nat.gcd (Nat.gcd a.natAbs b.natAbs) c.natAbs) d.natAbs : Nat) : Int) := by
    intro m hm
    obtain ⟨m, rfl⟩ : ∃ j, m = j + 5 := ⟨m - 5, by omega⟩
    rw [loop_suc, iDivStep n _ _ 0 0 (v := a) rfl ha h1, w64_suc (by decide), loop_suc]
    rw [iDivStep n _ _ _ 1 (v := b) rfl hb h2, w64_suc (by decide), loop_suc]
    rw [iDivStep n _ _ _ 2 (v := c) rfl hc h3, w64_suc (by decide), loop_suc]
    rw [iDivStep n _ _ _ 3 (v := d) rfl hd h4, w64_suc (by decide), loop_suc]
    rw [iDivEnd n _ _ _ 4 rfl, Nat.gcd_zero_left]
  exact key n h5

def pOk (p : Pl) : Bool := rIn p.A (-500) 500 && (rIn p.B (-500) 500 && (rIn p.C (-500) 500 && (rIn p.D (-500) 500 && (decide (p.A ≠ 0 ∨ p.B ≠ 0 ∨ p.C ≠ 0) && decide (Nat.gcd (Nat.gcd p.A.natAbs p.B.natAbs) (Nat.gcd p.C.natAbs p.D.natAbs) = 1)))))
theorem pOk_PB {p : Pl} (h : pOk p = true) : PB p := by
  unfold pOk at h
  simp only [Bool.and_eq_true, rIn_iff] at h
  obtain ⟨h1, h2, h3, h4, -⟩ := h
  exact ⟨B.of h1.1 h1.2, B.of h2.1 h2.2, B.of h3.1 h3.2, B.of h4.1 h4.2⟩
theorem rIn_B {a : Int} (h : rIn a (-500) 500 = true) : B 500 a := B.of (rIn_iff.1 h).1 (rIn_iff.1 h).2
theorem beq1 (k : Nat) : (((k : Nat) : Int) == 1) = decide (k = 1) := by
  rw [Bool.eq_iff_iff]; simp; omega
theorem gcd_up {a b : Nat} (hb : b ≤ 500) : Nat.gcd a b ≤ 500 ∨ b = 0 := by
  by_cases h : b = 0
  · exact .inr h
  · exact .inl (Nat.le_trans (Nat.gcd_le_right a (by omega)) hb)
theorem gcd_500 {a b : Nat} (ha : a ≤ 500) (hb : b ≤ 500) : Nat.gcd a b ≤ 500 := by
  rcases gcd_up (a := a) hb with h | h
  · exact h
  · rw [h, Nat.gcd_zero_right]; exact ha
theorem sPlaneOk (n : Nat) (p : Pl) (hn : 502 ≤ n) : Dspec_PlaneOk n p = some (pOk p) := by
  unfold Dspec_PlaneOk Dspec_l3In pOk
  simp only [sIn, Option.bind_some]
  cases h1 : rIn p.A (-500) 500
  · rfl
  cases h2 : rIn p.B (-500) 500
  · rfl
  cases h3 : rIn p.C (-500) 500
  · rfl
  cases h4 : rIn p.D (-500) 500
  · rfl
  have b1 := rIn_B h1; have b2 := rIn_B h2; have b3 := rIn_B h3; have b4 := rIn_B h4
  have u : ∀ {x}, B 500 x → B 9223372036854775807 x := fun h => h.up (by decide)
  simp only [frk_t, Option.bind_some, Bool.true_and]
  have e1 := sGcd n p.A p.B (u b1) (u b2) (by unfold B at b2; omega)
  have e2 := sGcd n p.C p.D (u b3) (u b4) (by unfold B at b4; omega)
  have g1 : Nat.gcd p.A.natAbs p.B.natAbs ≤ 500 := gcd_500 b1 b2
  have g2 : Nat.gcd p.C.natAbs p.D.natAbs ≤ 500 := gcd_500 b3 b4
  have e3 := sGcd n ((Nat.gcd p.A.natAbs p.B.natAbs : Nat) : Int) ((Nat.gcd p.C.natAbs p.D.natAbs : Nat) : Int) (by unfold B; omega) (by unfold B; omega) (by omega)
  simp only [Int.natAbs_natCast] at e3
  simp only [e1, e2, e3, Option.bind_some, frk_if, bne_iff_ne, ne_eq, beq1]
  by_cases hA : p.A = 0
  · by_cases hB : p.B = 0
    · by_cases hC : p.C = 0
      · simp [hA, hB, hC]
      · simp [hA, hB, hC]
    · simp [hA, hB]
  · simp [hA]
theorem iPlaneOk (n : Nat) (p : Pl) (hn : 502 ≤ n) : Dimpl_PlaneOk n p = some (pOk p) := by
  unfold Dimpl_PlaneOk Dimpl_PlaneOk_0 pOk
  simp only [iCoef, Option.bind_some]
  cases h1 : rIn p.A (-500) 500
  · rfl
  cases h2 : rIn p.B (-500) 500
  · rfl
  cases h3 : rIn p.C (-500) 500
  · rfl
  cases h4 : rIn p.D (-500) 500
  · rfl
  have b1 := rIn_B h1; have b2 := rIn_B h2; have b3 := rIn_B h3; have b4 := rIn_B h4
  have u : ∀ {x}, B 500 x → B 9223372036854775807 x := fun h => h.up (by decide)
  have e := iDiv4 n p.A p.B p.C p.D (u b1) (u b2) (u b3) (u b4) (by unfold B at b1; omega) (by unfold B at b2; omega) (by unfold B at b3; omega) (by unfold B at b4; omega) (by omega)
  simp only [Bool.not_true, frk_f, Option.bind_some, Bool.true_and, e, frk_if, bne_iff_ne, ne_eq, beq1, Nat.gcd_assoc]
  by_cases hA : p.A = 0
  · by_cases hB : p.B = 0
    · by_cases hC : p.C = 0
      · simp [hA, hB, hC]
      · simp [hA, hB, hC]
    · simp [hA, hB]
  · simp [hA]
/-- The other side. -/
def flp (p : Pl) : Pl := ⟨0 - p.A, 0 - p.B, 0 - p.C, 0 - p.D⟩
theorem flp_PB {p : Pl} (h : PB p) : PB (flp p) := ⟨h.1.zsub, h.2.1.zsub, h.2.2.1.zsub, h.2.2.2.zsub⟩
theorem sFlip (p : Pl) (h : PB p) : Dspec_l3Flip p = some (flp p) := by
  unfold Dspec_l3Flip
  rw [w64_B h.1.zsub rfl, w64_B h.2.1.zsub rfl, w64_B h.2.2.1.zsub rfl, w64_B h.2.2.2.zsub rfl]; rfl
theorem iFlip (p : Pl) (h : PB p) : Dimpl_flip p = some (flp p) := by
  unfold Dimpl_flip
  rw [w64_B h.1.zsub rfl, w64_B h.2.1.zsub rfl, w64_B h.2.2.1.zsub rfl, w64_B h.2.2.2.zsub rfl]; rfl
end Evl.T
