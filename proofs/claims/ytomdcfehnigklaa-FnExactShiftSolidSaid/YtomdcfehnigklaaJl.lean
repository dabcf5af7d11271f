/- Texts that belong together, joined. No condition. -/
import Derived.Test.YtomdcfehnigklaaJp
/-! Ese -/
namespace Evl.T
open Go Evl

def vl : List Int → Int
  | [] => 0
  | d :: l => d + 10000 * vl l
def Dg (l : List Int) : Prop := ∀ d ∈ l, 0 ≤ d ∧ d ≤ 9999
theorem Dg.head {d : Int} {l : List Int} (h : Dg (d :: l)) : 0 ≤ d ∧ d ≤ 9999 := h d (by simp)
theorem Dg.tail {d : Int} {l : List Int} (h : Dg (d :: l)) : Dg l := fun x hx => h x (by simp [hx])
theorem Dg.cons {d : Int} {l : List Int} (h1 : 0 ≤ d) (h2 : d ≤ 9999) (h : Dg l) : Dg (d :: l) := by
  intro x hx
  rcases List.mem_cons.1 hx with rfl | hx
  · exact ⟨h1, h2⟩
  · exact h x hx
theorem Dg.nil : Dg [] := fun _ h => absurd h (by simp)
theorem Dg.get {l : List Int} (h : Dg l) {i : Nat} {d : Int} (hd : l[i]? = some d) : 0 ≤ d ∧ d ≤ 9999 := h d (List.mem_of_getElem? hd)
theorem Dg.take {l : List Int} (h : Dg l) (i : Nat) : Dg (l.take i) := fun d hd => h d (List.mem_of_mem_take hd)
theorem Dg.drop {l : List Int} (h : Dg l) (i : Nat) : Dg (l.drop i) := fun d hd => h d (List.mem_of_mem_drop hd)
theorem vl_nn : ∀ {l : List Int}, Dg l → 0 ≤ vl l
  | [], _ => Int.le_refl _
  | d :: l, h => by have := vl_nn h.tail; have := h.head; unfold vl; omega
def dg (v : Nat) : List Int := if v = 0 then [] else ((v % 10000 : Nat) : Int) :: dg (v / 10000)
theorem dg_zero : dg 0 = [] := by rw [dg, if_pos rfl]
theorem dg_pos {v : Nat} (h : 0 < v) : dg v = ((v % 10000 : Nat) : Int) :: dg (v / 10000) := by rw [dg, if_neg (by omega)]
theorem Dg_dg (v : Nat) : Dg (dg v) := by
  induction v using Nat.strongRecOn with
  | ind v ih =>
    by_cases h : v = 0
    · subst h; rw [dg_zero]; exact Dg.nil
    · rw [dg_pos (by omega)]; exact Dg.cons (by omega) (by omega) (ih _ (by omega))
theorem vl_dg (v : Nat) : vl (dg v) = v := by
  induction v using Nat.strongRecOn with
  | ind v ih =>
    by_cases h : v = 0
    · subst h; rw [dg_zero]; rfl
    · rw [dg_pos (by omega)]; unfold vl; rw [ih _ (by omega)]; omega
theorem dg_inj {a b : Nat} (h : dg a = dg b) : a = b := by have := congrArg vl h; rw [vl_dg, vl_dg] at this; omega
theorem dg_len : ∀ (k v : Nat), v < 10000 ^ k → (dg v).length ≤ k
  | 0, v, h => by have : v = 0 := by simpa using h
                  subst this; rw [dg_zero]; exact Nat.le_refl 0
  | k + 1, v, h => by
    by_cases h0 : v = 0
    · subst h0; rw [dg_zero]; simp
    · rw [dg_pos (by omega), List.length_cons]
      have := dg_len k (v / 10000) (by rw [Nat.pow_succ] at h; omega)
      omega
theorem dg_len3 {v : Nat} (h : v < 1000000000000) : (dg v).length ≤ 3 := dg_len 3 v (by simpa using h)
theorem dg_mono {a b : Nat} (h : b ≤ a) : (dg b).length ≤ (dg a).length := by
  induction a using Nat.strongRecOn generalizing b with
  | ind a ih =>
    by_cases h0 : b = 0
    · subst h0; rw [dg_zero]; simp
    · rw [dg_pos (v := b) (by omega), dg_pos (v := a) (by omega), List.length_cons, List.length_cons]
      have := ih (a / 10000) (by omega) (b := b / 10000) (by omega)
      omega
theorem dg_ne {v : Nat} : dg v ≠ [] ↔ 0 < v := by
  constructor
  · intro h
    by_cases h0 : v = 0
    · subst h0; exact absurd dg_zero h
    · omega
  · intro h; rw [dg_pos h]; simp
theorem dg_last (v : Nat) : (dg v).getLast? ≠ some 0 := by
  induction v using Nat.strongRecOn with
  | ind v ih =>
    by_cases h : v = 0
    · subst h; rw [dg_zero]; simp
    · rw [dg_pos (by omega)]
      by_cases h2 : v / 10000 = 0
      · rw [h2, dg_zero]; simp; omega
      · have := ih (v / 10000) (by omega)
        rw [dg_pos (v := v / 10000) (by omega)] at this ⊢
        rw [List.getLast?_cons_cons]; exact this
theorem dg_of : ∀ {l : List Int}, Dg l → l.getLast? ≠ some 0 → l = dg (vl l).toNat ∧ (l ≠ [] → 0 < vl l)
  | [], _, _ => ⟨by show [] = dg 0; rw [dg_zero], fun h => absurd rfl h⟩
  | [d], h, hl => by
    have hd := h.head
    have h0 : d ≠ 0 := by simpa using hl
    have e : vl [d] = d := by simp [vl]
    refine ⟨?_, fun _ => by rw [e]; omega⟩
    rw [e, dg_pos (by omega), show d.toNat / 10000 = 0 by omega, dg_zero]
    congr 1; omega
  | d :: e :: l, h, hl => by
    rw [List.getLast?_cons_cons] at hl
    obtain ⟨h1, h2⟩ := dg_of h.tail hl
    have h2 := h2 (by simp)
    have hd := h.head
    have e1 : vl (d :: e :: l) = d + 10000 * vl (e :: l) := rfl
    refine ⟨?_, fun _ => by omega⟩
    rw [e1, dg_pos (by omega), show (d + 10000 * vl (e :: l)).toNat / 10000 = (vl (e :: l)).toNat by omega, ← h1]
    congr 1; omega
theorem dg_of' {l : List Int} (h : Dg l) (hl : l.getLast? ≠ some 0) {v : Nat} (hv : vl l = v) : l = dg v := by
  have := (dg_of h hl).1; rw [hv] at this; exact this

theorem vl_app : ∀ (a b : List Int), vl (a ++ b) = vl a + 10000 ^ a.length * vl b
  | [], b => by simp [vl]
  | d :: a, b => by
    rw [List.cons_append]; show d + 10000 * vl (a ++ b) = (d + 10000 * vl a) + 10000 ^ (d :: a).length * vl b; rw [vl_app a b, List.length_cons, Int.pow_succ, Int.mul_add]
    have : (10000 : Int) ^ a.length * 10000 * vl b = 10000 * ((10000 : Int) ^ a.length * vl b) := by rw [Int.mul_comm ((10000 : Int) ^ a.length) 10000, Int.mul_assoc]
    omega
theorem vl_lt : ∀ {l : List Int}, Dg l → vl l < 10000 ^ l.length
  | [], _ => by simp [vl]
  | d :: l, h => by
    have := vl_lt h.tail; have := h.head
    unfold vl; rw [List.length_cons, Int.pow_succ]; omega
theorem vl_take_s {l : List Int} {i : Nat} {d : Int} (hd : l[i]? = some d) : vl (l.take (i + 1)) = vl (l.take i) + 10000 ^ i * d := by
  have hi := (List.getElem?_eq_some_iff.1 hd).1
  rw [List.take_add_one, hd, vl_app, List.length_take, Nat.min_eq_left (by omega)]
  simp [vl]
theorem vl_drop_s {l : List Int} {i : Nat} {d : Int} (hd : l[i]? = some d) : vl (l.drop i) = d + 10000 * vl (l.drop (i + 1)) := by
  obtain ⟨hi, he⟩ := List.getElem?_eq_some_iff.1 hd
  rw [List.drop_eq_getElem_cons hi, he]; rfl
theorem vl_drop_le {l : List Int} (h : Dg l) : ∀ (i : Nat), vl (l.drop i) ≤ vl l := by
  intro i
  induction i generalizing l with
  | zero => exact Int.le_refl _
  | succ i ih =>
    cases l with
    | nil => exact Int.le_refl _
    | cons d l =>
      have := ih h.tail; have := h.head; have := vl_nn h.tail
      rw [List.drop_succ_cons]
      have e : vl (d :: l) = d + 10000 * vl l := rfl
      omega

theorem apB8 {n : Nat} (h : n ≤ 1000000) : apB 8 n = true := by
  simp only [apB, Bool.and_eq_true, decide_eq_true_eq]; omega
theorem w64_prd {i : Nat} (h : i ≤ 1000000) : w64 (((i + 1 : Nat) : Int) - 1) = (i : Int) := by
  rw [w64_id (by omega) (by omega)]; omega
theorem dec_t {p : Prop} [Decidable p] (h : p) : decide p = true := by simp [h]
theorem dec_f {p : Prop} [Decidable p] (h : ¬ p) : decide p = false := by simp [h]

/-! l1Num -/
theorem numStep (n : Nat) (t0 : Bool) (t1 : List Int) (b : Bool) (rec0 : Int → Option Num) (a : Int) :
    Dspec_l1Num_2 n t0 t1 b rec0 a = frk (decide (a > 0)) ((lget t1 (w64 (a - 1))).bind fun v0 => frk (v0 == 0) (rec0 (w64 (a - 1))) (Dspec_l1Num_1 n t0 t1 a b)) (Dspec_l1Num_1 n t0 t1 a b) := rfl
theorem numEnd (n : Nat) (t0 : Bool) (l : List Int) (i : Nat) (b : Bool) (hi : i ≤ l.length) (hl : l.length ≤ 1000) :
    Dspec_l1Num_1 n t0 l (i : Int) b = some ⟨t0 && decide (0 < i), l.take i⟩ := by
  unfold Dspec_l1Num_1
  have hc : apB 8 (0 + (l.take i).length) = true := apB8 (by rw [List.length_take]; omega)
  rw [lsl_take _ _ hi]
  simp only [Option.bind_some]
  rw [chk_eq hc, chk_eq hc]
  cases t0
  · rw [frk_f]; rfl
  · rw [frk_t]
    have : decide ((i : Int) > 0) = decide (0 < i) := dec_iff (by omega)
    rw [this]; simp
theorem numLoop (n : Nat) (t0 b : Bool) (l : List Int) (hD : Dg l) (hl : l.length ≤ 1000) {v : Nat} (hv : vl l = v) : ∀ (i m : Nat), i ≤ l.length → vl (l.take i) = v → i < m →
    loopN (Dspec_l1Num_2 n t0 l b) m (i : Int) = some ⟨t0 && decide (0 < v), dg v⟩ := by
  intro i
  induction i with
  | zero =>
    intro m _ h0 hm
    obtain ⟨m, rfl⟩ : ∃ j, m = j + 1 := ⟨m - 1, by omega⟩
    have : v = 0 := by simp [vl] at h0; omega
    subst this
    rw [loop_suc, numStep, dec_f (by simp), frk_f, numEnd n t0 l 0 b (by omega) hl, dg_zero]
    rfl
  | succ i ih =>
    intro m hi h0 hm
    obtain ⟨m, rfl⟩ : ∃ j, m = j + 1 := ⟨m - 1, by omega⟩
    obtain ⟨d, hd⟩ : ∃ d, l[i]? = some d := ⟨l[i], List.getElem?_eq_getElem (by omega)⟩
    rw [loop_suc, numStep, dec_t (by omega), frk_t, w64_prd (by omega), lget_nat, hd, Option.bind_some]
    by_cases h : d = 0
    · subst h
      rw [show ((0 : Int) == 0) = true from rfl, frk_t]
      refine ih m (by omega) ?_ (by omega)
      rw [vl_take_s hd] at h0; omega
    · rw [show (d == 0) = false by simpa using h, frk_f, numEnd n t0 l (i + 1) b hi hl]
      have hlast : (l.take (i + 1)).getLast? ≠ some 0 := by
        rw [List.take_add_one, hd]; simpa using h
      have e := dg_of' (hD.take (i + 1)) hlast h0
      have hp := (dg_of (hD.take (i + 1)) hlast).2 (by rw [List.take_add_one, hd]; simp)
      rw [← e]
      have : decide (0 < i + 1) = decide (0 < v) := dec_iff ⟨fun _ => by omega, fun _ => by omega⟩
      rw [this]
theorem numOk (n : Nat) (t0 : Bool) (l : List Int) (hD : Dg l) (hl : l.length ≤ 1000) {v : Nat} (hv : vl l = v) (hn : l.length < n) : Dspec_l1Num n t0 l = some ⟨t0 && decide (0 < v), dg v⟩ := by
  unfold Dspec_l1Num
  exact numLoop n t0 false l hD hl hv l.length n (Nat.le_refl _) (by rw [List.take_length]; exact hv) hn

/-! Of -/
theorem ofStep (n : Nat) (t0 : Int) (b : Bool) (rec0 : (Int × List Int) → Option Num) (t3 : Int) (l : List Int) :
    Dspec_Of_2 n t0 b rec0 (t3, l) = frk (decide (t3 > 0)) (chk (apB 8 (l.length + 1)) (rec0 (IntKind.u64.wrap (Int.tdiv t3 10000), (l ++ [w64 (Int.tmod t3 10000)])))) (Dspec_Of_1 n t0 b l) := rfl
theorem u64w {x : Int} (h : 0 ≤ x) (h2 : x < 18446744073709551616) : IntKind.u64.wrap x = x := by
  have : IntKind.u64.wrap x = x % 18446744073709551616 := rfl
  omega
theorem ofLoop (n : Nat) (t0 : Int) (b : Bool) : ∀ (v : Nat) (l : List Int) (m : Nat), v < 18446744073709551616 → l.length + (dg v).length ≤ 1000 → (dg v).length < m →
    loopN (Dspec_Of_2 n t0 b) m ((v : Int), l) = Dspec_Of_1 n t0 b (l ++ dg v) := by
  intro v
  induction v using Nat.strongRecOn with
  | ind v ih =>
    intro l m h0 h1 hm
    obtain ⟨m, rfl⟩ : ∃ j, m = j + 1 := ⟨m - 1, by omega⟩
    rw [loop_suc, ofStep]
    by_cases h : v = 0
    · subst h; rw [dec_f (by simp), frk_f, dg_zero, List.append_nil]
    · rw [dec_t (by omega), frk_t]
      rw [dg_pos (by omega)] at h1 hm ⊢
      rw [List.length_cons] at h1 hm
      rw [chk_eq (apB8 (by omega))]
      have e1 : IntKind.u64.wrap (Int.tdiv (v : Int) 10000) = ((v / 10000 : Nat) : Int) := by
        rw [Int.tdiv_eq_ediv_of_nonneg (by omega), u64w (by omega) (by omega)]; omega
      have e2 : w64 (Int.tmod (v : Int) 10000) = ((v % 10000 : Nat) : Int) := by
        rw [Int.tmod_eq_emod_of_nonneg (by omega), w64_id (by omega) (by omega)]; omega
      rw [e1, e2, ih (v / 10000) (by omega) _ m (by omega) (by rw [List.length_append, List.length_singleton]; omega) (by omega), List.append_assoc]
      rfl
theorem ofOk (n : Nat) (x : Int) (h : x.natAbs < 1000000000000) (hn : 5 ≤ n) : Dspec_Of n x = some ⟨decide (x < 0), dg x.natAbs⟩ := by
  have hl := dg_len3 h
  have key : ∀ b, Dspec_Of_0 n x (x.natAbs : Int) b [] = some ⟨decide (x < 0), dg x.natAbs⟩ := by
    intro b
    unfold Dspec_Of_0
    rw [ofLoop n x b x.natAbs [] n (by omega) (by simp; omega) (by omega), List.nil_append]
    unfold Dspec_Of_1
    rw [numOk n _ _ (Dg_dg _) (by omega) (vl_dg _) (by omega), Option.bind_some]
    by_cases hx : x < 0
    · simp [hx]; omega
    · simp [hx]
  unfold Dspec_Of
  by_cases hx : x < 0
  · rw [dec_t hx, frk_t]
    have e : IntKind.u64.wrap ((IntKind.u64.wrap (w64 (0 - (w64 (x + 1))))) + 1) = (x.natAbs : Int) := by
      rw [w64_id (x := x + 1) (by omega) (by omega), w64_id (by omega) (by omega), u64w (x := 0 - (x + 1)) (by omega) (by omega), u64w (by omega) (by omega)]; omega
    rw [e, key]; rw [dec_t hx]
  · rw [dec_f hx, frk_f]
    have e : IntKind.u64.wrap x = (x.natAbs : Int) := by rw [u64w (by omega) (by omega)]; omega
    rw [e, key]; rw [dec_f hx]

/-! NumOk -/
theorem nokStep (n : Nat) (t3 : Int) (g : Bool) (l : List Int) (rec0 : Int → Option Bool) (a : Int) :
    Dspec_NumOk_2 n t3 g l rec0 a = frk (decide (a < t3)) (frk (decide (a ≤ 120)) ((lget l a).bind fun v0 => (Dspec_l1In v0 0 9999).bind fun v1 => frk (!v1) (some false) (rec0 (w64 (a + 1)))) (Dspec_NumOk_1 n t3 g l)) (Dspec_NumOk_1 n t3 g l) := rfl
theorem nokEnd (n : Nat) (g : Bool) (v : Nat) (hl : (dg v).length ≤ 100) (hg : g = true → 0 < v) : Dspec_NumOk_1 n ((dg v).length : Int) g (dg v) = some true := by
  unfold Dspec_NumOk_1
  rw [dec_t (by omega), frk_t]
  by_cases h : v = 0
  · subst h
    rw [dg_zero]
    have : g = false := by cases g with
      | false => rfl
      | true => have := hg rfl; omega
    subst this; rfl
  · have hp := List.length_pos_iff.2 (dg_ne.2 (show 0 < v by omega))
    obtain ⟨k, hk⟩ : ∃ k, (dg v).length = k + 1 := ⟨(dg v).length - 1, by omega⟩
    have hla := dg_last v
    rw [List.getLast?_eq_getElem?, hk] at hla
    obtain ⟨d, hd⟩ : ∃ d, (dg v)[k]? = some d := ⟨(dg v)[k], List.getElem?_eq_getElem (by omega)⟩
    rw [Nat.add_sub_cancel, hd] at hla
    have hd0 : d ≠ 0 := by simpa using hla
    rw [hk, show (((k + 1 : Nat) : Int) == 0) = false by simp; omega, frk_f, dec_t (by omega), frk_t, w64_prd (by omega), lget_nat, hd, Option.bind_some]
    simpa using hd0
theorem nokLoop (n : Nat) (g : Bool) (v : Nat) (hl : (dg v).length ≤ 100) (hg : g = true → 0 < v) : ∀ (k i m : Nat), i + k = (dg v).length → k < m →
    loopN (Dspec_NumOk_2 n ((dg v).length : Int) g (dg v)) m (i : Int) = some true := by
  intro k
  induction k with
  | zero =>
    intro i m h0 hm
    obtain ⟨m, rfl⟩ : ∃ j, m = j + 1 := ⟨m - 1, by omega⟩
    rw [loop_suc, nokStep, dec_f (by omega), frk_f, nokEnd n g v hl hg]
  | succ k ih =>
    intro i m h0 hm
    obtain ⟨m, rfl⟩ : ∃ j, m = j + 1 := ⟨m - 1, by omega⟩
    obtain ⟨d, hd⟩ : ∃ d, (dg v)[i]? = some d := ⟨(dg v)[i], List.getElem?_eq_getElem (by omega)⟩
    have := (Dg_dg v).get hd
    rw [loop_suc, nokStep, dec_t (by omega), frk_t, dec_t (by omega), frk_t, lget_nat, hd, Option.bind_some, sIn, Option.bind_some, rIn_iff.2 this, Bool.not_true, frk_f, w64_suc (by unfold big; omega)]
    exact ih (i + 1) m (by omega) (by omega)
theorem nokOk (n : Nat) (g : Bool) (v : Nat) (hv : v < 1000000000000) (hg : g = true → 0 < v) (hn : 5 ≤ n) : Dspec_NumOk n ⟨g, dg v⟩ = some true := by
  have hl := dg_len3 hv
  unfold Dspec_NumOk
  exact nokLoop n g v (by omega) hg (dg v).length 0 n (by omega) (by omega)
theorem magOk (n : Nat) (g : Bool) (v : Nat) (hv : v < 1000000000000) (hg : g = true → 0 < v) (hn : 5 ≤ n) : Dspec_l1Mag n ⟨g, dg v⟩ = some (dg v) := by
  unfold Dspec_l1Mag; rw [nokOk n g v hv hg hn]; rfl
theorem signOk (n : Nat) (g : Bool) (v : Nat) (hv : v < 1000000000000) (hg : g = true → 0 < v) (hn : 5 ≤ n) : Dspec_l1Sign n ⟨g, dg v⟩ = some g := by
  unfold Dspec_l1Sign; rw [nokOk n g v hv hg hn]; rfl
end Evl.T

/-! Esf -/
namespace Evl.T
open Go Evl

/-! l1CmpMag -/
theorem cmpStep (n : Nat) (a b : List Int) (rec0 : Int → Option Int) (i : Int) :
    Dspec_l1CmpMag_0 n a b rec0 i = frk (decide (i ≥ 0)) ((lget a i).bind fun v0 => (lget b i).bind fun v1 => frk (v0 != v1) ((lget a i).bind fun v2 => (lget b i).bind fun v3 => frk (decide (v2 < v3)) (some (-1)) (some 1)) (rec0 (w64 (i - 1)))) (some 0) := rfl
theorem pow_step {x y P : Int} (hP : 0 ≤ P) (h : x < y) : P * x + P ≤ P * y := by
  have : P * (x + 1) ≤ P * y := Int.mul_le_mul_of_nonneg_left (by omega) hP
  rw [Int.mul_add, Int.mul_one] at this; exact this
theorem cmpLoop (n : Nat) {a b : List Int} (ha : Dg a) (hb : Dg b) (hl : a.length = b.length) (hl2 : a.length ≤ 1000) : ∀ (i m : Nat), i ≤ a.length → i < m →
    ∃ r, loopN (Dspec_l1CmpMag_0 n a b) m ((i : Int) - 1) = some r ∧ (r ≥ 0 ↔ vl (b.take i) ≤ vl (a.take i)) := by
  intro i
  induction i with
  | zero =>
    intro m _ hm
    obtain ⟨m, rfl⟩ : ∃ j, m = j + 1 := ⟨m - 1, by omega⟩
    refine ⟨0, ?_, by simp [vl]⟩
    rw [loop_suc, cmpStep, dec_f (by omega), frk_f]
  | succ i ih =>
    intro m hi hm
    obtain ⟨m, rfl⟩ : ∃ j, m = j + 1 := ⟨m - 1, by omega⟩
    obtain ⟨x, hx⟩ : ∃ d, a[i]? = some d := ⟨a[i], List.getElem?_eq_getElem (by omega)⟩
    obtain ⟨y, hy⟩ : ∃ d, b[i]? = some d := ⟨b[i], List.getElem?_eq_getElem (by omega)⟩
    have e : ((i + 1 : Nat) : Int) - 1 = (i : Int) := by omega
    rw [loop_suc, cmpStep, e, dec_t (by omega), frk_t, lget_nat, lget_nat, hx, hy, Option.bind_some, Option.bind_some]
    simp only [Option.bind_some]
    have p1 := vl_lt (ha.take i)
    have p2 := vl_lt (hb.take i)
    rw [List.length_take, Nat.min_eq_left (by omega)] at p1 p2
    have q1 := vl_nn (ha.take i)
    have q2 := vl_nn (hb.take i)
    have hP : (0 : Int) ≤ 10000 ^ i := Int.pow_nonneg (by omega)
    rw [vl_take_s hx, vl_take_s hy]
    by_cases h : x = y
    · subst h
      rw [show (x != x) = false by simp, frk_f, w64_id (by omega) (by omega)]
      obtain ⟨r, h1, h2⟩ := ih m (by omega) (by omega)
      exact ⟨r, h1, h2.trans (by omega)⟩
    · rw [show (x != y) = true by simpa using h, frk_t]
      by_cases h2 : x < y
      · refine ⟨-1, by rw [dec_t h2, frk_t], ?_⟩
        have := pow_step hP h2
        omega
      · refine ⟨1, by rw [dec_f h2, frk_f], ?_⟩
        have := pow_step hP (show y < x by omega)
        omega
theorem cmpOk (n : Nat) (a b : Nat) (hl : (dg a).length ≤ 100) (hl2 : (dg b).length ≤ 100) (hn : 101 ≤ n) : ∃ r, Dspec_l1CmpMag n (dg a) (dg b) = some r ∧ (r ≥ 0 ↔ b ≤ a) := by
  unfold Dspec_l1CmpMag
  by_cases h : (dg a).length = (dg b).length
  · rw [show (((dg a).length : Int) != ((dg b).length : Int)) = false by rw [h]; simp, frk_f, w64_id (by omega) (by omega)]
    obtain ⟨r, h1, h2⟩ := cmpLoop n (Dg_dg a) (Dg_dg b) h (by omega) (dg a).length n (Nat.le_refl _) (by omega)
    refine ⟨r, h1, h2.trans ?_⟩
    rw [List.take_length, h, List.take_length, vl_dg, vl_dg]; omega
  · rw [show (((dg a).length : Int) != ((dg b).length : Int)) = true by simpa using by omega, frk_t]
    by_cases h2 : (dg a).length < (dg b).length
    · refine ⟨-1, by rw [dec_t (by omega), frk_t], ?_⟩
      constructor
      · intro h; omega
      · intro h; have := dg_mono h; omega
    · refine ⟨1, by rw [dec_f (by omega), frk_f], ?_⟩
      constructor
      · intro _
        by_cases hh : b ≤ a
        · exact hh
        · have := dg_mono (show a ≤ b by omega); omega
      · intro _; omega

/-! l1Guess -/
theorem guessStep1 (n : Nat) (a b : List Int) (rec0 : Int × Int → Option Int) (t5 t6 : Int) :
    Dspec_l1Guess_6 n a b rec0 (t5, t6) = frk (decide (t6 ≥ 0)) (frk (decide (t6 ≥ (w64 ((b.length : Int) - 3)))) ((lget a t6).bind fun v0 => rec0 (w64 ((w64 (t5 * 10000)) + v0), w64 (t6 - 1))) (Dspec_l1Guess_1 n b t5 0 (w64 ((b.length : Int) - 1)))) (Dspec_l1Guess_1 n b t5 0 (w64 ((b.length : Int) - 1))) := rfl
theorem guessStep2 (n : Nat) (b : List Int) (t5 : Int) (rec1 : Int × Int → Option Int) (t7 t8 : Int) :
    Dspec_l1Guess_5 n b t5 rec1 (t7, t8) = frk (decide (t8 ≥ 0)) (frk (decide (t8 ≥ (w64 ((b.length : Int) - 3)))) ((lget b t8).bind fun v1 => rec1 (w64 ((w64 (t7 * 10000)) + v1), w64 (t8 - 1))) (Dspec_l1Guess_3 n t5 t7 (decide ((b.length : Int) > 3)))) (Dspec_l1Guess_3 n t5 t7 (decide ((b.length : Int) > 3))) := rfl
theorem vl_small {a : List Int} (ha : Dg a) (hl : a.length ≤ 3) : vl a < 1000000000000 := by
  have h := vl_lt ha
  have : a.length = 0 ∨ a.length = 1 ∨ a.length = 2 ∨ a.length = 3 := by omega
  rcases this with e | e | e | e <;> rw [e] at h <;> omega
theorem guessL1 (n : Nat) {a b : List Int} (ha : Dg a) (hl : a.length ≤ 3) (hlb : b.length ≤ 3) : ∀ (i m : Nat), i ≤ a.length → i < m →
    loopN (Dspec_l1Guess_6 n a b) m (vl (a.drop i), (i : Int) - 1) = Dspec_l1Guess_1 n b (vl a) 0 (w64 ((b.length : Int) - 1)) := by
  intro i
  induction i with
  | zero =>
    intro m _ hm
    obtain ⟨m, rfl⟩ : ∃ j, m = j + 1 := ⟨m - 1, by omega⟩
    rw [loop_suc, guessStep1, dec_f (by omega), frk_f]; rfl
  | succ i ih =>
    intro m hi hm
    obtain ⟨m, rfl⟩ : ∃ j, m = j + 1 := ⟨m - 1, by omega⟩
    obtain ⟨x, hx⟩ : ∃ d, a[i]? = some d := ⟨a[i], List.getElem?_eq_getElem (by omega)⟩
    have e : ((i + 1 : Nat) : Int) - 1 = (i : Int) := by omega
    have b1 := vl_small ha hl
    have b2 := vl_drop_le ha i
    have b3 := vl_nn (ha.drop i)
    have b4 := vl_nn (ha.drop (i + 1))
    have b5 := ha.get hx
    have e2 := vl_drop_s hx
    rw [loop_suc, guessStep1, e, dec_t (by omega), frk_t, dec_t (by rw [w64_id (by omega) (by omega)]; omega), frk_t, lget_nat, hx, Option.bind_some]
    rw [w64_id (x := vl (a.drop (i + 1)) * 10000) (by omega) (by omega), show vl (a.drop (i + 1)) * 10000 + x = vl (a.drop i) by omega, w64_id (x := vl (a.drop i)) (by omega) (by omega), w64_id (x := (i : Int) - 1) (by omega) (by omega)]
    exact ih m (by omega) (by omega)
theorem guessL2 (n : Nat) {b : List Int} (ha : Dg b) (hl : b.length ≤ 3) (t5 : Int) : ∀ (i m : Nat), i ≤ b.length → i < m →
    loopN (Dspec_l1Guess_5 n b t5) m (vl (b.drop i), (i : Int) - 1) = Dspec_l1Guess_3 n t5 (vl b) false := by
  intro i
  induction i with
  | zero =>
    intro m _ hm
    obtain ⟨m, rfl⟩ : ∃ j, m = j + 1 := ⟨m - 1, by omega⟩
    rw [loop_suc, guessStep2, dec_f (by omega), frk_f, dec_f (by omega)]; rfl
  | succ i ih =>
    intro m hi hm
    obtain ⟨m, rfl⟩ : ∃ j, m = j + 1 := ⟨m - 1, by omega⟩
    obtain ⟨x, hx⟩ : ∃ d, b[i]? = some d := ⟨b[i], List.getElem?_eq_getElem (by omega)⟩
    have e : ((i + 1 : Nat) : Int) - 1 = (i : Int) := by omega
    have b1 := vl_small ha hl
    have b2 := vl_drop_le ha i
    have b3 := vl_nn (ha.drop i)
    have b4 := vl_nn (ha.drop (i + 1))
    have b5 := ha.get hx
    have e2 := vl_drop_s hx
    rw [loop_suc, guessStep2, e, dec_t (by omega), frk_t, dec_t (by rw [w64_id (by omega) (by omega)]; omega), frk_t, lget_nat, hx, Option.bind_some]
    rw [w64_id (x := vl (b.drop (i + 1)) * 10000) (by omega) (by omega), show vl (b.drop (i + 1)) * 10000 + x = vl (b.drop i) by omega, w64_id (x := vl (b.drop i)) (by omega) (by omega), w64_id (x := (i : Int) - 1) (by omega) (by omega)]
    exact ih m (by omega) (by omega)
theorem guessOk (n a b : Nat) (ha : a < 1000000000000) (hb : 0 < b) (hab : b ≤ a) (hn : 5 ≤ n) : Dspec_l1Guess n (dg a) (dg b) = some ((a / b : Nat) : Int) := by
  have l1 := dg_len3 ha
  have l2 := dg_len3 (show b < 1000000000000 by omega)
  unfold Dspec_l1Guess
  rw [w64_id (by omega) (by omega)]
  have e1 := guessL1 n (b := dg b) (Dg_dg a) l1 l2 (dg a).length n (Nat.le_refl _) (by omega)
  rw [List.drop_length] at e1
  have e1' : loopN (Dspec_l1Guess_6 n (dg a) (dg b)) n ((0 : Int), ((dg a).length : Int) - 1) = _ := e1
  rw [e1']
  unfold Dspec_l1Guess_1
  rw [w64_id (by omega) (by omega)]
  have e2 := guessL2 n (Dg_dg b) l2 (vl (dg a)) (dg b).length n (Nat.le_refl _) (by omega)
  rw [List.drop_length] at e2
  have e2' : loopN (Dspec_l1Guess_5 n (dg b) (vl (dg a))) n ((0 : Int), ((dg b).length : Int) - 1) = _ := e2
  rw [e2', vl_dg, vl_dg]
  unfold Dspec_l1Guess_3 Dspec_l1Guess_4
  rw [frk_f]
  have hq : 0 < a / b := Nat.div_pos hab hb
  have hq2 : a / b ≤ a := Nat.div_le_self a b
  have e3 : qt .i64 (a : Int) (b : Int) = some ((a / b : Nat) : Int) := by
    unfold qt
    rw [if_neg (by omega), Int.tdiv_eq_ediv_of_nonneg (by omega)]
    have : IntKind.i64.wrap ((a : Int) / (b : Int)) = ((a / b : Nat) : Int) := by
      have e : (a : Int) / (b : Int) = ((a / b : Nat) : Int) := by simp
      rw [e]; exact w64_id (by omega) (by omega)
    rw [this]
  rw [e3]
  simp only [Option.bind_some]
  rw [dec_t (by omega), frk_t]

/-! l1SubMag -/
def subR : List Int → List Int → Int → List Int
  | [], _, _ => []
  | x :: xs, ys, c => if x - c - ys.headD 0 < 0 then (x - c - ys.headD 0 + 10000) :: subR xs ys.tail 1 else (x - c - ys.headD 0) :: subR xs ys.tail 0
theorem hd_ok {ys : List Int} (h : Dg ys) : 0 ≤ ys.headD 0 ∧ ys.headD 0 ≤ 9999 := by
  cases ys with
  | nil => simp
  | cons y ys => exact h.head
theorem tl_ok {ys : List Int} (h : Dg ys) : Dg ys.tail := by
  cases ys with
  | nil => exact Dg.nil
  | cons y ys => exact h.tail
theorem vl_hd (ys : List Int) : vl ys = ys.headD 0 + 10000 * vl ys.tail := by
  cases ys with
  | nil => rfl
  | cons y ys => rfl
theorem subR_Dg : ∀ (xs ys : List Int) (c : Int), Dg xs → Dg ys → 0 ≤ c → c ≤ 1 → Dg (subR xs ys c)
  | [], _, _, _, _, _, _ => Dg.nil
  | x :: xs, ys, c, h1, h2, h3, h4 => by
    have := h1.head; have := hd_ok h2
    unfold subR
    split
    · exact Dg.cons (by omega) (by omega) (subR_Dg xs ys.tail 1 h1.tail (tl_ok h2) (by omega) (by omega))
    · exact Dg.cons (by omega) (by omega) (subR_Dg xs ys.tail 0 h1.tail (tl_ok h2) (by omega) (by omega))
theorem subR_vl : ∀ (xs ys : List Int) (c : Int), Dg xs → Dg ys → 0 ≤ c → c ≤ 1 → vl ys + c ≤ vl xs → vl (subR xs ys c) = vl xs - vl ys - c
  | [], ys, c, _, h2, h3, _, h5 => by
    have := vl_nn h2
    have e : vl [] = 0 := rfl
    show vl [] = _
    omega
  | x :: xs, ys, c, h1, h2, h3, h4, h5 => by
    have := h1.head; have := hd_ok h2
    have e1 := vl_hd ys
    have e2 : vl (x :: xs) = x + 10000 * vl xs := rfl
    unfold subR
    split
    · have := subR_vl xs ys.tail 1 h1.tail (tl_ok h2) (by omega) (by omega) (by omega)
      show x - c - ys.headD 0 + 10000 + 10000 * vl (subR xs ys.tail 1) = _
      omega
    · have := subR_vl xs ys.tail 0 h1.tail (tl_ok h2) (by omega) (by omega) (by omega)
      show x - c - ys.headD 0 + 10000 * vl (subR xs ys.tail 0) = _
      omega
theorem subR_len : ∀ (xs ys : List Int) (c : Int), (subR xs ys c).length = xs.length
  | [], _, _ => rfl
  | x :: xs, ys, c => by
    unfold subR
    split
    · rw [List.length_cons, List.length_cons, subR_len]
    · rw [List.length_cons, List.length_cons, subR_len]
theorem subStep (n : Nat) (a b : List Int) (rec0 : Int × Int × List Int → Option (List Int)) (t6 t7 : Int) (l : List Int) :
    Dspec_l1SubMag_2 n a b rec0 (t6, t7, l) = frk (decide (t7 < (a.length : Int))) ((lget a t7).bind fun v0 => frk (decide (t7 < (b.length : Int))) ((lget b t7).bind fun v1 => Dspec_l1SubMag_0 n rec0 a b 0 t7 (w64 ((w64 (v0 - t6)) - v1)) (decide ((w64 ((w64 (v0 - t6)) - v1)) < 0)) l) (Dspec_l1SubMag_0 n rec0 a b 0 t7 (w64 (v0 - t6)) (decide ((w64 (v0 - t6)) < 0)) l)) (some l) := rfl
theorem subMid (n : Nat) (a b : List Int) (rec0 : Int × Int × List Int → Option (List Int)) (t : Int) (i : Nat) (l : List Int) (ht : -20000 ≤ t) (ht2 : t ≤ 20000) (hl : l.length ≤ 1000) (hi : i ≤ 1000) :
    Dspec_l1SubMag_0 n rec0 a b 0 (i : Int) t (decide (t < 0)) l = if t < 0 then rec0 (1, ((i + 1 : Nat) : Int), l ++ [t + 10000]) else rec0 (0, ((i + 1 : Nat) : Int), l ++ [t]) := by
  unfold Dspec_l1SubMag_0 Dspec_l1SubMag_1
  rw [chk_eq (apB8 (by omega)), chk_eq (apB8 (by omega)), w64_suc (by unfold big; omega), w64_id (x := t + 10000) (by omega) (by omega), frk_if]
  by_cases h : t < 0
  · rw [if_pos h, dec_t h, if_pos rfl]
  · rw [if_neg h, dec_f h, if_neg (by decide)]
theorem subLoop (n : Nat) {a b : List Int} (ha : Dg a) (hb : Dg b) (hl : a.length ≤ 100) : ∀ (k i m : Nat) (c : Int) (l : List Int), i + k = a.length → k < m → 0 ≤ c → c ≤ 1 → l.length = i →
    loopN (Dspec_l1SubMag_2 n a b) m (c, (i : Int), l) = some (l ++ subR (a.drop i) (b.drop i) c) := by
  intro k
  induction k with
  | zero =>
    intro i m c l h0 hm _ _ _
    obtain ⟨m, rfl⟩ : ∃ j, m = j + 1 := ⟨m - 1, by omega⟩
    rw [loop_suc, subStep, dec_f (by omega), frk_f, show a.drop i = [] from List.drop_eq_nil_of_le (by omega)]
    show some l = some (l ++ [])
    rw [List.append_nil]
  | succ k ih =>
    intro i m c l h0 hm hc hc2 hll
    obtain ⟨m, rfl⟩ : ∃ j, m = j + 1 := ⟨m - 1, by omega⟩
    obtain ⟨x, hx⟩ : ∃ d, a[i]? = some d := ⟨a[i], List.getElem?_eq_getElem (by omega)⟩
    obtain ⟨hi, he⟩ := List.getElem?_eq_some_iff.1 hx
    have hxd := ha.get hx
    have fin : ∀ y : Int, y = (b.drop i).headD 0 → Dspec_l1SubMag_0 n (loopN (Dspec_l1SubMag_2 n a b) m) a b 0 (i : Int) (x - c - y) (decide (x - c - y < 0)) l = some (l ++ subR (a.drop i) (b.drop i) c) := by
      intro y hy
      have hyd := hd_ok (hb.drop i)
      rw [← hy] at hyd
      rw [subMid n a b _ (x - c - y) i l (by omega) (by omega) (by omega) (by omega), List.drop_eq_getElem_cons hi, he]
      unfold subR
      rw [← hy, List.tail_drop]
      by_cases h : x - c - y < 0
      · rw [if_pos h, if_pos h, ih (i + 1) m 1 _ (by omega) (by omega) (by omega) (by omega) (by simp [hll]), List.append_assoc]; rfl
      · rw [if_neg h, if_neg h, ih (i + 1) m 0 _ (by omega) (by omega) (by omega) (by omega) (by simp [hll]), List.append_assoc]; rfl
    rw [loop_suc, subStep, dec_t (by omega), frk_t, lget_nat, hx, Option.bind_some]
    by_cases hb2 : i < b.length
    · obtain ⟨y, hy⟩ : ∃ d, b[i]? = some d := ⟨b[i], List.getElem?_eq_getElem hb2⟩
      have hyd := hb.get hy
      rw [dec_t (by omega), frk_t, lget_nat, hy, Option.bind_some, w64_id (x := x - c) (by omega) (by omega), w64_id (by omega) (by omega)]
      refine fin y ?_
      rw [List.drop_eq_getElem_cons hb2]
      have := (List.getElem?_eq_some_iff.1 hy).2
      rw [this]; rfl
    · rw [dec_f (by omega), frk_f, w64_id (x := x - c) (by omega) (by omega)]
      have := fin 0 (by rw [show b.drop i = [] from List.drop_eq_nil_of_le (by omega)]; rfl)
      rw [show x - c - 0 = x - c by omega] at this
      exact this
theorem subOk (n : Nat) {a b : List Int} (ha : Dg a) (hb : Dg b) (hl : a.length ≤ 100) (hv : vl b ≤ vl a) (hn : 101 ≤ n) : ∃ r, Dspec_l1SubMag n a b = some r ∧ Dg r ∧ vl r = vl a - vl b ∧ r.length = a.length := by
  refine ⟨subR a b 0, ?_, subR_Dg a b 0 ha hb (by omega) (by omega), ?_, subR_len a b 0⟩
  · unfold Dspec_l1SubMag
    exact subLoop n ha hb hl a.length 0 n 0 [] (by omega) (by omega) (by omega) (by omega) rfl
  · have := subR_vl a b 0 ha hb (by omega) (by omega) (by omega); omega

/-! l1MulMag by a number of two digits -/
theorem mulStep1 (n : Nat) (rec0 : (Int × List Int) → Option (List Int)) (t0 t1 : List Int) (t6 : Int) (rec1 : (Int × Int × List Int) → Option (List Int)) (t7 t8 : Int) (l15 : List Int) :
    Dspec_l1MulMag_1 n rec0 t0 t1 t6 rec1 (t7, t8, l15) = frk (decide (t8 < (t1.length : Int))) ((lget t0 t6).bind fun v1 => (lget t1 t8).bind fun v2 => (lget l15 (w64 (t6 + t8))).bind fun v3 => (lget l15 (w64 (t6 + t8))).bind fun _v4 => rec1 (w64 (Int.tdiv (w64 ((w64 ((w64 (v1 * v2)) + v3)) + t7)) 10000), w64 (t8 + 1), (l15.set (Int.toNat (w64 (t6 + t8))) (Int.tmod (w64 ((w64 ((w64 (v1 * v2)) + v3)) + t7)) 10000)))) (Dspec_l1MulMag_0 n rec0 t0 t1 t6 t7 l15) := rfl
theorem mulStep2 (n : Nat) (t0 t1 : List Int) (rec0 : (Int × List Int) → Option (List Int)) (t6 : Int) (l15 : List Int) :
    Dspec_l1MulMag_2 n t0 t1 rec0 (t6, l15) = frk (decide (t6 < (t0.length : Int))) (loopN (Dspec_l1MulMag_1 n rec0 t0 t1 t6) n (0, 0, l15)) (some l15) := rfl
theorem get_pre {α : Type} (p : List α) (k : Nat) (z : List α) : (p ++ z)[p.length + k]? = z[k]? := by
  rw [List.getElem?_append_right (by omega)]; congr 1; omega
theorem set_pre {α : Type} (p : List α) (k : Nat) (z : List α) (x : α) : (p ++ z).set (p.length + k) x = p ++ z.set k x := by
  rw [List.set_append_right _ _ (by omega)]; congr 2; omega
theorem mul_nn {x y : Int} (hx : 0 ≤ x ∧ x ≤ 9999) (hy : 0 ≤ y ∧ y ≤ 9999) : 0 ≤ x * y ∧ x * y ≤ 99980001 := by
  refine ⟨Int.mul_nonneg hx.1 hy.1, ?_⟩
  have h1 : x * y ≤ 9999 * y := Int.mul_le_mul_of_nonneg_right hx.2 hy.1
  omega
theorem mulCell (n : Nat) (rec0 : (Int × List Int) → Option (List Int)) (xs ys : List Int) (rec1 : (Int × Int × List Int) → Option (List Int)) (c : Int) (j : Nat) (p zs : List Int) {x y z : Int}
    (hx : xs[p.length]? = some x) (hy : ys[j]? = some y) (hz : zs[j]? = some z) (hp : p.length ≤ 1000) (hj : j ≤ 1000)
    (bx : 0 ≤ x ∧ x ≤ 9999) (by' : 0 ≤ y ∧ y ≤ 9999) (bz : 0 ≤ z ∧ z ≤ 9999) (bc : 0 ≤ c ∧ c ≤ 9999) :
    Dspec_l1MulMag_1 n rec0 xs ys (p.length : Int) rec1 (c, (j : Int), p ++ zs) = rec1 ((x * y + z + c) / 10000, ((j + 1 : Nat) : Int), p ++ zs.set j ((x * y + z + c) % 10000)) := by
  have hjl : j < ys.length := (List.getElem?_eq_some_iff.1 hy).1
  have hb := mul_nn bx by'
  have e : w64 ((p.length : Int) + (j : Int)) = ((p.length + j : Nat) : Int) := by rw [w64_id (by omega) (by omega)]; omega
  rw [mulStep1, dec_t (by omega), frk_t, lget_nat, hx, Option.bind_some, lget_nat, hy, Option.bind_some, e, lget_nat, get_pre, hz, Option.bind_some, Option.bind_some, Int.toNat_natCast, set_pre]
  rw [w64_id (x := x * y) (by omega) (by omega), w64_id (x := x * y + z) (by omega) (by omega), w64_id (x := x * y + z + c) (by omega) (by omega), Int.tdiv_eq_ediv_of_nonneg (by omega), Int.tmod_eq_emod_of_nonneg (by omega), w64_id (by omega) (by omega), w64_suc (by unfold big; omega)]
theorem mulRow (n : Nat) (rec0 : (Int × List Int) → Option (List Int)) (xs : List Int) (y0 y1 : Int) (m : Nat) (p zs : List Int) {x z0 z1 z2 : Int}
    (hx : xs[p.length]? = some x) (hp : p.length ≤ 1000) (hm : 3 ≤ m)
    (bx : 0 ≤ x ∧ x ≤ 9999) (by0 : 0 ≤ y0 ∧ y0 ≤ 9999) (by1 : 0 ≤ y1 ∧ y1 ≤ 9999) (bz0 : 0 ≤ z0 ∧ z0 ≤ 9999) (bz1 : 0 ≤ z1 ∧ z1 ≤ 9999) :
    ∃ d0 d1 c, loopN (Dspec_l1MulMag_1 n rec0 xs [y0, y1] (p.length : Int)) m (0, 0, p ++ z0 :: z1 :: z2 :: zs) = rec0 (((p.length + 1 : Nat) : Int), p ++ d0 :: d1 :: c :: zs) ∧
      (0 ≤ d0 ∧ d0 ≤ 9999) ∧ (0 ≤ d1 ∧ d1 ≤ 9999) ∧ (0 ≤ c ∧ c ≤ 9999) ∧ d0 + 10000 * d1 + 100000000 * c = x * y0 + 10000 * (x * y1) + z0 + 10000 * z1 := by
  obtain ⟨m, rfl⟩ : ∃ j, m = j + 3 := ⟨m - 3, by omega⟩
  have h0 := mul_nn bx by0
  have h1 := mul_nn bx by1
  have s1 := mulCell n rec0 xs [y0, y1] (loopN (Dspec_l1MulMag_1 n rec0 xs [y0, y1] (p.length : Int)) (m + 2)) 0 0 p (z0 :: z1 :: z2 :: zs) hx (y := y0) rfl rfl hp (by omega) bx by0 bz0 (by omega)
  have s2 := mulCell n rec0 xs [y0, y1] (loopN (Dspec_l1MulMag_1 n rec0 xs [y0, y1] (p.length : Int)) (m + 1)) ((x * y0 + z0 + 0) / 10000) 1 p ((x * y0 + z0 + 0) % 10000 :: z1 :: z2 :: zs) hx (y := y1) rfl rfl hp (by omega) bx by1 bz1 (by omega)
  refine ⟨(x * y0 + z0 + 0) % 10000, (x * y1 + z1 + (x * y0 + z0 + 0) / 10000) % 10000, (x * y1 + z1 + (x * y0 + z0 + 0) / 10000) / 10000, ?_, by omega, by omega, by omega, by omega⟩
  rw [loop_suc]
  refine s1.trans ?_
  rw [loop_suc]
  refine s2.trans ?_
  rw [loop_suc, mulStep1, dec_f (by show ¬ (((1 + 1 : Nat) : Int) < ((2 : Nat) : Int)); omega), frk_f]
  unfold Dspec_l1MulMag_0
  have e : w64 ((p.length : Int) + (([y0, y1] : List Int).length : Int)) = ((p.length + 2 : Nat) : Int) := by
    show w64 ((p.length : Int) + ((2 : Nat) : Int)) = _
    rw [w64_id (by omega) (by omega)]; omega
  rw [e, lget_nat, get_pre, Int.toNat_natCast, set_pre, w64_suc (by unfold big; omega)]
  rfl
theorem vl_rep (k : Nat) : vl (List.replicate k 0) = 0 := by
  induction k with
  | zero => rfl
  | succ k ih => rw [List.replicate_succ]; unfold vl; omega
theorem Dg_rep (k : Nat) : Dg (List.replicate k 0) := fun d hd => by have := (List.mem_replicate.1 hd).2; omega
theorem mulLoop (n : Nat) (y0 y1 : Int) (by0 : 0 ≤ y0 ∧ y0 ≤ 9999) (by1 : 0 ≤ y1 ∧ y1 ≤ 9999) (hn : 3 ≤ n) {xs : List Int} (hD : Dg xs) (hl : xs.length ≤ 100) :
    ∀ (k m : Nat) (p : List Int) (z0 z1 : Int), p.length + k = xs.length → k < m → 0 ≤ z0 ∧ z0 ≤ 9999 → 0 ≤ z1 ∧ z1 ≤ 9999 →
    ∃ r, loopN (Dspec_l1MulMag_2 n xs [y0, y1]) m ((p.length : Int), p ++ z0 :: z1 :: List.replicate k 0) = some (p ++ r) ∧ Dg r ∧ vl r = z0 + 10000 * z1 + vl (xs.drop p.length) * (y0 + 10000 * y1) ∧ r.length = k + 2 := by
  intro k
  induction k with
  | zero =>
    intro m p z0 z1 h0 hm b0 b1
    obtain ⟨m, rfl⟩ : ∃ j, m = j + 1 := ⟨m - 1, by omega⟩
    refine ⟨[z0, z1], ?_, Dg.cons b0.1 b0.2 (Dg.cons b1.1 b1.2 Dg.nil), ?_, rfl⟩
    · rw [loop_suc, mulStep2, dec_f (by omega), frk_f]; rfl
    · rw [List.drop_eq_nil_of_le (by omega)]; simp [vl]
  | succ k ih =>
    intro m p z0 z1 h0 hm b0 b1
    obtain ⟨m, rfl⟩ : ∃ j, m = j + 1 := ⟨m - 1, by omega⟩
    obtain ⟨x, hx⟩ : ∃ d, xs[p.length]? = some d := ⟨xs[p.length], List.getElem?_eq_getElem (by omega)⟩
    have bx := hD.get hx
    obtain ⟨d0, d1, c, e1, q0, q1, q2, q3⟩ := mulRow n (loopN (Dspec_l1MulMag_2 n xs [y0, y1]) m) xs y0 y1 n p (List.replicate k 0) (z2 := 0) hx (by omega) hn bx by0 by1 b0 b1
    obtain ⟨r, r1, r2, r3, r4⟩ := ih m (p ++ [d0]) d1 c (by simp; omega) (by omega) q1 q2
    refine ⟨d0 :: r, ?_, Dg.cons q0.1 q0.2 r2, ?_, by rw [List.length_cons, r4]⟩
    · rw [loop_suc, mulStep2, dec_t (by omega), frk_t, List.replicate_succ, e1]
      have e2 : (p ++ [d0]).length = p.length + 1 := by simp
      rw [e2, List.append_assoc, List.append_assoc] at r1
      exact r1
    · have e2 : (p ++ [d0]).length = p.length + 1 := by simp
      rw [e2] at r3
      rw [vl_drop_s hx]
      show d0 + 10000 * vl r = _
      rw [r3]
      generalize vl (xs.drop (p.length + 1)) = V
      have e3 : (x + 10000 * V) * (y0 + 10000 * y1) = (x * y0 + 10000 * (x * y1)) + 10000 * (V * (y0 + 10000 * y1)) := by
        rw [Int.add_mul, Int.mul_add, Int.mul_assoc 10000]
        congr 2
        rw [← Int.mul_assoc, Int.mul_comm x 10000, Int.mul_assoc]
      rw [e3]
      generalize V * (y0 + 10000 * y1) = W
      omega
theorem mkB8 {k : Int} (h : 0 ≤ k) (h2 : k ≤ 1000000) : mkB k 8 = true := by
  simp only [mkB, Bool.and_eq_true, decide_eq_true_eq]; omega
theorem mulOk (n : Nat) (y0 y1 : Int) (by0 : 0 ≤ y0 ∧ y0 ≤ 9999) (by1 : 0 ≤ y1 ∧ y1 ≤ 9999) {xs : List Int} (hD : Dg xs) (hl : xs.length ≤ 100) (hn : 101 ≤ n) :
    ∃ r, Dspec_l1MulMag n xs [y0, y1] = some r ∧ Dg r ∧ vl r = vl xs * (y0 + 10000 * y1) ∧ r.length = xs.length + 2 := by
  have e : w64 ((xs.length : Int) + (([y0, y1] : List Int).length : Int)) = ((xs.length + 2 : Nat) : Int) := by
    show w64 ((xs.length : Int) + ((2 : Nat) : Int)) = _
    rw [w64_id (by omega) (by omega)]; omega
  obtain ⟨r, r1, r2, r3, r4⟩ := mulLoop n y0 y1 by0 by1 (by omega) hD hl xs.length n [] 0 0 (by simp) (by omega) (by omega) (by omega)
  refine ⟨r, ?_, r2, by rw [r3]; show 0 + 10000 * 0 + vl (xs.drop 0) * _ = _; rw [List.drop_zero]; omega, r4⟩
  unfold Dspec_l1MulMag
  rw [e, chk_eq (mkB8 (by omega) (by omega)), Int.toNat_natCast]
  exact r1
end Evl.T

/-! Esg -/
namespace Evl.T
open Go Evl

def BIG : Nat := 1000000000000
theorem divStep0 (n : Nat) (rec0 : (Int × List Int × List Int) → Option ((List Int) × (List Int))) (t0 t1 : List Int) (t8 : Int) (rec1 : (List Int × List Int) → Option ((List Int) × (List Int))) (l12 l29 : List Int) :
    Dspec_l1DivMag_0 n rec0 t0 t1 t8 rec1 (l12, l29) = (Dspec_l1CmpMag n l29 t1).bind fun v4 => frk (decide (v4 ≥ 0)) ((Dspec_l1Guess n l29 t1).bind fun v5 => (lget l12 t8).bind fun v6 => (lget l12 t8).bind fun _v7 => (Dspec_l1MulMag n t1 [Int.tmod v5 10000, w64 (Int.tdiv v5 10000)]).bind fun v8 => (Dspec_l1Num n false v8).bind fun v9 => (Dspec_l1SubMag n l29 v9.D).bind fun v10 => (Dspec_l1Num n false v10).bind fun v11 => rec1 ((l12.set (Int.toNat t8) (w64 (v6 + v5))), v11.D)) (rec0 (w64 (t8 - 1), l12, l29)) := rfl
theorem divStep1 (n : Nat) (t0 t1 : List Int) (rec0 : (Int × List Int × List Int) → Option ((List Int) × (List Int))) (t8 : Int) (l12 l13 : List Int) :
    Dspec_l1DivMag_1 n t0 t1 rec0 (t8, l12, l13) = frk (decide (t8 ≥ 0)) ((lget t0 t8).bind fun v1 => chk (apB 8 (1 + l13.length)) ((Dspec_l1Num n false ([v1] ++ l13)).bind fun v3 => loopN (Dspec_l1DivMag_0 n rec0 t0 t1 t8) n (l12, v3.D))) (some (l12, l13)) := rfl
theorem divOut (n : Nat) (rec0 : (Int × List Int × List Int) → Option ((List Int) × (List Int))) (t0 : List Int) (i : Nat) (q : List Int) (x b m : Nat) (hx : x < b) (hb : b < 1000000000000) (hn : 101 ≤ n) (hi : i ≤ 1000) (hm : 1 ≤ m) :
    loopN (Dspec_l1DivMag_0 n rec0 t0 (dg b) (i : Int)) m (q, dg x) = rec0 ((i : Int) - 1, q, dg x) := by
  obtain ⟨m, rfl⟩ : ∃ j, m = j + 1 := ⟨m - 1, by omega⟩
  obtain ⟨r, h1, h2⟩ := cmpOk n x b (by have := dg_len3 (show x < 1000000000000 by omega); omega) (by have := dg_len3 hb; omega) hn
  rw [loop_suc, divStep0, h1, Option.bind_some, dec_f (by omega), frk_f, w64_id (by omega) (by omega)]
theorem set_same {l : List Int} {i : Nat} (h : l[i]? = some 0) : l.set i 0 = l := by
  apply List.ext_getElem?
  intro j
  rw [List.getElem?_set]
  split
  · rename_i hj
    subst hj
    have := (List.getElem?_eq_some_iff.1 h).1
    rw [if_pos this, h]
  · rfl
theorem divIn (n : Nat) (rec0 : (Int × List Int × List Int) → Option ((List Int) × (List Int))) (t0 : List Int) (i : Nat) (q : List Int) (x b : Nat) (hx : x < 1000000000000) (hb0 : 0 < b) (hb : b < 1000000000000) (hq : x / b ≤ 9999) (hi : i ≤ 1000) (hz : q[i]? = some 0) (hn : 101 ≤ n) :
    loopN (Dspec_l1DivMag_0 n rec0 t0 (dg b) (i : Int)) n (q, dg x) = rec0 ((i : Int) - 1, q.set i ((x / b : Nat) : Int), dg (x % b)) := by
  by_cases h : x < b
  · rw [divOut n rec0 t0 i q x b n h hb hn hi (by omega), Nat.div_eq_of_lt h, Nat.mod_eq_of_lt h]
    rw [show ((0 : Nat) : Int) = 0 from rfl, set_same hz]
  · obtain ⟨m, hm⟩ : ∃ j, n = j + 1 := ⟨n - 1, by omega⟩
    have l1 := dg_len3 hx
    have l2 := dg_len3 hb
    obtain ⟨r, h1, h2⟩ := cmpOk n x b (by omega) (by omega) hn
    have hg := guessOk n x b hx hb0 (by omega) (by omega)
    have hy0 : (0 : Int) ≤ ((x / b : Nat) : Int) := Int.natCast_nonneg _
    have hy : (0 : Int) ≤ ((x / b : Nat) : Int) ∧ ((x / b : Nat) : Int) ≤ 9999 := by omega
    obtain ⟨P, p1, p2, p3, p4⟩ := mulOk n ((x / b : Nat) : Int) 0 hy (by omega) (Dg_dg b) (by omega) hn
    have hmul : b * (x / b) ≤ x := Nat.mul_div_le x b
    have hmod : x % b = x - b * (x / b) := by have := Nat.div_add_mod x b; omega
    have p3' : vl P = ((b * (x / b) : Nat) : Int) := by
      rw [p3, vl_dg, show ((x / b : Nat) : Int) + 10000 * 0 = ((x / b : Nat) : Int) by omega]; exact (Int.natCast_mul _ _).symm
    have hP := numOk n false P p2 (by omega) p3' (by omega)
    obtain ⟨R, r1, r2, r3, r4⟩ := subOk n (Dg_dg x) (Dg_dg (b * (x / b))) (by omega) (by rw [vl_dg, vl_dg]; omega) hn
    have r3' : vl R = ((x % b : Nat) : Int) := by rw [r3, vl_dg, vl_dg]; omega
    have hR := numOk n false R r2 (by omega) r3' (by omega)
    have hgen : loopN (Dspec_l1DivMag_0 n rec0 t0 (dg b) (i : Int)) (m + 1) (q, dg x) = rec0 ((i : Int) - 1, q.set i ((x / b : Nat) : Int), dg (x % b)) := by
      rw [loop_suc, divStep0, h1, Option.bind_some, dec_t (by omega), frk_t, hg, Option.bind_some, lget_nat, hz, Option.bind_some, Option.bind_some]
      have e1 : Int.tmod ((x / b : Nat) : Int) 10000 = ((x / b : Nat) : Int) := by rw [Int.tmod_eq_emod_of_nonneg (by omega)]; omega
      have e2 : w64 (Int.tdiv ((x / b : Nat) : Int) 10000) = 0 := by rw [Int.tdiv_eq_ediv_of_nonneg (by omega), w64_id (by omega) (by omega)]; omega
      rw [e1, e2, p1, Option.bind_some, hP, Option.bind_some]
      show ((Dspec_l1SubMag n (dg x) (dg (b * (x / b)))).bind _) = _
      rw [r1, Option.bind_some, hR, Option.bind_some]
      rw [w64_id (x := 0 + ((x / b : Nat) : Int)) (by omega) (by omega), show (0 : Int) + ((x / b : Nat) : Int) = ((x / b : Nat) : Int) by omega, Int.toNat_natCast]
      exact divOut n rec0 t0 i _ (x % b) b m (Nat.mod_lt _ hb0) hb hn hi (by omega)
    rw [← hm] at hgen
    exact hgen
theorem divLoop (n A b : Nat) (hA : A < 1000000000000) (hb0 : 0 < b) (hb : b < 1000000000000) (hn : 101 ≤ n) : ∀ (i m : Nat) (qh : List Int) (H : Nat), i ≤ (dg A).length → i < m → vl ((dg A).drop i) = H → Dg qh → vl qh = ((H / b : Nat) : Int) →
    ∃ q, loopN (Dspec_l1DivMag_1 n (dg A) (dg b)) m ((i : Int) - 1, List.replicate i 0 ++ qh, dg (H % b)) = some (q, dg (A % b)) ∧ Dg q ∧ vl q = ((A / b : Nat) : Int) ∧ q.length = i + qh.length := by
  have l1 := dg_len3 hA
  intro i
  induction i with
  | zero =>
    intro m qh H _ hm hH hD hv
    obtain ⟨m, rfl⟩ : ∃ j, m = j + 1 := ⟨m - 1, by omega⟩
    rw [List.drop_zero, vl_dg] at hH
    have : A = H := by omega
    subst this
    exact ⟨qh, by rw [loop_suc, divStep1, dec_f (by omega), frk_f]; rfl, hD, hv, by omega⟩
  | succ i ih =>
    intro m qh H hi hm hH hD hv
    obtain ⟨m, rfl⟩ : ∃ j, m = j + 1 := ⟨m - 1, by omega⟩
    obtain ⟨d, hd⟩ : ∃ d, (dg A)[i]? = some d := ⟨(dg A)[i], List.getElem?_eq_getElem (by omega)⟩
    have hdb := (Dg_dg A).get hd
    obtain ⟨e, rfl⟩ : ∃ e : Nat, d = e := ⟨d.toNat, by omega⟩
    have hlt := Nat.mod_lt H hb0
    have hdm := Nat.div_add_mod H b
    have hH' : vl ((dg A).drop i) = ((e + 10000 * H : Nat) : Int) := by rw [vl_drop_s hd, hH]; omega
    have hle := vl_drop_le (Dg_dg A) i
    rw [hH', vl_dg] at hle
    have hmodle : H % b ≤ H := Nat.mod_le H b
    have lr := dg_len3 (show H % b < 1000000000000 by omega)
    have hx : e + 10000 * (H % b) < 1000000000000 := by omega
    have hsplit : e + 10000 * H = (e + 10000 * (H % b)) + b * (10000 * (H / b)) := by
      have : b * (10000 * (H / b)) = 10000 * (b * (H / b)) := by rw [← Nat.mul_assoc, Nat.mul_comm b 10000, Nat.mul_assoc]
      omega
    have hdiv : (e + 10000 * H) / b = (e + 10000 * (H % b)) / b + 10000 * (H / b) := by rw [hsplit, Nat.add_mul_div_left _ _ hb0]
    have hmod : (e + 10000 * H) % b = (e + 10000 * (H % b)) % b := by rw [hsplit, Nat.add_mul_mod_self_left]
    have hq : (e + 10000 * (H % b)) / b ≤ 9999 := by
      have : (e + 10000 * (H % b)) / b < 10000 := by rw [Nat.div_lt_iff_lt_mul hb0]; omega
      omega
    have hnum := numOk n false ([(e : Int)] ++ dg (H % b)) (Dg.cons hdb.1 hdb.2 (Dg_dg _)) (by simp; omega) (v := e + 10000 * (H % b)) (by show (e : Int) + 10000 * vl (dg (H % b)) = _; rw [vl_dg]; omega) (by simp; omega)
    have hz : (List.replicate (i + 1) (0 : Int) ++ qh)[i]? = some 0 := by
      rw [List.getElem?_append_left (by simp)]; simp
    have hin := divIn n (loopN (Dspec_l1DivMag_1 n (dg A) (dg b)) m) (dg A) i (List.replicate (i + 1) 0 ++ qh) (e + 10000 * (H % b)) b hx hb0 hb hq (by omega) hz hn
    have hset : (List.replicate (i + 1) (0 : Int) ++ qh).set i (((e + 10000 * (H % b)) / b : Nat) : Int) = List.replicate i 0 ++ ((((e + 10000 * (H % b)) / b : Nat) : Int) :: qh) := by
      have e1 : List.replicate (i + 1) (0 : Int) ++ qh = List.replicate i 0 ++ (0 :: qh) := by
        rw [List.replicate_succ']; simp
      have e2 := set_pre (List.replicate i (0 : Int)) 0 (0 :: qh) (((e + 10000 * (H % b)) / b : Nat) : Int)
      rw [List.length_replicate] at e2
      rw [e1]; exact e2
    have hy0 : (0 : Int) ≤ (((e + 10000 * (H % b)) / b : Nat) : Int) := Int.natCast_nonneg _
    obtain ⟨q, q1, q2, q3, q4⟩ := ih m ((((e + 10000 * (H % b)) / b : Nat) : Int) :: qh) (e + 10000 * H) (by omega) (by omega) hH' (Dg.cons hy0 (by omega) hD) (by
      show (((e + 10000 * (H % b)) / b : Nat) : Int) + 10000 * vl qh = _
      rw [hv, hdiv]; omega)
    refine ⟨q, ?_, q2, q3, by rw [q4, List.length_cons]; omega⟩
    have ei : ((i + 1 : Nat) : Int) - 1 = (i : Int) := by omega
    rw [loop_suc, divStep1, ei, dec_t (by omega), frk_t, lget_nat, hd, Option.bind_some, chk_eq (apB8 (by omega)), hnum, Option.bind_some]
    refine hin.trans ?_
    rw [hset, ← hmod]
    exact q1
theorem divOk (n A b : Nat) (hA : A < 1000000000000) (hb0 : 0 < b) (hb : b < 1000000000000) (hn : 101 ≤ n) :
    ∃ q, Dspec_l1DivMag n (dg A) (dg b) = some (q, dg (A % b)) ∧ Dg q ∧ vl q = ((A / b : Nat) : Int) ∧ q.length ≤ 3 := by
  have l1 := dg_len3 hA
  obtain ⟨q, q1, q2, q3, q4⟩ := divLoop n A b hA hb0 hb hn (dg A).length n [] 0 (Nat.le_refl _) (by omega) (by rw [List.drop_length]; rfl) Dg.nil (by simp [vl])
  refine ⟨q, ?_, q2, q3, by rw [q4]; simpa using l1⟩
  unfold Dspec_l1DivMag
  rw [chk_eq (mkB8 (by omega) (by omega)), w64_id (by omega) (by omega), Int.toNat_natCast]
  rw [Nat.zero_mod, dg_zero, List.append_nil] at q1
  exact q1

/-! the greatest divisor -/
theorem gcdStep (n : Nat) (rec0 : (List Int × List Int) → Option (List Int)) (t0 t1 : List Int) :
    Dspec_l1Gcd_0 n rec0 (t0, t1) = frk (decide ((t1.length : Int) > 0)) ((Dspec_l1DivMag n t0 t1).bind fun v0 => rec0 (t1, v0.2)) (some t0) := rfl
theorem gcdLoop (n : Nat) (hn : 101 ≤ n) : ∀ (b a m : Nat), b < m → a < 1000000000000 → b < 1000000000000 → loopN (Dspec_l1Gcd_0 n) m (dg a, dg b) = some (dg (Nat.gcd a b)) := by
  intro b
  induction b using Nat.strongRecOn with
  | ind b ih =>
    intro a m hm ha hb
    obtain ⟨m, rfl⟩ : ∃ j, m = j + 1 := ⟨m - 1, by omega⟩
    rw [loop_suc, gcdStep]
    by_cases h : b = 0
    · subst h; rw [dg_zero, dec_f (by simp), frk_f, Nat.gcd_zero_right]
    · have hp := List.length_pos_iff.2 (dg_ne.2 (show 0 < b by omega))
      obtain ⟨q, q1, -, -, -⟩ := divOk n a b ha (by omega) hb hn
      have hlt := Nat.mod_lt a (show b > 0 by omega)
      rw [dec_t (by omega), frk_t, q1, Option.bind_some]
      refine (ih (a % b) hlt b m (by omega) hb (by omega)).trans ?_
      rw [Nat.gcd_comm b, Nat.gcd_comm a, Nat.gcd_rec b a]
theorem gcd_lt {a b : Nat} (ha : a < 1000000000000) (hb : b < 1000000000000) : Nat.gcd a b < 1000000000000 := by
  by_cases h : b = 0
  · subst h; rw [Nat.gcd_zero_right]; exact ha
  · exact Nat.lt_of_le_of_lt (Nat.gcd_le_right a (by omega)) hb
theorem gcdOk (n : Nat) (g1 g2 : Bool) (a b : Nat) (ha : a < 1000000000000) (hb : b < 1000000000000) (h1 : g1 = true → 0 < a) (h2 : g2 = true → 0 < b) (hbn : b < n) (hn : 101 ≤ n) :
    Dspec_Gcd n ⟨g1, dg a⟩ ⟨g2, dg b⟩ = some ⟨false, dg (Nat.gcd a b)⟩ := by
  unfold Dspec_Gcd
  rw [magOk n g1 a ha h1 (by omega), Option.bind_some, magOk n g2 b hb h2 (by omega), Option.bind_some]
  unfold Dspec_l1Gcd
  rw [gcdLoop n hn b a n hbn ha hb, Option.bind_some, numOk n false _ (Dg_dg _) (by have := dg_len3 (gcd_lt ha hb); omega) (vl_dg _) (by have := dg_len3 (gcd_lt ha hb); omega)]
  rfl
def nm (x : Int) : Num := ⟨decide (x < 0), dg x.natAbs⟩
theorem ngStep (n : Nat) (t0 : List Num) (b : Bool) (rec0 : (Int × Bool × List Int) → Option Num) (t4 : Int) (b3_0 : Bool) (b3_1 : List Int) :
    Dspec_l3NumGcd_0 n t0 b rec0 (t4, b3_0, b3_1) = frk (decide (t4 < (t0.length : Int))) ((lget t0 t4).bind fun v1 => (Dspec_Gcd n (Num.mk b3_0 b3_1) v1).bind fun v2 => rec0 (w64 (t4 + 1), v2.Neg, v2.D)) (some (Num.mk b3_0 b3_1)) := rfl
theorem ngOne (n : Nat) (l : List Num) (b : Bool) (rec0 : (Int × Bool × List Int) → Option Num) (i : Nat) (g : Nat) {x : Int} (hx : l[i]? = some (nm x)) (hg : g < 1000000000000) (hb : x.natAbs < 1000000000000) (hbn : x.natAbs < n) (hn : 101 ≤ n) (hi : i ≤ 100) :
    Dspec_l3NumGcd_0 n l b rec0 ((i : Int), false, dg g) = rec0 (((i + 1 : Nat) : Int), false, dg (Nat.gcd g x.natAbs)) := by
  have hil := (List.getElem?_eq_some_iff.1 hx).1
  have hk : Dspec_Gcd n ⟨false, dg g⟩ (nm x) = _ := gcdOk n false (decide (x < 0)) g x.natAbs hg hb (by simp) (by intro h; have := of_decide_eq_true h; omega) hbn hn
  rw [ngStep, dec_t (by omega), frk_t, lget_nat, hx, Option.bind_some, hk, Option.bind_some, w64_suc (by unfold big; omega)]
def g4 (a b c d : Int) : Nat := Nat.gcd (Nat.gcd (Nat.gcd a.natAbs b.natAbs) c.natAbs) d.natAbs
theorem ngOk (n : Nat) (a b c d : Int) (ha : a.natAbs < 1000000000000) (hb : b.natAbs < 1000000000000) (hc : c.natAbs < 1000000000000) (hd : d.natAbs < 1000000000000)
    (na : a.natAbs < n) (nb : b.natAbs < n) (nc : c.natAbs < n) (nd : d.natAbs < n) (hn : 101 ≤ n) : Dspec_l3NumGcd n [nm a, nm b, nm c, nm d] = some ⟨false, dg (g4 a b c d)⟩ := by
  unfold Dspec_l3NumGcd
  rw [ofOk n 0 (by decide) (by omega), Option.bind_some]
  obtain ⟨m, hm⟩ : ∃ j, n = j + 5 := ⟨n - 5, by omega⟩
  have key : loopN (Dspec_l3NumGcd_0 n [nm a, nm b, nm c, nm d] false) (m + 5) (((0 : Nat) : Int), false, dg 0) = some ⟨false, dg (g4 a b c d)⟩ := by
    rw [loop_suc, ngOne n _ _ _ 0 0 (x := a) rfl (by omega) ha na hn (by omega), Nat.gcd_zero_left]
    rw [loop_suc, ngOne n _ _ _ 1 _ (x := b) rfl ha hb nb hn (by omega)]
    rw [loop_suc, ngOne n _ _ _ 2 _ (x := c) rfl (gcd_lt ha hb) hc nc hn (by omega)]
    rw [loop_suc, ngOne n _ _ _ 3 _ (x := d) rfl (gcd_lt (gcd_lt ha hb) hc) hd nd hn (by omega)]
    rw [loop_suc, ngStep, dec_f (by show ¬ (((3 + 1 : Nat) : Int) < ((4 : Nat) : Int)); omega), frk_f]
    rfl
  rw [← hm] at key
  exact key

/-! Small -/
theorem smallStep (n : Nat) (l : List Int) (b0 : Bool) (b1 : List Int) (rec0 : (Int × Int) → Option (Int × Bool)) (t5 t6 : Int) :
    Dspec_Small_1 n l b0 b1 rec0 (t5, t6) = frk (decide (t6 ≥ 0)) (frk (decide (t5 > 922337203685477)) (some (0, false)) ((lget l t6).bind fun v1 => rec0 (IntKind.u64.wrap ((IntKind.u64.wrap (t5 * 10000)) + (IntKind.u64.wrap v1)), w64 (t6 - 1)))) (Dspec_Small_0 n t5 b0 b1) := rfl
theorem smallLoop (n : Nat) (b0 : Bool) (b1 : List Int) {a : List Int} (ha : Dg a) (hl : a.length ≤ 3) : ∀ (i m : Nat), i ≤ a.length → i < m →
    loopN (Dspec_Small_1 n a b0 b1) m (vl (a.drop i), (i : Int) - 1) = Dspec_Small_0 n (vl a) b0 b1 := by
  intro i
  induction i with
  | zero =>
    intro m _ hm
    obtain ⟨m, rfl⟩ : ∃ j, m = j + 1 := ⟨m - 1, by omega⟩
    rw [loop_suc, smallStep, dec_f (by omega), frk_f]; rfl
  | succ i ih =>
    intro m hi hm
    obtain ⟨m, rfl⟩ : ∃ j, m = j + 1 := ⟨m - 1, by omega⟩
    obtain ⟨x, hx⟩ : ∃ d, a[i]? = some d := ⟨a[i], List.getElem?_eq_getElem (by omega)⟩
    have e : ((i + 1 : Nat) : Int) - 1 = (i : Int) := by omega
    have b1' := vl_small ha hl
    have b2 := vl_drop_le ha i
    have b3 := vl_nn (ha.drop i)
    have b4 := vl_nn (ha.drop (i + 1))
    have b5 := ha.get hx
    have e2 := vl_drop_s hx
    rw [loop_suc, smallStep, e, dec_t (by omega), frk_t, dec_f (by omega), frk_f, lget_nat, hx, Option.bind_some]
    rw [u64w (x := vl (a.drop (i + 1)) * 10000) (by omega) (by omega), u64w (x := x) (by omega) (by omega), show vl (a.drop (i + 1)) * 10000 + x = vl (a.drop i) by omega, u64w (x := vl (a.drop i)) (by omega) (by omega), w64_id (x := (i : Int) - 1) (by omega) (by omega)]
    exact ih m (by omega) (by omega)
theorem smallOk (n : Nat) (g : Bool) (v : Nat) (hv : v < 1000000000000) (hg : g = true → 0 < v) (hn : 5 ≤ n) : Dspec_Small n ⟨g, dg v⟩ = some (if g then -(v : Int) else (v : Int), true) := by
  have l1 := dg_len3 hv
  unfold Dspec_Small
  rw [magOk n g v hv hg hn, Option.bind_some, dec_f (by omega), frk_f, w64_id (by omega) (by omega)]
  have e1 := smallLoop n g (dg v) (Dg_dg v) l1 (dg v).length n (Nat.le_refl _) (by omega)
  rw [List.drop_length] at e1
  have e1' : loopN (Dspec_Small_1 n (dg v) g (dg v)) n ((0 : Int), ((dg v).length : Int) - 1) = _ := e1
  rw [e1', vl_dg]
  unfold Dspec_Small_0
  rw [signOk n g v hv hg hn, Option.bind_some]
  cases g with
  | true =>
    have := hg rfl
    rw [frk_t, dec_f (by omega), frk_f, u64w (by omega) (by omega), w64_id (x := (v : Int) - 1) (by omega) (by omega), w64_id (x := 0 - ((v : Int) - 1)) (by omega) (by omega), w64_id (by omega) (by omega)]
    simp only [if_true]; congr 2; omega
  | false =>
    rw [frk_f, dec_f (by omega), frk_f, w64_id (by omega) (by omega)]; rfl

/-! Primitive -/
/-- The whole part of x over g, with x's sign. -/
def pq (x : Int) (g : Nat) : Int := if x < 0 then -((x.natAbs / g : Nat) : Int) else ((x.natAbs / g : Nat) : Int)
theorem compStep {β : Type} (n : Nat) (x : Int) (g : Nat) (hx : x.natAbs < 1000000000000) (hg0 : 0 < g) (hg : g < 1000000000000) (hn : 101 ≤ n) (K : Int × Bool → Option β) :
    ((Dspec_l1DivMag n (dg x.natAbs) (dg g)).bind fun v5 => (Dspec_l1Num n (decide (x < 0)) v5.1).bind fun v6 => (Dspec_Small n v6).bind K) = K (pq x g, true) := by
  obtain ⟨q, q1, q2, q3, q4⟩ := divOk n x.natAbs g hx hg0 hg hn
  have hle : x.natAbs / g ≤ x.natAbs := Nat.div_le_self _ _
  have h00 : (0 : Int) ≤ ((x.natAbs / g : Nat) : Int) := Int.natCast_nonneg _
  rw [q1, Option.bind_some, numOk n _ q q2 (by omega) q3 (by omega), Option.bind_some, smallOk n _ _ (by omega) (by simp) (by omega), Option.bind_some]
  congr 2
  unfold pq
  by_cases h : x < 0
  · by_cases h2 : 0 < x.natAbs / g
    · rw [dec_t h, dec_t h2, if_pos h]; rfl
    · rw [dec_t h, dec_f h2, if_pos h]; simp only [Bool.and_false, Bool.false_eq_true, if_false]; omega
  · rw [dec_f h, if_neg h]; rfl
def prim (a b c d : Int) : Pl × Int :=
  if a = 0 ∧ b = 0 ∧ c = 0 then (⟨0, 0, 0, 0⟩, 1)
  else if rIn (pq a (g4 a b c d)) (-500) 500 && (rIn (pq b (g4 a b c d)) (-500) 500 && (rIn (pq c (g4 a b c d)) (-500) 500 && rIn (pq d (g4 a b c d)) (-500) 500)) then (⟨pq a (g4 a b c d), pq b (g4 a b c d), pq c (g4 a b c d), pq d (g4 a b c d)⟩, 0)
  else (⟨0, 0, 0, 0⟩, 2)
theorem g4_pos {a b c d : Int} (h : ¬ (a = 0 ∧ b = 0 ∧ c = 0)) : 0 < g4 a b c d := by
  unfold g4
  apply Nat.pos_of_ne_zero
  intro h0
  have h1 := (Nat.gcd_eq_zero_iff.1 h0).1
  have h2 := Nat.gcd_eq_zero_iff.1 h1
  have h3 := Nat.gcd_eq_zero_iff.1 h2.1
  omega
theorem prim_body (n : Nat) (a b c d : Int) (ha : a.natAbs < 1000000000000) (hb : b.natAbs < 1000000000000) (hc : c.natAbs < 1000000000000) (hd : d.natAbs < 1000000000000)
    (na : a.natAbs < n) (nb : b.natAbs < n) (nc : c.natAbs < n) (nd : d.natAbs < n) (hn : 101 ≤ n) (h0 : ¬ (a = 0 ∧ b = 0 ∧ c = 0)) : Dspec_Primitive_5 n a b c d 0 0 0 0 = some (prim a b c d) := by
  have hp := g4_pos (d := d) h0
  have hg : g4 a b c d < 1000000000000 := gcd_lt (gcd_lt (gcd_lt ha hb) hc) hd
  unfold prim
  rw [if_neg h0]
  unfold Dspec_Primitive_5
  have ea : Dspec_Of n a = some (nm a) := ofOk n a ha (by omega)
  have eb : Dspec_Of n b = some (nm b) := ofOk n b hb (by omega)
  have ec : Dspec_Of n c = some (nm c) := ofOk n c hc (by omega)
  have ed : Dspec_Of n d = some (nm d) := ofOk n d hd (by omega)
  rw [ea, Option.bind_some, eb, Option.bind_some, ec, Option.bind_some, ed, Option.bind_some, ngOk n a b c d ha hb hc hd na nb nc nd hn, Option.bind_some]
  refine (compStep n a (g4 a b c d) ha hp hg hn _).trans ?_
  rw [show (!(pq a (g4 a b c d), true).2) = false from rfl, frk_f, sIn, Option.bind_some]
  unfold Dspec_Primitive_1
  cases hA : rIn (pq a (g4 a b c d)) (-500) 500
  · rfl
  rw [show (!true) = false from rfl, frk_f, chk_eq (apB8 (by simp)), show lget [nm a, nm b, nm c, nm d] 1 = some (nm b) from rfl, Option.bind_some]
  refine (compStep n b (g4 a b c d) hb hp hg hn _).trans ?_
  rw [show (!(pq b (g4 a b c d), true).2) = false from rfl, frk_f, sIn, Option.bind_some]
  unfold Dspec_Primitive_2
  cases hB : rIn (pq b (g4 a b c d)) (-500) 500
  · rfl
  rw [show (!true) = false from rfl, frk_f, chk_eq (apB8 (by simp)), show lget [nm a, nm b, nm c, nm d] 2 = some (nm c) from rfl, Option.bind_some]
  refine (compStep n c (g4 a b c d) hc hp hg hn _).trans ?_
  rw [show (!(pq c (g4 a b c d), true).2) = false from rfl, frk_f, sIn, Option.bind_some]
  unfold Dspec_Primitive_3
  cases hC : rIn (pq c (g4 a b c d)) (-500) 500
  · rfl
  rw [show (!true) = false from rfl, frk_f, chk_eq (apB8 (by simp)), show lget [nm a, nm b, nm c, nm d] 3 = some (nm d) from rfl, Option.bind_some]
  refine (compStep n d (g4 a b c d) hd hp hg hn _).trans ?_
  rw [show (!(pq d (g4 a b c d), true).2) = false from rfl, frk_f, sIn, Option.bind_some]
  unfold Dspec_Primitive_4
  cases hE : rIn (pq d (g4 a b c d)) (-500) 500
  · rfl
  rw [show (!true) = false from rfl, frk_f, chk_eq (apB8 (by simp))]
  rfl
theorem primOk (n : Nat) (a b c d : Int) (ha : a.natAbs < 1000000000000) (hb : b.natAbs < 1000000000000) (hc : c.natAbs < 1000000000000) (hd : d.natAbs < 1000000000000)
    (na : a.natAbs < n) (nb : b.natAbs < n) (nc : c.natAbs < n) (nd : d.natAbs < n) (hn : 101 ≤ n) : Dspec_Primitive n a b c d = some (prim a b c d) := by
  unfold Dspec_Primitive
  by_cases h1 : a = 0
  · by_cases h2 : b = 0
    · by_cases h3 : c = 0
      · subst h1; subst h2; subst h3; rfl
      · have e := prim_body n a b c d ha hb hc hd na nb nc nd hn (by omega)
        rw [show (a == 0) = true by simpa using h1, frk_t, show (b == 0) = true by simpa using h2, frk_t]
        rw [show (c == 0) = false by simpa using h3]
        exact e
    · have e := prim_body n a b c d ha hb hc hd na nb nc nd hn (by omega)
      rw [show (a == 0) = true by simpa using h1, frk_t, show (b == 0) = false by simpa using h2, frk_f]
      exact e
  · have e := prim_body n a b c d ha hb hc hd na nb nc nd hn (by omega)
    rw [show (a == 0) = false by simpa using h1, frk_f]
    exact e
end Evl.T

/-! Eqa -/
namespace Evl.T
open Go Evl

mutual
def mk1 : Sol → Int → Int × Sol
  | .mk _ _ kids, k => ((mkL kids (k + 1 + 1 + 1 + 1 + 1)).1, .mk (Int.tmod k 3 == 0) ⟨k + 1, k + 1 + 1, k + 1 + 1 + 1, k + 1 + 1 + 1 + 1⟩ (mkL kids (k + 1 + 1 + 1 + 1 + 1)).2)
def mkL : List Sol → Int → Int × List Sol
  | [], k => (k, [])
  | x :: xs, k => ((mkL xs (mk1 x k).1).1, (mk1 x k).2 :: (mkL xs (mk1 x k).1).2)
end
theorem mkL_nil (k : Int) : mkL [] k = (k, []) := by rw [mkL]
theorem mkL_cons (x : Sol) (xs : List Sol) (k : Int) : mkL (x :: xs) k = ((mkL xs (mk1 x k).1).1, (mk1 x k).2 :: (mkL xs (mk1 x k).1).2) := by rw [mkL]
theorem mk1_eq (x : Sol) (k : Int) : mk1 x k = ((mkL x.kids (k + 1 + 1 + 1 + 1 + 1)).1, .mk (Int.tmod k 3 == 0) ⟨k + 1, k + 1 + 1, k + 1 + 1 + 1, k + 1 + 1 + 1 + 1⟩ (mkL x.kids (k + 1 + 1 + 1 + 1 + 1)).2) := by
  cases x; rw [mk1]; rfl
mutual
theorem mk1_fst : ∀ (x : Sol) (k : Int), (mk1 x k).1 = k + 5 + 5 * (tot x : Int)
  | .mk i p kids, k => by
    rw [mk1]
    have := mkL_fst kids (k + 1 + 1 + 1 + 1 + 1)
    rw [tot_mk]
    show (mkL kids (k + 1 + 1 + 1 + 1 + 1)).1 = _
    rw [this]; push_cast; omega
theorem mkL_fst : ∀ (l : List Sol) (k : Int), (mkL l k).1 = k + 5 * ((l.length : Int) + (totL l : Int))
  | [], k => by rw [mkL, totL]; simp
  | x :: xs, k => by
    rw [mkL]
    have h1 := mk1_fst x k
    have h2 := mkL_fst xs (mk1 x k).1
    show (mkL xs (mk1 x k).1).1 = _
    rw [h2, h1, totL, List.length_cons]; push_cast; omega
end
theorem mkL_len : ∀ (l : List Sol) (k : Int), (mkL l k).2.length = l.length
  | [], k => by rw [mkL]
  | x :: xs, k => by rw [mkL]; simp [mkL_len xs]

def gig : Int := 1000000000
theorem wk {k : Int} (h0 : 0 ≤ k) (h1 : k + 5 ≤ gig) : w64 (k + 1) = k + 1 ∧ w64 (k + 1 + 1) = k + 1 + 1 ∧ w64 (k + 1 + 1 + 1) = k + 1 + 1 + 1 ∧ w64 (k + 1 + 1 + 1 + 1) = k + 1 + 1 + 1 + 1 ∧ w64 (k + 1 + 1 + 1 + 1 + 1) = k + 1 + 1 + 1 + 1 + 1 := by
  unfold gig at h1
  refine ⟨?_, ?_, ?_, ?_, ?_⟩ <;> exact w64_id (by omega) (by omega)
theorem lget_mid (P : List Sol) (y : Sol) (r : List Sol) : lget (P ++ y :: r) ((P.length : Nat) : Int) = some y := by
  rw [lget_nat, List.getElem?_append_right (Nat.le_refl _)]; simp
theorem set_mid' (P : List Sol) (y z : Sol) (r : List Sol) : (P ++ y :: r).set (Int.toNat ((P.length : Nat) : Int)) z = P ++ z :: r := by
  rw [Int.toNat_natCast, List.set_append_right _ _ (Nat.le_refl _)]; simp
theorem markLoop (n : Nat) (self : List Sol × Int → Option (Int × List Sol)) : ∀ (r P : List Sol) (m : Nat) (k : Int), (∀ x ∈ r, ∀ k : Int, 0 ≤ k → k + 5 * (tot x : Int) ≤ gig → self (x.kids, k) = some (mkL x.kids k)) → r.length < m → P.length + r.length < big → 0 ≤ k → k + 5 * ((r.length : Int) + (totL r : Int)) ≤ gig →
    loopN (Dlaws_markSolidS_1 n self) m (k, ((P.length : Nat) : Int), P ++ r) = some ((mkL r k).1, P ++ (mkL r k).2) := by
  intro r
  induction r with
  | nil =>
    intro P m k hs hm hb h0 h1
    obtain ⟨m, rfl⟩ : ∃ q, m = q + 1 := ⟨m - 1, by omega⟩
    rw [loop_suc]
    simp only [Dlaws_markSolidS_1, List.append_nil, lt_self, frk_f, mkL_nil]
  | cons x r ih =>
    intro P m k hs hm hb h0 h1
    simp only [List.length_cons] at hm hb h1
    obtain ⟨m, rfl⟩ : ∃ q, m = q + 1 := ⟨m - 1, by omega⟩
    rw [totL] at h1
    push_cast at h1
    obtain ⟨w1, w2, w3, w4, w5⟩ := wk h0 (by omega)
    have hlt : ∀ y : Sol, decide (((P.length : Nat) : Int) < ((P ++ y :: r).length : Int)) = true := fun y => by simp; omega
    obtain ⟨xi, xp, xk⟩ := x
    have hself : self (xk, k + 1 + 1 + 1 + 1 + 1) = some (mkL xk (k + 1 + 1 + 1 + 1 + 1)) := hs _ List.mem_cons_self (k + 1 + 1 + 1 + 1 + 1) (by omega) (by omega)
    have hsuc : w64 (((P.length : Nat) : Int) + 1) = (((P ++ [(mk1 (.mk xi xp xk) k).2]).length : Nat) : Int) := by rw [w64_suc (by omega)]; simp
    rw [loop_suc]
    simp only [Dlaws_markSolidS_1, Dlaws_markSolidS_0, hlt, frk_t, lget_mid, set_mid', Option.bind_some, Sol.inn, Sol.pl, Sol.kids, w1, w2, w3, w4, w5]
    rw [hself, Option.bind_some, hsuc]
    have e : (Sol.mk (Int.tmod k 3 == 0) ⟨k + 1, k + 1 + 1, k + 1 + 1 + 1, k + 1 + 1 + 1 + 1⟩ (mkL xk (k + 1 + 1 + 1 + 1 + 1)).2) = (mk1 (.mk xi xp xk) k).2 := by rw [mk1]
    have e1 : (mkL xk (k + 1 + 1 + 1 + 1 + 1)).1 = (mk1 (.mk xi xp xk) k).1 := by rw [mk1]
    rw [e, e1, show P ++ (mk1 (.mk xi xp xk) k).2 :: r = (P ++ [(mk1 (.mk xi xp xk) k).2]) ++ r by simp]
    have hf := mk1_fst (.mk xi xp xk) k
    rw [ih (P ++ [(mk1 (.mk xi xp xk) k).2]) m (mk1 (.mk xi xp xk) k).1 (fun y hy => hs y (List.mem_cons_of_mem _ hy)) (by omega) (by simp; omega) (by omega) (by omega), mkL_cons]
    simp
theorem markOk : ∀ s, Lens s → tot s ≤ 1048576 → E2 fun n m => ∀ k : Int, 0 ≤ k → k + 5 * (tot s : Int) ≤ gig → loopN (Dlaws_markSolidS_b n) m (s.kids, k) = some (mkL s.kids k) := by
  refine sol_ind fun i p k ih hl ht => ?_
  rw [tot_mk] at ht
  cases hl with
  | mk hb hk =>
    have h1 := E2.all fun x hx => ih x hx (hk x hx) (by have := tot_le hx; omega)
    have h2 : E2 fun n _ => k.length < n := ⟨k.length + 1, fun n hn _ _ => by omega⟩
    refine E2.suc ((h1.and h2).mono fun n m ⟨h1, h2⟩ q hq0 hq1 => ?_)
    rw [tot_mk] at hq1
    push_cast at hq1
    rw [loop_suc]
    show loopN (Dlaws_markSolidS_1 n _) n (q, 0, k) = some (mkL k q)
    have := markLoop n (loopN (Dlaws_markSolidS_b n) m) k [] n q h1 h2 (by simp; unfold big; omega) hq0 hq1
    simpa using this
theorem markL (l : List Sol) (hl : ∀ x ∈ l, Lens x) (hlen : l.length ≤ big) (ht : l.length + totL l ≤ 1048576) : Ev fun n => Dlaws_markSolidS n l 1 = some (mkL l 1) :=
  (markOk (.mk false ⟨0, 0, 0, 0⟩ l) (.mk hlen hl) (by rw [tot_mk]; exact ht)).ev.mono fun n h => h 1 (by decide) (by rw [tot_mk]; unfold gig; omega)

theorem kidsOf {s : Sol} (h : Lens s) : s.kids.length ≤ big ∧ (∀ x ∈ s.kids, Lens x) ∧ tot s = s.kids.length + totL s.kids := by
  cases h with
  | mk hb hk => exact ⟨hb, hk, tot_mk _ _ _⟩
/-- A tree is marked: the number that comes back. -/
def mkN (s : Sol) : Int := (mkL s.kids 1).1
theorem mkN_ge (s : Sol) : 1 ≤ mkN s := by unfold mkN; rw [mkL_fst]; omega
theorem marks {s : Sol} (h : Lens s) (ht : tot s ≤ 1048576) : Ev fun n => Dlaws_markSolidS n s.kids 1 = some (mkL s.kids 1) := by
  obtain ⟨h1, h2, h3⟩ := kidsOf h
  exact markL s.kids h2 h1 (by omega)
theorem mkN_lt (s : Sol) : decide ((mkL s.kids 1).1 < 0) = false := decide_eq_false (by have := mkN_ge s; unfold mkN at this; omega)
theorem mkN_lt' (s : Sol) : decide (mkN s < 0) = false := mkN_lt s

/-- A tree that forks in two. -/
inductive Tw : Sol → Prop
  | leaf {i p} : Tw (.mk i p [])
  | node {i p a b} : Tw a → Tw b → Tw (.mk i p [a, b])
theorem Tw.lens {s : Sol} (h : Tw s) : Lens s := by
  induction h with
  | leaf => exact .mk (by simp [big]) (by simp)
  | node _ _ iha ihb =>
    refine .mk (by simp [big]) fun x hx => ?_
    simp only [List.mem_cons, List.not_mem_nil, or_false] at hx
    rcases hx with rfl | rfl
    · exact iha
    · exact ihb
theorem Tw.tot {s : Sol} (h : Tw s) : Evl.T.tot s = 2 * nod s := by
  induction h with
  | leaf => rw [tot_mk, nod_leaf]; simp [totL]
  | node _ _ iha ihb => rw [tot_mk, nod2]; simp only [totL, List.length_cons, List.length_nil, iha, ihb]; omega
theorem Rt.tw {s : Sol} {l : List Pl} (h : Rt s l) : Tw s := by
  induction h with
  | leaf _ => exact .leaf
  | node _ _ _ _ _ _ iha ihb => exact .node iha ihb

/-- The same, from any number on. -/
theorem markAt {s : Sol} (h : Lens s) (ht : tot s ≤ 1048576) : Ev fun n => ∀ k : Int, 0 ≤ k → k ≤ 900000000 → Dlaws_markSolidS n s.kids k = some (mkL s.kids k) :=
  (markOk s h ht).ev.mono fun n hn k h0 h1 => hn k h0 (by unfold gig; omega)
theorem mkL_tot {s : Sol} (k : Int) : (mkL s.kids k).1 = k + 5 * (tot s : Int) := by
  rw [mkL_fst]; cases s; rw [tot_mk]; push_cast; rfl
end Evl.T

/-! Eqo -/
namespace Evl.T
open Go Evl

theorem heldLoop (n : Nat) (self : List Sol × Int → Option Int) (L : List Sol) (hL : L.length ≤ big) : ∀ (r : List Sol) (i m : Nat) (k : Int), (∀ x ∈ r, ∀ k : Int, 0 ≤ k → k + 5 * (tot x : Int) ≤ gig → self ((mkL x.kids k).2, k) = some (mkL x.kids k).1) → L.drop i = (mkL r k).2 → i ≤ L.length → r.length < m → 0 ≤ k → k + 5 * ((r.length : Int) + (totL r : Int)) ≤ gig →
    loopN (Dlaws_heldSolidS_0 n self L) m (k, (i : Int)) = some (mkL r k).1 := by
  intro r
  induction r with
  | nil =>
    intro i m k hs hd hi hm h0 h1
    obtain ⟨m, rfl⟩ : ∃ q, m = q + 1 := ⟨m - 1, by omega⟩
    rw [mkL_nil] at hd
    have : i = L.length := by have := List.drop_eq_nil_iff.1 hd; omega
    subst this
    rw [loop_suc]
    simp only [Dlaws_heldSolidS_0, lt_self, frk_f, mkL_nil]
  | cons x r ih =>
    intro i m k hs hd hi hm h0 h1
    simp only [List.length_cons] at hm h1
    obtain ⟨m, rfl⟩ : ∃ q, m = q + 1 := ⟨m - 1, by omega⟩
    rw [totL] at h1
    push_cast at h1
    obtain ⟨w1, w2, w3, w4, w5⟩ := wk h0 (by omega)
    rw [mkL_cons] at hd
    obtain ⟨hil, hx, hd', -⟩ := drop_get hd
    obtain ⟨xi, xp, xk⟩ := x
    have hself : self ((mkL xk (k + 1 + 1 + 1 + 1 + 1)).2, k + 1 + 1 + 1 + 1 + 1) = some (mkL xk (k + 1 + 1 + 1 + 1 + 1)).1 := hs _ List.mem_cons_self (k + 1 + 1 + 1 + 1 + 1) (by omega) (by omega)
    have hf := mk1_fst (.mk xi xp xk) k
    have e1 : (mkL xk (k + 1 + 1 + 1 + 1 + 1)).1 = (mk1 (.mk xi xp xk) k).1 := by rw [mk1]
    have hnn : decide ((mkL xk (k + 1 + 1 + 1 + 1 + 1)).1 < 0) = false := decide_eq_false (by rw [e1]; omega)
    rw [loop_suc]
    simp only [Dlaws_heldSolidS_0, lt_dec hil, frk_t, lget_nat, hx, Option.bind_some, w1, w2, w3, w4, w5]
    simp only [mk1, Sol.inn, Sol.pl, Sol.kids, beq_self_eq_true, Bool.not_true, frk_f, bne_self_eq_false]
    rw [hself, Option.bind_some, hnn, frk_f, w64_suc (by omega), e1]
    rw [ih (i + 1) m (mk1 (.mk xi xp xk) k).1 (fun y hy => hs y (List.mem_cons_of_mem _ hy)) hd' (by omega) (by omega) (by omega) (by omega), mkL_cons]
theorem heldOk : ∀ s, Lens s → tot s ≤ 1048576 → E2 fun n m => ∀ k : Int, 0 ≤ k → k + 5 * (tot s : Int) ≤ gig → loopN (Dlaws_heldSolidS_b n) m ((mkL s.kids k).2, k) = some (mkL s.kids k).1 := by
  refine sol_ind fun i p k ih hl ht => ?_
  rw [tot_mk] at ht
  cases hl with
  | mk hb hk =>
    have h1 := E2.all fun x hx => ih x hx (hk x hx) (by have := tot_le hx; omega)
    have h2 : E2 fun n _ => k.length < n := ⟨k.length + 1, fun n hn _ _ => by omega⟩
    refine E2.suc ((h1.and h2).mono fun n m ⟨h1, h2⟩ q hq0 hq1 => ?_)
    rw [tot_mk] at hq1
    push_cast at hq1
    rw [loop_suc]
    show loopN (Dlaws_heldSolidS_0 n _ (mkL k q).2) n (q, 0) = some (mkL k q).1
    exact heldLoop n (loopN (Dlaws_heldSolidS_b n) m) (mkL k q).2 (by rw [mkL_len]; exact hb) k 0 n q h1 (by simp) (by omega) h2 hq0 hq1
theorem heldL (s : Sol) (l : List Sol) (hs : s.kids = (mkL l 1).2) (hl : ∀ x ∈ l, Lens x) (hlen : l.length ≤ big) (ht : l.length + totL l ≤ 1048576) : Ev fun n => Dlaws_heldSolid n s 1 = some (mkL l 1).1 :=
  (heldOk (.mk false ⟨0, 0, 0, 0⟩ l) (.mk hlen hl) (by rw [tot_mk]; exact ht)).ev.mono fun n h => by
    have := h 1 (by decide) (by rw [tot_mk]; unfold gig; omega)
    have h1 := mkL_fst l 1
    unfold Dlaws_heldSolid Dlaws_heldSolidS
    rw [hs]
    have e : loopN (Dlaws_heldSolidS_b n) n ((mkL l 1).2, 1) = some (mkL l 1).1 := this
    rw [e, Option.bind_some, decide_eq_false (by omega), frk_f]

theorem helds {s : Sol} (h : Lens s) (ht : tot s ≤ 1048576) : Ev fun n => Dlaws_heldSolid n (Sol.mk s.inn s.pl (mkL s.kids 1).2) 1 = some (mkN s) := by
  obtain ⟨h1, h2, h3⟩ := kidsOf h
  exact heldL _ s.kids rfl h2 h1 (by omega)
theorem heldAt {s : Sol} (h : Lens s) (ht : tot s ≤ 1048576) : Ev fun n => ∀ k : Int, 0 ≤ k → k ≤ 900000000 → Dlaws_heldSolid n (Sol.mk s.inn s.pl (mkL s.kids k).2) k = some (mkL s.kids k).1 :=
  (heldOk s h ht).ev.mono fun n hn k h0 h1 => by
    have h2 := hn k h0 (by unfold gig; omega)
    have h3 := mkL_fst s.kids k
    unfold Dlaws_heldSolid Dlaws_heldSolidS
    have e : loopN (Dlaws_heldSolidS_b n) n ((mkL s.kids k).2, k) = some (mkL s.kids k).1 := h2
    show ((loopN (Dlaws_heldSolidS_b n) n ((mkL s.kids k).2, k)).bind _) = _
    rw [e, Option.bind_some, decide_eq_false (by omega), frk_f]
end Evl.T

/-! Eso -/
namespace Evl.T
open Go Evl

/-- Each plane of a tree is another one. -/
inductive Mp (f : Pl → Pl) : Sol → Sol → Prop
  | leaf {i p} : Mp f (.mk i p []) (.mk i ⟨0, 0, 0, 0⟩ [])
  | node {i p a b x y} : Mp f a x → Mp f b y → Mp f (.mk i p [a, b]) (.mk false (f p) [x, y])
theorem Mp.out {f : Pl → Pl} {s x : Sol} (h : Mp f s x) : Tw x ∧ nod x = nod s := by
  induction h with
  | leaf => exact ⟨.leaf, by rw [nod_leaf, nod_leaf]⟩
  | node _ _ iha ihb => exact ⟨.node iha.1 ihb.1, by rw [nod2, nod2, iha.2, ihb.2]⟩
theorem Mp.comp {f g : Pl → Pl} {s x : Sol} (h : Mp f s x) : ∀ {y}, Mp g x y → Mp (fun p => g (f p)) s y := by
  induction h with
  | leaf => intro y h; cases h; exact .leaf
  | node _ _ iha ihb => intro y h; cases h with | node h1 h2 => exact .node (iha h1) (ihb h2)
theorem Mp.exists {s : Sol} (h : Tw s) (f : Pl → Pl) : ∃ x, Mp f s x := by
  induction h with
  | leaf => exact ⟨_, .leaf⟩
  | node _ _ iha ihb => obtain ⟨x, hx⟩ := iha; obtain ⟨y, hy⟩ := ihb; exact ⟨_, .node hx hy⟩
theorem Mp.self {s : Sol} {l : List Pl} (h : Rt s l) : Mp (fun p => p) s s := by
  induction h with
  | @leaf i p path hz =>
    have : p = ⟨0, 0, 0, 0⟩ := by
      unfold zPl at hz
      simp only [Bool.and_true, Bool.and_eq_true, beq_iff_eq] at hz
      cases p; simp_all
    subst this; exact .leaf
  | node _ _ _ _ _ _ iha ihb => exact .node iha ihb
end Evl.T

/-! Esh -/
namespace Evl.T
open Go Evl

def qtB (p : Pt) : Bool := rIn p.X (-1000000) 1000000 && (rIn p.Y (-1000000) 1000000 && rIn p.Z (-1000000) 1000000)
theorem sQtOk (p : Pt) : Dspec_PtOk p = some (qtB p) := by
  unfold Dspec_PtOk qtB
  simp only [sIn, Option.bind_some]
  cases rIn p.X (-1000000) 1000000 <;> cases rIn p.Y (-1000000) 1000000 <;> rfl
theorem iQtOk (p : Pt) : Dimpl_PtOk p = some (qtB p) := by
  unfold Dimpl_PtOk qtB
  simp only [iIn, Option.bind_some]
  cases rIn p.X (-1000000) 1000000 <;> cases rIn p.Y (-1000000) 1000000 <;> rfl
/-- The last coefficient of the shifted plane. -/
def shD (p : Pl) (q : Pt) : Int := p.D - (p.A * q.X + p.B * q.Y + p.C * q.Z)
def shP (q : Pt) (p : Pl) : Pl × Int :=
  if pOk p then if qtB q then if rIn (shD p q) (-500) 500 then (⟨p.A, p.B, p.C, shD p q⟩, 0) else (⟨0, 0, 0, 0⟩, 2) else (⟨0, 0, 0, 0⟩, 1) else (⟨0, 0, 0, 0⟩, 1)
theorem shD_w {p : Pl} {q : Pt} (hp : PB p) (hq : qtB q = true) : w64 (p.D - (w64 ((w64 ((w64 (p.A * q.X)) + (w64 (p.B * q.Y)))) + (w64 (p.C * q.Z))))) = shD p q ∧ B 1500000500 (shD p q) := by
  unfold qtB at hq
  simp only [Bool.and_eq_true, rIn_iff] at hq
  obtain ⟨h1, h2, h3⟩ := hq
  obtain ⟨b1, b2, b3, b4⟩ := hp
  have c1 := b1.mul (B.of (a := 1000000) h1.1 h1.2)
  have c2 := b2.mul (B.of (a := 1000000) h2.1 h2.2)
  have c3 := b3.mul (B.of (a := 1000000) h3.1 h3.2)
  have c : B 1500000500 (shD p q) := (b4.sub ((c1.add c2).add c3)).up (by decide)
  refine ⟨?_, c⟩
  rw [w64_B c1 (by decide), w64_B c2 (by decide), w64_B c3 (by decide), w64_B (c1.add c2) (by decide), w64_B ((c1.add c2).add c3) (by decide)]
  exact w64_B c (by decide)
theorem g4_shift {p : Pl} (h : pOk p = true) (q : Pt) : g4 p.A p.B p.C (shD p q) = 1 := by
  have hg : Nat.gcd (Nat.gcd p.A.natAbs p.B.natAbs) (Nat.gcd p.C.natAbs p.D.natAbs) = 1 := by
    unfold pOk at h
    simp only [Bool.and_eq_true, decide_eq_true_eq] at h
    exact h.2.2.2.2.2
  have hd := Nat.gcd_dvd_left (Nat.gcd (Nat.gcd p.A.natAbs p.B.natAbs) p.C.natAbs) (shD p q).natAbs
  have hd4 := Nat.gcd_dvd_right (Nat.gcd (Nat.gcd p.A.natAbs p.B.natAbs) p.C.natAbs) (shD p q).natAbs
  have e : g4 p.A p.B p.C (shD p q) = Nat.gcd (Nat.gcd (Nat.gcd p.A.natAbs p.B.natAbs) p.C.natAbs) (shD p q).natAbs := rfl
  rw [← e] at hd hd4
  have d12 := Nat.dvd_trans hd (Nat.gcd_dvd_left _ _)
  have d3 := Nat.dvd_trans hd (Nat.gcd_dvd_right _ _)
  have d1 := Nat.dvd_trans d12 (Nat.gcd_dvd_left _ _)
  have d2 := Nat.dvd_trans d12 (Nat.gcd_dvd_right _ _)
  have i1 := Int.ofNat_dvd_left.2 d1
  have i2 := Int.ofNat_dvd_left.2 d2
  have i3 := Int.ofNat_dvd_left.2 d3
  have i4 := Int.ofNat_dvd_left.2 hd4
  have i5 : ((g4 p.A p.B p.C (shD p q) : Nat) : Int) ∣ p.D := by
    have : p.D = shD p q + (p.A * q.X + p.B * q.Y + p.C * q.Z) := by unfold shD; omega
    rw [this]
    exact Int.dvd_add i4 (Int.dvd_add (Int.dvd_add (Int.dvd_trans i1 (Int.dvd_mul_right _ _)) (Int.dvd_trans i2 (Int.dvd_mul_right _ _))) (Int.dvd_trans i3 (Int.dvd_mul_right _ _)))
  have d5 := Int.ofNat_dvd_left.1 i5
  have := Nat.dvd_gcd (Nat.dvd_gcd d1 d2) (Nat.dvd_gcd d3 d5)
  rw [hg] at this
  exact Nat.dvd_one.1 this
theorem pq_one (x : Int) : pq x 1 = x := by unfold pq; rw [Nat.div_one]; split <;> omega
theorem sShifted (n : Nat) (p : Pl) (q : Pt) (hn : 1500001000 ≤ n) : Dspec_Shifted n p q = some (shP q p) := by
  unfold Dspec_Shifted shP
  rw [sPlaneOk n p (by omega), Option.bind_some]
  cases hp : pOk p with
  | false => rfl
  | true =>
    rw [Bool.not_true, frk_f, sQtOk, Option.bind_some]
    unfold Dspec_Shifted_0
    cases hq : qtB q with
    | false => rfl
    | true =>
      obtain ⟨e, hB⟩ := shD_w (pOk_PB hp) hq
      have hB' := hB
      unfold B at hB'
      obtain ⟨b1, b2, b3, b4⟩ := pOk_PB hp
      unfold B at b1 b2 b3 b4
      have h0 : ¬ (p.A = 0 ∧ p.B = 0 ∧ p.C = 0) := by
        unfold pOk at hp
        simp only [Bool.and_eq_true, decide_eq_true_eq] at hp
        have := hp.2.2.2.2.1; omega
      rw [Bool.not_true, frk_f, e, primOk n _ _ _ _ (by omega) (by omega) (by omega) (by omega) (by omega) (by omega) (by omega) (by omega) (by omega)]
      unfold prim
      rw [if_neg h0, g4_shift hp, pq_one, pq_one, pq_one, pq_one]
      have hr : rIn p.A (-500) 500 = true ∧ rIn p.B (-500) 500 = true ∧ rIn p.C (-500) 500 = true := by
        unfold pOk at hp
        simp only [Bool.and_eq_true] at hp
        exact ⟨hp.1, hp.2.1, hp.2.2.1⟩
      rw [hr.1, hr.2.1, hr.2.2, if_pos rfl, if_pos rfl]
      cases rIn (shD p q) (-500) 500 <;> rfl
theorem iShifted (n : Nat) (p : Pl) (q : Pt) (hn : 502 ≤ n) : Dimpl_Shifted n p q = some (shP q p) := by
  unfold Dimpl_Shifted shP
  rw [iPlaneOk n p (by omega), Option.bind_some]
  cases hp : pOk p with
  | false => rfl
  | true =>
    rw [Bool.not_true, frk_f, iQtOk, Option.bind_some]
    unfold Dimpl_Shifted_0
    cases hq : qtB q with
    | false => rfl
    | true =>
      obtain ⟨e, hB⟩ := shD_w (pOk_PB hp) hq
      rw [Bool.not_true, frk_f, e, iCoef, Option.bind_some, if_pos rfl, if_pos rfl]
      cases rIn (shD p q) (-500) 500 <;> rfl
/-- All planes of a tree can be shifted. -/
def shOk (q : Pt) : Sol → Bool
  | .mk _ _ [] => true
  | .mk _ p [a, b] => ((shP q p).2 == 0) && (shOk q a && shOk q b)
  | _ => true
theorem sShiftT {q : Pt} {s x : Sol} (h : Mp (fun p => (shP q p).1) s x) : E2 fun n m => loopN (Dspec_l16Shift_b n) m (s, q) = some (x, shOk q s) := by
  induction h with
  | @leaf i p => exact E2.suc (E2.of fun n m => by rw [loop_suc]; rfl)
  | @node i p a b x y _ _ iha ihb =>
    have h5 : E2 fun n _ => 1500001000 ≤ n := ⟨1500001000, fun n hn _ _ => hn⟩
    refine E2.suc ((h5.and (iha.and ihb)).mono fun n m ⟨h0, h1, h2⟩ => ?_)
    rw [loop_suc]
    have hl : Dspec_l8Leaf (Sol.mk i p [a, b]) = some false := rfl
    have e : Dspec_l16Shift_b n (loopN (Dspec_l16Shift_b n) m) (Sol.mk i p [a, b], q) = (Dspec_l8Leaf (Sol.mk i p [a, b])).bind fun v0 => frk v0 ((Dspec_Leaf i).bind fun v1 => some (v1, true)) ((Dspec_Shifted n p q).bind fun v2 => (lget [a, b] 0).bind fun v3 => (loopN (Dspec_l16Shift_b n) m (v3, q)).bind fun v4 => (lget [a, b] 1).bind fun v5 => (loopN (Dspec_l16Shift_b n) m (v5, q)).bind fun v6 => (Dspec_l8Nodeo1o2 v2.1 v4.1 v6.1).bind fun v7 => frk (v2.2 == 0) (frk v4.2 (some (v7, v6.2)) (some (v7, false))) (some (v7, false))) := rfl
    rw [e, hl, Option.bind_some, frk_f, sShifted n p q h0, Option.bind_some, show lget [a, b] 0 = some a from rfl, Option.bind_some, h1, Option.bind_some, show lget [a, b] 1 = some b from rfl, Option.bind_some, h2, Option.bind_some]
    show frk ((shP q p).2 == 0) (frk (shOk q a) (some (Sol.mk false (shP q p).1 [x, y], shOk q b)) (some (Sol.mk false (shP q p).1 [x, y], false))) (some (Sol.mk false (shP q p).1 [x, y], false)) = some (Sol.mk false (shP q p).1 [x, y], ((shP q p).2 == 0) && (shOk q a && shOk q b))
    cases (shP q p).2 == 0 <;> cases shOk q a <;> rfl
theorem iShiftT {q : Pt} {s x : Sol} (h : Mp (fun p => (shP q p).1) s x) : E2 fun n m => loopN (Dimpl_movedfimpl_ShiftSolidLit1_b n) m (s, q) = some (x, shOk q s) := by
  induction h with
  | @leaf i p => exact E2.suc (E2.of fun n m => by rw [loop_suc]; rfl)
  | @node i p a b x y _ _ iha ihb =>
    have h5 : E2 fun n _ => 1500001000 ≤ n := ⟨1500001000, fun n hn _ _ => hn⟩
    refine E2.suc ((h5.and (iha.and ihb)).mono fun n m ⟨h0, h1, h2⟩ => ?_)
    rw [loop_suc]
    have hl : Dimpl_Solid_isLeaf (Sol.mk i p [a, b]) = some false := rfl
    have hs : Dimpl_ShiftSolidLit1 n p q = some ((shP q p).1, (shP q p).2 == 0) := by
      unfold Dimpl_ShiftSolidLit1; rw [iShifted n p q (by omega)]; rfl
    have e : Dimpl_movedfimpl_ShiftSolidLit1_b n (loopN (Dimpl_movedfimpl_ShiftSolidLit1_b n) m) (Sol.mk i p [a, b], q) = (Dimpl_Solid_isLeaf (Sol.mk i p [a, b])).bind fun v0 => frk v0 ((Dimpl_Leaf i).bind fun v1 => some (v1, true)) ((Dimpl_ShiftSolidLit1 n p q).bind fun v2 => (lget [a, b] 0).bind fun v3 => (loopN (Dimpl_movedfimpl_ShiftSolidLit1_b n) m (v3, q)).bind fun v4 => (lget [a, b] 1).bind fun v5 => (loopN (Dimpl_movedfimpl_ShiftSolidLit1_b n) m (v5, q)).bind fun v6 => (Dimpl_nodeo1o2 v2.1 v4.1 v6.1).bind fun v7 => frk v2.2 (frk v4.2 (some (v7, v6.2)) (some (v7, false))) (some (v7, false))) := rfl
    rw [e, hl, Option.bind_some, frk_f, hs, Option.bind_some, show lget [a, b] 0 = some a from rfl, Option.bind_some, h1, Option.bind_some, show lget [a, b] 1 = some b from rfl, Option.bind_some, h2, Option.bind_some]
    show frk ((shP q p).2 == 0) (frk (shOk q a) (some (Sol.mk false (shP q p).1 [x, y], shOk q b)) (some (Sol.mk false (shP q p).1 [x, y], false))) (some (Sol.mk false (shP q p).1 [x, y], false)) = some (Sol.mk false (shP q p).1 [x, y], ((shP q p).2 == 0) && (shOk q a && shOk q b))
    cases (shP q p).2 == 0 <;> cases shOk q a <;> rfl
open Classical in
theorem shiftEq (s : Sol) (h : Lens s) (ht : tot s ≤ 1048576) (q : Pt) : ∃ x c, Tw x ∧ tot x ≤ 1048576 ∧ Ev fun n => Dspec_ShiftSolid n s q = some (x, c) ∧ Dimpl_ShiftSolid n s q = some (x, c) := by
  have e1 := sSolidOk s h; have e2 := iSolidOk s
  have hz : Tw (Sol.mk false (Pl.mk 0 0 0 0) []) := .leaf
  have tz : tot (Sol.mk false (Pl.mk 0 0 0 0) []) ≤ 1048576 := by rw [tot_mk]; decide
  by_cases hr : Right s
  · cases hq : qtB q with
    | false =>
      refine ⟨_, 1, hz, tz, (e1.and e2).mono fun n ⟨h1, h2⟩ => ⟨?_, ?_⟩⟩
      · unfold Dspec_ShiftSolid
        rw [h1, decide_eq_true hr, Option.bind_some, Bool.not_true, frk_f, sQtOk, hq, Option.bind_some]; rfl
      · unfold Dimpl_ShiftSolid
        rw [iQtOk, hq, Option.bind_some]; rfl
    | true =>
      obtain ⟨x, hx⟩ := Mp.exists hr.1.tw (fun p => (shP q p).1)
      have hxt := hx.out.1.tot
      have hn := hr.2
      cases hk : shOk q s with
      | true =>
        refine ⟨x, 0, hx.out.1, by rw [hxt, hx.out.2]; omega, (e1.and (e2.and ((sShiftT hx).ev.and (iShiftT hx).ev))).mono fun n ⟨h1, h2, h3, h4⟩ => ⟨?_, ?_⟩⟩
        · have h3' : Dspec_l16Shift n s q = some (x, shOk q s) := h3
          unfold Dspec_ShiftSolid Dspec_ShiftSolid_0
          rw [h1, decide_eq_true hr, Option.bind_some, Bool.not_true, frk_f, sQtOk, hq, Option.bind_some, Bool.not_true, frk_f, sol_eq', show Pt.mk q.X q.Y q.Z = q from rfl, h3', hk]; rfl
        · have h4' : Dimpl_movedfimpl_ShiftSolidLit1 n s q = some (x, shOk q s) := h4
          unfold Dimpl_ShiftSolid Dimpl_ShiftSolid_0
          rw [iQtOk, hq, Option.bind_some, Bool.not_true, frk_f, h2, decide_eq_true hr, Option.bind_some, Bool.not_true, frk_f, sol_eq', show Pt.mk q.X q.Y q.Z = q from rfl, h4', hk]; rfl
      | false =>
        refine ⟨_, 3, hz, tz, (e1.and (e2.and ((sShiftT hx).ev.and (iShiftT hx).ev))).mono fun n ⟨h1, h2, h3, h4⟩ => ⟨?_, ?_⟩⟩
        · have h3' : Dspec_l16Shift n s q = some (x, shOk q s) := h3
          unfold Dspec_ShiftSolid Dspec_ShiftSolid_0
          rw [h1, decide_eq_true hr, Option.bind_some, Bool.not_true, frk_f, sQtOk, hq, Option.bind_some, Bool.not_true, frk_f, sol_eq', show Pt.mk q.X q.Y q.Z = q from rfl, h3', hk]; rfl
        · have h4' : Dimpl_movedfimpl_ShiftSolidLit1 n s q = some (x, shOk q s) := h4
          unfold Dimpl_ShiftSolid Dimpl_ShiftSolid_0
          rw [iQtOk, hq, Option.bind_some, Bool.not_true, frk_f, h2, decide_eq_true hr, Option.bind_some, Bool.not_true, frk_f, sol_eq', show Pt.mk q.X q.Y q.Z = q from rfl, h4', hk]; rfl
  · refine ⟨_, 1, hz, tz, (e1.and e2).mono fun n ⟨h1, h2⟩ => ⟨?_, ?_⟩⟩
    · unfold Dspec_ShiftSolid
      rw [h1, decide_eq_false hr, Option.bind_some]; rfl
    · unfold Dimpl_ShiftSolid Dimpl_ShiftSolid_0
      rw [iQtOk, Option.bind_some]
      cases qtB q
      · rfl
      · rw [Bool.not_true, frk_f, h2, decide_eq_false hr]; rfl
theorem plain_ShiftSolid {G : Pt → Prop} (a : Sol) (ha : Lens a) (q : Pt) (_ : G q) : ∃ n, Dlaws_FnExactShiftSolid n a.kids a q = some true := by
  have e1 := sz a ha
  have ea : Sol.mk a.inn a.pl a.kids = a := Sol.eta a
  by_cases ht : (tot a : Int) ≤ 1048576
  · obtain ⟨x, c, hx, tx, hv⟩ := shiftEq a ha (by omega) q
    obtain ⟨n, hN⟩ := (e1.and ((to a (by omega)).and ((eqs a (by omega)).and ((eqs x (by omega)).and (hv.and ((markAt ha (by omega)).and ((markAt hx.lens (by omega)).and (heldAt hx.lens (by omega)))))))))
    obtain ⟨k1, k2, k3, k4, ⟨f1, f2⟩, ma, mx, hxx⟩ := hN n (Nat.le_refl n)
    rw [szv_yes ht] at k1
    have ta := mkL_tot (s := a) 1
    have tX := mkL_tot (s := x) 1
    have m1 := ma 1 (by omega) (by omega)
    have m2 := mx 1 (by omega) (by omega)
    have m3 := hxx 1 (by omega) (by omega)
    have d1 : decide ((1048576 - (tot a : Int)) < 0) = false := decide_eq_false (by omega)
    have d2 : decide ((mkL a.kids 1).1 < 0) = false := decide_eq_false (by omega)
    have d3 : decide ((mkL x.kids 1).1 < 0) = false := decide_eq_false (by omega)
    have hpt : Dlaws_toPt q = some q := rfl
    have hpt' : Pt.mk q.X q.Y q.Z = q := rfl
    refine ⟨n, ?_⟩
    simp only [Dlaws_FnExactShiftSolid, Dlaws_FnExactShiftSolid_0, Dlaws_FnExactShiftSolid_1, Dlaws_FnExactShiftSolid_2, Dlaws_FnExactShiftSolid_3, Dlaws_FnExactShiftSolid_4, hpt, hpt', pl_eq, sol_eq, ea, k1, k2, k3, k4, f1, f2, m1, m2, m3, d1, d2, d3, Option.bind_some, Bool.not_true, frk_f, bne_self_eq_false]
  · obtain ⟨n, hN⟩ := e1
    have k1 := hN n (Nat.le_refl n)
    rw [szv_no ht] at k1
    refine ⟨n, ?_⟩
    simp only [Dlaws_FnExactShiftSolid, ea, k1, Option.bind_some]; rfl
end Evl.T
