/- Texts that belong together, joined. No condition. -/
import Derived.Test.YtljcjahaeebocaaDoorJp
import Derived.Test.YtljcjahaeebocaaDoorJm
/-! Egi -/
namespace Evl.T
open Go Evl

def vl : List Int → Int
  | [] => 0
  | d :: l => d + 10000 * vl l
def Dg (l : List Int) : Prop := ∀ d ∈ l, 0 ≤ d ∧ d ≤ 9999
theorem Dg.head {d : Int} {l : List Int} (h : Dg (d :: l)) : 0 ≤ d ∧ d ≤ 9999 := h d (by simp)
theorem Dg.tail {d : Int} {l : List Int} (h : Dg (d :: l)) : Dg l := fun x hx => h x (by simp [hx])
theorem Dg.cons {d : Int} {l : List Int} (h1 : 0 ≤ d) (h2 : d ≤ 9999) (h : Dg l) : Dg (d :: l) := by
  intro x hx
  rcases List.mem_cons.1 hx with rfl | hx
  · exact ⟨h1, h2⟩
  · exact h x hx
theorem Dg.nil : Dg [] := fun _ h => absurd h (by simp)
theorem Dg.get {l : List Int} (h : Dg l) {i : Nat} {d : Int} (hd : l[i]? = some d) : 0 ≤ d ∧ d ≤ 9999 := h d (List.mem_of_getElem? hd)
theorem Dg.take {l : List Int} (h : Dg l) (i : Nat) : Dg (l.take i) := fun d hd => h d (List.mem_of_mem_take hd)
theorem Dg.drop {l : List Int} (h : Dg l) (i : Nat) : Dg (l.drop i) := fun d hd => h d (List.mem_of_mem_drop hd)
theorem vl_nn : ∀ {l : List Int}, Dg l → 0 ≤ vl l
  | [], _ => Int.le_refl _
  | d :: l, h => by have := vl_nn h.tail; have := h.head; unfold vl; omega
def dg (v : Nat) : List Int := if v = 0 then [] else ((v % 10000 : Nat) : Int) :: dg (v / 10000)
theorem dg_zero : dg 0 = [] := by rw [dg, if_pos rfl]
theorem dg_pos {v : Nat} (h : 0 < v) : dg v = ((v % 10000 : Nat) : Int) :: dg (v / 10000) := by rw [dg, if_neg (by omega)]
theorem Dg_dg (v : Nat) : Dg (dg v) := by
  induction v using Nat.strongRecOn with
  | ind v ih =>
    by_cases h : v = 0
    · subst h; rw [dg_zero]; exact Dg.nil
    · rw [dg_pos (by omega)]; exact Dg.cons (by omega) (by omega) (ih _ (by omega))
theorem vl_dg (v : Nat) : vl (dg v) = v := by
  induction v using Nat.strongRecOn with
  | ind v ih =>
    by_cases h : v = 0
    · subst h; rw [dg_zero]; rfl
    · rw [dg_pos (by omega)]; unfold vl; rw [ih _ (by omega)]; omega
theorem dg_inj {a b : Nat} (h : dg a = dg b) : a = b := by have := congrArg vl h; rw [vl_dg, vl_dg] at this; omega
theorem dg_len : ∀ (k v : Nat), v < 10000 ^ k → (dg v).length ≤ k
  | 0, v, h => by
      have : v = 0 := by simpa using h
      subst this; rw [dg_zero]; exact Nat.le_refl 0
  | k + 1, v, h => by
    by_cases h0 : v = 0
    · subst h0; rw [dg_zero]; simp
    · rw [dg_pos (by omega), List.length_cons]
      have := dg_len k (v / 10000) (by rw [Nat.pow_succ] at h; omega)
      omega
theorem dg_len3 {v : Nat} (h : v < 1000000000000) : (dg v).length ≤ 3 := dg_len 3 v (by simpa using h)
theorem dg_mono {a b : Nat} (h : b ≤ a) : (dg b).length ≤ (dg a).length := by
  induction a using Nat.strongRecOn generalizing b with
  | ind a ih =>
    by_cases h0 : b = 0
    · subst h0; rw [dg_zero]; simp
    · rw [dg_pos (v := b) (by omega), dg_pos (v := a) (by omega), List.length_cons, List.length_cons]
      have := ih (a / 10000) (by omega) (b := b / 10000) (by omega)
      omega
theorem dg_ne {v : Nat} : dg v ≠ [] ↔ 0 < v := by
  constructor
  · intro h
    by_cases h0 : v = 0
    · subst h0; exact absurd dg_zero h
    · omega
  · intro h; rw [dg_pos h]; simp
theorem dg_last (v : Nat) : (dg v).getLast? ≠ some 0 := by
  induction v using Nat.strongRecOn with
  | ind v ih =>
    by_cases h : v = 0
    · subst h; rw [dg_zero]; simp
    · rw [dg_pos (by omega)]
      by_cases h2 : v / 10000 = 0
      · rw [h2, dg_zero]; simp; omega
      · have := ih (v / 10000) (by omega)
        rw [dg_pos (v := v / 10000) (by omega)] at this ⊢
        rw [List.getLast?_cons_cons]; exact this
theorem dg_of : ∀ {l : List Int}, Dg l → l.getLast? ≠ some 0 → l = dg (vl l).toNat ∧ (l ≠ [] → 0 < vl l)
  | [], _, _ => ⟨by show [] = dg 0; rw [dg_zero], fun h => absurd rfl h⟩
  | [d], h, hl => by
    have hd := h.head
    have h0 : d ≠ 0 := by simpa using hl
    have e : vl [d] = d := by simp [vl]
    refine ⟨?_, fun _ => by rw [e]; omega⟩
    rw [e, dg_pos (by omega), show d.toNat / 10000 = 0 by omega, dg_zero]
    congr 1; omega
  | d :: e :: l, h, hl => by
    rw [List.getLast?_cons_cons] at hl
    obtain ⟨h1, h2⟩ := dg_of h.tail hl
    have h2 := h2 (by simp)
    have hd := h.head
    have e1 : vl (d :: e :: l) = d + 10000 * vl (e :: l) := rfl
    refine ⟨?_, fun _ => by omega⟩
    rw [e1, dg_pos (by omega), show (d + 10000 * vl (e :: l)).toNat / 10000 = (vl (e :: l)).toNat by omega, ← h1]
    congr 1; omega
theorem dg_of' {l : List Int} (h : Dg l) (hl : l.getLast? ≠ some 0) {v : Nat} (hv : vl l = v) : l = dg v := by
  have := (dg_of h hl).1; rw [hv] at this; exact this

theorem vl_app : ∀ (a b : List Int), vl (a ++ b) = vl a + 10000 ^ a.length * vl b
  | [], b => by simp [vl]
  | d :: a, b => by
    rw [List.cons_append]; show d + 10000 * vl (a ++ b) = (d + 10000 * vl a) + 10000 ^ (d :: a).length * vl b; rw [vl_app a b, List.length_cons, Int.pow_succ, Int.mul_add]
    have : (10000 : Int) ^ a.length * 10000 * vl b = 10000 * ((10000 : Int) ^ a.length * vl b) := by rw [Int.mul_comm ((10000 : Int) ^ a.length) 10000, Int.mul_assoc]
    omega
theorem vl_lt : ∀ {l : List Int}, Dg l → vl l < 10000 ^ l.length
  | [], _ => by simp [vl]
  | d :: l, h => by
    have := vl_lt h.tail; have := h.head
    unfold vl; rw [List.length_cons, Int.pow_succ]; omega
theorem vl_take_s {l : List Int} {i : Nat} {d : Int} (hd : l[i]? = some d) : vl (l.take (i + 1)) = vl (l.take i) + 10000 ^ i * d := by
  have hi := (List.getElem?_eq_some_iff.1 hd).1
  rw [List.take_add_one, hd, vl_app, List.length_take, Nat.min_eq_left (by omega)]
  simp [vl]
theorem vl_drop_s {l : List Int} {i : Nat} {d : Int} (hd : l[i]? = some d) : vl (l.drop i) = d + 10000 * vl (l.drop (i + 1)) := by
  obtain ⟨hi, he⟩ := List.getElem?_eq_some_iff.1 hd
  rw [List.drop_eq_getElem_cons hi, he]; rfl
theorem vl_drop_le {l : List Int} (h : Dg l) : ∀ (i : Nat), vl (l.drop i) ≤ vl l := by
  intro i
  induction i generalizing l with
  | zero => exact Int.le_refl _
  | succ i ih =>
    cases l with
    | nil => exact Int.le_refl _
    | cons d l =>
      have := ih h.tail; have := h.head; have := vl_nn h.tail
      rw [List.drop_succ_cons]
      have e : vl (d :: l) = d + 10000 * vl l := rfl
      omega

theorem apB8 {n : Nat} (h : n ≤ 1000000) : apB 8 n = true := by
  simp only [apB, Bool.and_eq_true, decide_eq_true_eq]; omega
theorem w64_prd {i : Nat} (h : i ≤ 1000000) : w64 (((i + 1 : Nat) : Int) - 1) = (i : Int) := by
  rw [w64_id (by omega) (by omega)]; omega
theorem dec_t {p : Prop} [Decidable p] (h : p) : decide p = true := by simp [h]
theorem dec_f {p : Prop} [Decidable p] (h : ¬ p) : decide p = false := by simp [h]

/-! l1Num -/
theorem numStep (n : Nat) (t0 : Bool) (t1 : List Int) (b : Bool) (rec0 : Int → Option Num) (a : Int) :
    Dspec_l1Num_2 n t0 t1 b rec0 a = frk (decide (a > 0)) ((lget t1 (w64 (a - 1))).bind fun v0 => frk (v0 == 0) (rec0 (w64 (a - 1))) (Dspec_l1Num_1 n t0 t1 a b)) (Dspec_l1Num_1 n t0 t1 a b) := rfl
theorem numEnd (n : Nat) (t0 : Bool) (l : List Int) (i : Nat) (b : Bool) (hi : i ≤ l.length) (hl : l.length ≤ 1000) :
    Dspec_l1Num_1 n t0 l (i : Int) b = some ⟨t0 && decide (0 < i), l.take i⟩ := by
  unfold Dspec_l1Num_1
  have hc : apB 8 (0 + (l.take i).length) = true := apB8 (by rw [List.length_take]; omega)
  rw [lsl_take _ _ hi]
  simp only [Option.bind_some]
  rw [chk_eq hc, chk_eq hc]
  cases t0
  · rw [frk_f]; rfl
  · rw [frk_t]
    have : decide ((i : Int) > 0) = decide (0 < i) := dec_iff (by omega)
    rw [this]; simp
theorem numLoop (n : Nat) (t0 b : Bool) (l : List Int) (hD : Dg l) (hl : l.length ≤ 1000) {v : Nat} (hv : vl l = v) : ∀ (i m : Nat), i ≤ l.length → vl (l.take i) = v → i < m →
    loopN (Dspec_l1Num_2 n t0 l b) m (i : Int) = some ⟨t0 && decide (0 < v), dg v⟩ := by
  intro i
  induction i with
  | zero =>
    intro m _ h0 hm
    obtain ⟨m, rfl⟩ : ∃ j, m = j + 1 := ⟨m - 1, by omega⟩
    have : v = 0 := by simp [vl] at h0; omega
    subst this
    rw [loop_suc, numStep, dec_f (by simp), frk_f, numEnd n t0 l 0 b (by omega) hl, dg_zero]
    rfl
  | succ i ih =>
    intro m hi h0 hm
    obtain ⟨m, rfl⟩ : ∃ j, m = j + 1 := ⟨m - 1, by omega⟩
    obtain ⟨d, hd⟩ : ∃ d, l[i]? = some d := ⟨l[i], List.getElem?_eq_getElem (by omega)⟩
    rw [loop_suc, numStep, dec_t (by omega), frk_t, w64_prd (by omega), lget_nat, hd, Option.bind_some]
    by_cases h : d = 0
    · subst h
      rw [show ((0 : Int) == 0) = true from rfl, frk_t]
      refine ih m (by omega) ?_ (by omega)
      rw [vl_take_s hd] at h0; omega
    · rw [show (d == 0) = false by simpa using h, frk_f, numEnd n t0 l (i + 1) b hi hl]
      have hlast : (l.take (i + 1)).getLast? ≠ some 0 := by
        rw [List.take_add_one, hd]; simpa using h
      have e := dg_of' (hD.take (i + 1)) hlast h0
      have hp := (dg_of (hD.take (i + 1)) hlast).2 (by rw [List.take_add_one, hd]; simp)
      rw [← e]
      have : decide (0 < i + 1) = decide (0 < v) := dec_iff ⟨fun _ => by omega, fun _ => by omega⟩
      rw [this]
theorem numOk (n : Nat) (t0 : Bool) (l : List Int) (hD : Dg l) (hl : l.length ≤ 1000) {v : Nat} (hv : vl l = v) (hn : l.length < n) : Dspec_l1Num n t0 l = some ⟨t0 && decide (0 < v), dg v⟩ := by
  unfold Dspec_l1Num
  exact numLoop n t0 false l hD hl hv l.length n (Nat.le_refl _) (by rw [List.take_length]; exact hv) hn

/-! Of -/
theorem ofStep (n : Nat) (t0 : Int) (b : Bool) (rec0 : (Int × List Int) → Option Num) (t3 : Int) (l : List Int) :
    Dspec_Of_2 n t0 b rec0 (t3, l) = frk (decide (t3 > 0)) (chk (apB 8 (l.length + 1)) (rec0 (IntKind.u64.wrap (Int.tdiv t3 10000), (l ++ [w64 (Int.tmod t3 10000)])))) (Dspec_Of_1 n t0 b l) := rfl
theorem u64w {x : Int} (h : 0 ≤ x) (h2 : x < 18446744073709551616) : IntKind.u64.wrap x = x := by
  have : IntKind.u64.wrap x = x % 18446744073709551616 := rfl
  omega
theorem ofLoop (n : Nat) (t0 : Int) (b : Bool) : ∀ (v : Nat) (l : List Int) (m : Nat), v < 18446744073709551616 → l.length + (dg v).length ≤ 1000 → (dg v).length < m →
    loopN (Dspec_Of_2 n t0 b) m ((v : Int), l) = Dspec_Of_1 n t0 b (l ++ dg v) := by
  intro v
  induction v using Nat.strongRecOn with
  | ind v ih =>
    intro l m h0 h1 hm
    obtain ⟨m, rfl⟩ : ∃ j, m = j + 1 := ⟨m - 1, by omega⟩
    rw [loop_suc, ofStep]
    by_cases h : v = 0
    · subst h; rw [dec_f (by simp), frk_f, dg_zero, List.append_nil]
    · rw [dec_t (by omega), frk_t]
      rw [dg_pos (by omega)] at h1 hm ⊢
      rw [List.length_cons] at h1 hm
      rw [chk_eq (apB8 (by omega))]
      have e1 : IntKind.u64.wrap (Int.tdiv (v : Int) 10000) = ((v / 10000 : Nat) : Int) := by
        rw [Int.tdiv_eq_ediv_of_nonneg (by omega), u64w (by omega) (by omega)]; omega
      have e2 : w64 (Int.tmod (v : Int) 10000) = ((v % 10000 : Nat) : Int) := by
        rw [Int.tmod_eq_emod_of_nonneg (by omega), w64_id (by omega) (by omega)]; omega
      rw [e1, e2, ih (v / 10000) (by omega) _ m (by omega) (by rw [List.length_append, List.length_singleton]; omega) (by omega), List.append_assoc]
      rfl
theorem ofOk (n : Nat) (x : Int) (h : x.natAbs < 1000000000000) (hn : 5 ≤ n) : Dspec_Of n x = some ⟨decide (x < 0), dg x.natAbs⟩ := by
  have hl := dg_len3 h
  have key : ∀ b, Dspec_Of_0 n x (x.natAbs : Int) b [] = some ⟨decide (x < 0), dg x.natAbs⟩ := by
    intro b
    unfold Dspec_Of_0
    rw [ofLoop n x b x.natAbs [] n (by omega) (by simp; omega) (by omega), List.nil_append]
    unfold Dspec_Of_1
    rw [numOk n _ _ (Dg_dg _) (by omega) (vl_dg _) (by omega), Option.bind_some]
    by_cases hx : x < 0
    · simp [hx]; omega
    · simp [hx]
  unfold Dspec_Of
  by_cases hx : x < 0
  · rw [dec_t hx, frk_t]
    have e : IntKind.u64.wrap ((IntKind.u64.wrap (w64 (0 - (w64 (x + 1))))) + 1) = (x.natAbs : Int) := by
      rw [w64_id (x := x + 1) (by omega) (by omega), w64_id (by omega) (by omega), u64w (x := 0 - (x + 1)) (by omega) (by omega), u64w (by omega) (by omega)]; omega
    rw [e, key]; rw [dec_t hx]
  · rw [dec_f hx, frk_f]
    have e : IntKind.u64.wrap x = (x.natAbs : Int) := by rw [u64w (by omega) (by omega)]; omega
    rw [e, key]; rw [dec_f hx]

/-! NumOk -/
theorem nokStep (n : Nat) (t3 : Int) (g : Bool) (l : List Int) (rec0 : Int → Option Bool) (a : Int) :
    Dspec_NumOk_2 n t3 g l rec0 a = frk (decide (a < t3)) (frk (decide (a ≤ 120)) ((lget l a).bind fun v0 => (Dspec_l1In v0 0 9999).bind fun v1 => frk (!v1) (some false) (rec0 (w64 (a + 1)))) (Dspec_NumOk_1 n t3 g l)) (Dspec_NumOk_1 n t3 g l) := rfl
theorem nokEnd (n : Nat) (g : Bool) (v : Nat) (hl : (dg v).length ≤ 100) (hg : g = true → 0 < v) : Dspec_NumOk_1 n ((dg v).length : Int) g (dg v) = some true := by
  unfold Dspec_NumOk_1
  rw [dec_t (by omega), frk_t]
  by_cases h : v = 0
  · subst h
    rw [dg_zero]
    have : g = false := by cases g with
      | false => rfl
      | true => have := hg rfl; omega
    subst this; rfl
  · have hp := List.length_pos_iff.2 (dg_ne.2 (show 0 < v by omega))
    obtain ⟨k, hk⟩ : ∃ k, (dg v).length = k + 1 := ⟨(dg v).length - 1, by omega⟩
    have hla := dg_last v
    rw [List.getLast?_eq_getElem?, hk] at hla
    obtain ⟨d, hd⟩ : ∃ d, (dg v)[k]? = some d := ⟨(dg v)[k], List.getElem?_eq_getElem (by omega)⟩
    rw [Nat.add_sub_cancel, hd] at hla
    have hd0 : d ≠ 0 := by simpa using hla
    rw [hk, show (((k + 1 : Nat) : Int) == 0) = false by simp; omega, frk_f, dec_t (by omega), frk_t, w64_prd (by omega), lget_nat, hd, Option.bind_some]
    simpa using hd0
theorem nokLoop (n : Nat) (g : Bool) (v : Nat) (hl : (dg v).length ≤ 100) (hg : g = true → 0 < v) : ∀ (k i m : Nat), i + k = (dg v).length → k < m →
    loopN (Dspec_NumOk_2 n ((dg v).length : Int) g (dg v)) m (i : Int) = some true := by
  intro k
  induction k with
  | zero =>
    intro i m h0 hm
    obtain ⟨m, rfl⟩ : ∃ j, m = j + 1 := ⟨m - 1, by omega⟩
    rw [loop_suc, nokStep, dec_f (by omega), frk_f, nokEnd n g v hl hg]
  | succ k ih =>
    intro i m h0 hm
    obtain ⟨m, rfl⟩ : ∃ j, m = j + 1 := ⟨m - 1, by omega⟩
    obtain ⟨d, hd⟩ : ∃ d, (dg v)[i]? = some d := ⟨(dg v)[i], List.getElem?_eq_getElem (by omega)⟩
    have := (Dg_dg v).get hd
    rw [loop_suc, nokStep, dec_t (by omega), frk_t, dec_t (by omega), frk_t, lget_nat, hd, Option.bind_some, sIn, Option.bind_some, rIn_iff.2 this, Bool.not_true, frk_f, w64_suc (by unfold big; omega)]
    exact ih (i + 1) m (by omega) (by omega)
theorem nokOk (n : Nat) (g : Bool) (v : Nat) (hv : v < 1000000000000) (hg : g = true → 0 < v) (hn : 5 ≤ n) : Dspec_NumOk n ⟨g, dg v⟩ = some true := by
  have hl := dg_len3 hv
  unfold Dspec_NumOk
  exact nokLoop n g v (by omega) hg (dg v).length 0 n (by omega) (by omega)
theorem magOk (n : Nat) (g : Bool) (v : Nat) (hv : v < 1000000000000) (hg : g = true → 0 < v) (hn : 5 ≤ n) : Dspec_l1Mag n ⟨g, dg v⟩ = some (dg v) := by
  unfold Dspec_l1Mag; rw [nokOk n g v hv hg hn]; rfl
end Evl.T

/-! Egj -/
namespace Evl.T
open Go Evl

def bl' (l : List UInt8) : ByteArray := ⟨l.toArray⟩
theorem bl_size (l : List UInt8) : (bl' l).size = l.length := by simp [bl', ByteArray.size]
theorem bl_list (l : List UInt8) : (bl' l).data.toList = l := by simp [bl']
theorem bl_app (a b : List UInt8) : bl' a ++ bl' b = bl' (a ++ b) := by
  apply ByteArray.ext
  rw [ByteArray.data_append]
  simp [bl']
theorem scat_bl {a b : List UInt8} (h : a.length + b.length ≤ 1000000) : scat (bl' a) (bl' b) = some (bl' (a ++ b)) := by
  unfold scat
  rw [bl_size, bl_size, if_pos (by omega), bl_app]
theorem join_bl {L : List (List UInt8)} {s : List UInt8} (hL : L.length ≤ 1000000) (h : (Lib.join L s).length ≤ 1000000) : DJoin (L.map bl') (bl' s) = some (bl' (Lib.join L s)) := by
  have e : joinB (L.map bl') (bl' s) = bl' (Lib.join L s) := by
    unfold joinB
    rw [List.map_map, bl_list]
    have : (fun x : ByteArray => x.data.toList) ∘ bl' = id := by funext x; exact bl_list x
    rw [this, List.map_id]; rfl
  unfold DJoin
  rw [e, bl_size, List.length_map, if_pos ⟨by omega, by omega⟩]
theorem itoa_bl {a : Int} (h : a.natAbs ≤ 1000000) : DItoa a = some (bl' (Lib.itoa a)) := by
  unfold DItoa
  rw [if_pos ⟨by omega, by omega⟩]; rfl
/-- The decimal figures of a number below a thousand. -/
def dig3 (u : Nat) : List UInt8 := if u < 10 then [UInt8.ofNat (48 + u)] else if u < 100 then [UInt8.ofNat (48 + u / 10), UInt8.ofNat (48 + u % 10)] else [UInt8.ofNat (48 + u / 10 / 10), UInt8.ofNat (48 + u / 10 % 10), UInt8.ofNat (48 + u % 10)]
theorem dec3 {u : Nat} (h : u < 1000) : Lib.decDigits u = dig3 u := by
  unfold dig3
  by_cases h1 : u < 10
  · rw [if_pos h1, Lib.decDigits, dif_pos h1]
  · rw [if_neg h1, Lib.decDigits, dif_neg h1]
    by_cases h2 : u < 100
    · rw [if_pos h2, Lib.decDigits, dif_pos (by omega)]; rfl
    · rw [if_neg h2, Lib.decDigits, dif_neg (by omega), Lib.decDigits, dif_pos (by omega)]; rfl
theorem dig3_len (u : Nat) : (dig3 u).length ≤ 3 := by
  unfold dig3
  split
  · simp
  · split <;> simp
def sgb (g : Bool) : List UInt8 := if g then [45] else []
theorem itoa3 {a : Int} (h : a.natAbs < 1000) : Lib.itoa a = sgb (decide (a < 0)) ++ dig3 a.natAbs := by
  unfold Lib.itoa sgb
  by_cases h0 : a < 0
  · rw [if_pos h0, decide_eq_true h0, dec3 h]; rfl
  · rw [if_neg h0, decide_eq_false h0, show a.toNat = a.natAbs by omega, dec3 h]; rfl
theorem itoa_len {a : Int} (h : a.natAbs < 1000) : (Lib.itoa a).length ≤ 4 := by
  rw [itoa3 h, List.length_append]
  have := dig3_len a.natAbs
  have : (sgb (decide (a < 0))).length ≤ 1 := by unfold sgb; split <;> simp
  omega

/-! the reference -/
theorem loop_more {α β : Type} {F : (α → Option β) → α → Option β} (hF : ∀ (g g' : α → Option β), (∀ a r, g a = some r → g' a = some r) → ∀ a r, F g a = some r → F g' a = some r) : ∀ (m k : Nat) (a : α) (r : β), loopN F m a = some r → m ≤ k → loopN F k a = some r := by
  intro m
  induction m with
  | zero => intro k a r h; cases h
  | succ m ih =>
    intro k a r h hk
    obtain ⟨k, rfl⟩ : ∃ j, k = j + 1 := ⟨k - 1, by omega⟩
    rw [loop_suc] at h ⊢
    exact hF _ _ (fun a r h => ih k a r h (by omega)) a r h
theorem strip_mono (n : Nat) (g : Bool) (l : List Int) (f f' : ByteArray → Option ByteArray) (h : ∀ a r, f a = some r → f' a = some r) : ∀ a r, Dspec_NumText_2 n g l f a = some r → Dspec_NumText_2 n g l f' a = some r := by
  intro a r e
  unfold Dspec_NumText_2 at e ⊢
  obtain ⟨v, hv, e⟩ := bind_some e
  simp only at e ⊢
  rw [hv, Option.bind_some]
  cases hc : (v == 48) with
  | true =>
    rw [hc, frk_t] at e
    obtain ⟨u, hu, e⟩ := bind_some e
    rw [frk_t, hu, Option.bind_some]
    exact h _ _ e
  | false => rw [hc, frk_f] at e; rw [frk_f]; exact e
def fourB (v : Nat) : ByteArray := strOfNums [IntKind.u8.wrap (w64 (48 + (w64 (Int.tdiv (v : Int) 1000)))), IntKind.u8.wrap (w64 (48 + (Int.tmod (w64 (Int.tdiv (v : Int) 100)) 10))), IntKind.u8.wrap (w64 (48 + (Int.tmod (w64 (Int.tdiv (v : Int) 10)) 10))), IntKind.u8.wrap (w64 (48 + (Int.tmod (v : Int) 10)))]
def chkT (g : Bool) (v : Nat) : Bool := match scat (ByteArray.mk #[]) (fourB v) with
  | some b => match loopN (Dspec_NumText_2 0 g []) 5 b with
    | some r => r.data.toList == sgb g ++ dig3 v
    | none => false
  | none => false
theorem chkA : ((List.range 1000).all fun v => v == 0 || (chkT true v && chkT false v)) = true := by decide +kernel
theorem stripOk (n : Nat) (g : Bool) (l : List Int) {v : Nat} (h0 : 0 < v) (h : v < 1000) : ∃ b, scat (ByteArray.mk #[]) (fourB v) = some b ∧ ∀ k, 5 ≤ k → loopN (Dspec_NumText_2 n g l) k b = some (bl' (sgb g ++ dig3 v)) := by
  have h1 := List.all_eq_true.1 chkA v (List.mem_range.2 h)
  have h2 : chkT g v = true := by
    have e : (v == 0) = false := by simp; omega
    rw [e, Bool.false_or, Bool.and_eq_true] at h1
    cases g
    · exact h1.2
    · exact h1.1
  unfold chkT at h2
  cases e1 : scat (ByteArray.mk #[]) (fourB v) with
  | none => rw [e1] at h2; cases h2
  | some b =>
    rw [e1] at h2
    simp only at h2
    refine ⟨b, rfl, fun k hk => ?_⟩
    cases e2 : loopN (Dspec_NumText_2 0 g []) 5 b with
    | none => rw [e2] at h2; cases h2
    | some r =>
      rw [e2] at h2
      have h3 : r.data.toList = sgb g ++ dig3 v := by simpa using h2
      have er : r = bl' (sgb g ++ dig3 v) := by
        apply ByteArray.ext
        unfold bl'
        rw [← h3]
      have eF : Dspec_NumText_2 0 g [] = Dspec_NumText_2 n g l := rfl
      rw [eF] at e2
      rw [← er]
      exact loop_more (strip_mono n g l) 5 k b r e2 hk
theorem dg_small {v : Nat} (h0 : 0 < v) (h : v < 1000) : dg v = [(v : Int)] := by
  rw [dg_pos h0, show v / 10000 = 0 by omega, dg_zero, show v % 10000 = v by omega]
/-- A small number as the reference's text. -/
theorem l3TextOk {a : Int} (h : a.natAbs < 1000) {n : Nat} (hn : 10 ≤ n) : Dspec_l3Text n a = some (bl' (Lib.itoa a)) := by
  unfold Dspec_l3Text
  rw [ofOk n a (by omega) (by omega), Option.bind_some]
  have hm := magOk n (decide (a < 0)) a.natAbs (by omega) (fun h => by simp at h; omega) (by omega)
  unfold Dspec_NumText
  rw [hm, Option.bind_some, itoa3 h]
  by_cases h0 : a.natAbs = 0
  · have : a = 0 := by omega
    subst this
    simp only [Int.natAbs_zero, dg_zero]
    rfl
  · have hd := dg_small (v := a.natAbs) (by omega) h
    rw [hd]
    obtain ⟨b, h1, h2⟩ := stripOk n (decide (a < 0)) [((a.natAbs : Nat) : Int)] (v := a.natAbs) (by omega) h
    obtain ⟨m, rfl⟩ : ∃ m, n = m + 2 := ⟨n - 2, by omega⟩
    have f4 : Dspec_l1Four ((a.natAbs : Nat) : Int) = some (fourB a.natAbs) := rfl
    have e1 : loopN (Dspec_NumText_3 (m + 2) [((a.natAbs : Nat) : Int)] (decide (a < 0)) [((a.natAbs : Nat) : Int)]) (m + 2) ((ByteArray.mk #[]), 0) = loopN (Dspec_NumText_2 (m + 2) (decide (a < 0)) [((a.natAbs : Nat) : Int)]) (m + 2) b := by
      rw [loop_suc]
      show ((some ((a.natAbs : Nat) : Int)).bind fun v1 => (Dspec_l1Four v1).bind fun v2 => (scat (ByteArray.mk #[]) v2).bind fun v3 => loopN (Dspec_NumText_3 (m + 2) [((a.natAbs : Nat) : Int)] (decide (a < 0)) [((a.natAbs : Nat) : Int)]) (m + 1) (v3, -1)) = _
      rw [Option.bind_some, f4, Option.bind_some, h1, Option.bind_some, loop_suc]
      rfl
    show ((loopN (Dspec_NumText_3 (m + 2) [((a.natAbs : Nat) : Int)] (decide (a < 0)) [((a.natAbs : Nat) : Int)]) (m + 2) ((ByteArray.mk #[]), 0)).bind fun v1 => some v1) = _
    rw [e1, h2 _ (by omega)]; rfl
end Evl.T

/-! Egk -/
namespace Evl.T
open Go Evl

/-- The text of a plane, of a list of planes. -/
def ptL (p : Pl) : List UInt8 := Lib.join [Lib.itoa p.A, Lib.itoa p.B, Lib.itoa p.C, Lib.itoa p.D] [32]
def paL (l : List Pl) : List UInt8 := Lib.join (l.map ptL) [44, 32]
theorem ptL_eq (p : Pl) : ptL p = Lib.itoa p.A ++ ([32] ++ Lib.itoa p.B ++ ([32] ++ Lib.itoa p.C ++ ([32] ++ Lib.itoa p.D))) := by
  unfold ptL; rw [Lib.join_cons]; simp [Lib.joinTail]
theorem ok_abs {p : Pl} (h : pOk p = true) : p.A.natAbs < 1000 ∧ p.B.natAbs < 1000 ∧ p.C.natAbs < 1000 ∧ p.D.natAbs < 1000 := by
  obtain ⟨h1, h2, h3, h4⟩ := pOk_PB h
  unfold B at h1 h2 h3 h4
  omega
theorem ptL_len {p : Pl} (h : pOk p = true) : (ptL p).length ≤ 19 := by
  obtain ⟨h1, h2, h3, h4⟩ := ok_abs h
  have := itoa_len h1; have := itoa_len h2; have := itoa_len h3; have := itoa_len h4
  rw [ptL_eq]
  simp only [List.length_append, List.length_cons, List.length_nil]
  omega
theorem sPlaneT {p : Pl} (h : pOk p = true) {n : Nat} (hn : 502 ≤ n) : Dspec_PlaneText n p = some (bl' (ptL p)) := by
  obtain ⟨h1, h2, h3, h4⟩ := ok_abs h
  have l1 := itoa_len h1; have l2 := itoa_len h2; have l3 := itoa_len h3; have l4 := itoa_len h4
  unfold Dspec_PlaneText
  rw [sPlaneOk n p hn, Option.bind_some, h, Bool.not_true, frk_f, show ByteArray.mk #[32] = bl' [32] from rfl]
  rw [l3TextOk h1 (by omega), Option.bind_some, scat_bl (by simp; omega), Option.bind_some, l3TextOk h2 (by omega), Option.bind_some, scat_bl (by simp; omega), Option.bind_some, scat_bl (by simp; omega), Option.bind_some, l3TextOk h3 (by omega), Option.bind_some, scat_bl (by simp; omega), Option.bind_some, scat_bl (by simp; omega), Option.bind_some, l3TextOk h4 (by omega), Option.bind_some, scat_bl (by simp; omega), Option.bind_some, ptL_eq]
  simp
theorem iPlaneT {p : Pl} (h : pOk p = true) {n : Nat} (hn : 502 ≤ n) : Dimpl_PlaneText n p = some (bl' (ptL p)) := by
  obtain ⟨h1, h2, h3, h4⟩ := ok_abs h
  have hl := ptL_len h
  unfold Dimpl_PlaneText
  rw [iPlaneOk n p hn, Option.bind_some, h, Bool.not_true, frk_f, itoa_bl (by omega), Option.bind_some, chk_eq (by decide), itoa_bl (by omega), Option.bind_some, chk_eq (by decide), itoa_bl (by omega), Option.bind_some, chk_eq (by decide), itoa_bl (by omega), Option.bind_some, chk_eq (by decide)]
  have := join_bl (L := [Lib.itoa p.A, Lib.itoa p.B, Lib.itoa p.C, Lib.itoa p.D]) (s := [32]) (by simp) (by have := hl; unfold ptL at this; omega)
  show ((DJoin (List.map bl' [Lib.itoa p.A, Lib.itoa p.B, Lib.itoa p.C, Lib.itoa p.D]) (bl' [32])).bind fun v9 => some v9) = _
  rw [this]; rfl
theorem join_snoc (l : List (List UInt8)) (x s : List UInt8) : Lib.join (l ++ [x]) s = if l = [] then x else Lib.join l s ++ s ++ x := by
  cases l with
  | nil => rw [List.nil_append, Lib.join_one, if_pos rfl]
  | cons y l =>
    rw [if_neg (by simp), List.cons_append, Lib.join_cons, Lib.join_cons]
    simp [Lib.joinTail]
theorem paL_len : ∀ (l : List Pl), (∀ p ∈ l, pOk p = true) → (paL l).length ≤ 21 * l.length := by
  intro l h
  unfold paL
  cases l with
  | nil => simp [Lib.join_nil]
  | cons p l =>
    rw [List.map_cons, Lib.join_cons, List.length_append]
    have h1 := ptL_len (h p (by simp))
    have : ∀ r : List Pl, (∀ q ∈ r, pOk q = true) → (Lib.joinTail [44, 32] (r.map ptL)).length ≤ 21 * r.length := by
      intro r hr
      induction r with
      | nil => simp [Lib.joinTail]
      | cons q r ih =>
        have h2 := ptL_len (hr q (by simp))
        have h3 := ih fun x hx => hr x (by simp [hx])
        simp only [Lib.joinTail, List.map_cons, List.flatten_cons, List.length_append, List.length_cons, List.length_nil] at h3 ⊢
        omega
    have := this l fun q hq => h q (by simp [hq])
    simp only [List.length_cons]
    omega
theorem drop_getT {α : Type} {l r : List α} {x : α} {k : Nat} (h : l.drop k = x :: r) : k < l.length ∧ l[k]? = some x ∧ l.drop (k + 1) = r := by
  have hk : k < l.length := by
    apply Classical.byContradiction
    intro hn
    rw [List.drop_eq_nil_of_le (by omega)] at h; cases h
  rw [List.drop_eq_getElem_cons hk] at h
  cases h
  exact ⟨hk, List.getElem?_eq_getElem hk, rfl⟩
theorem take_ok {l : List Pl} (h : ∀ p ∈ l, pOk p = true) (k : Nat) : ∀ p ∈ l.take k, pOk p = true := fun p hp => h p (List.mem_of_mem_take hp)
theorem sPathL {l : List Pl} (h : ∀ p ∈ l, pOk p = true) (hl : l.length ≤ 24) {n : Nat} (hn : 502 ≤ n) : ∀ (r : List Pl) (k m : Nat), l.drop k = r → k ≤ l.length → r.length < m →
    loopN (Dspec_PathText_1 n l) m (bl' (paL (l.take k)), (k : Int)) = some (bl' (paL l)) := by
  intro r
  induction r with
  | nil =>
    intro k m hr hk hm
    obtain ⟨m, rfl⟩ : ∃ j, m = j + 1 := ⟨m - 1, by omega⟩
    have hk : k = l.length := by have := List.drop_eq_nil_iff.1 hr; omega
    rw [loop_suc]
    unfold Dspec_PathText_1
    subst hk
    simp only [lt_self, frk_f, List.take_length]
  | cons x r ih =>
    intro k m hr hk hm
    simp only [List.length_cons] at hm
    obtain ⟨m, rfl⟩ : ∃ j, m = j + 1 := ⟨m - 1, by omega⟩
    obtain ⟨hkl, hx, hr'⟩ := drop_getT hr
    have hp := h x (by rw [← List.take_append_drop k l, hr]; simp)
    have e1 : l.take (k + 1) = l.take k ++ [x] := by rw [List.take_add_one, hx]; simp
    have hlen := paL_len _ (take_ok h k)
    have hlx := ptL_len hp
    have ht : (l.take k).length = k := by rw [List.length_take]; omega
    rw [loop_suc]
    show frk (decide ((k : Int) < (l.length : Int))) (frk (decide ((k : Int) > 0)) ((scat (bl' (paL (l.take k))) (bl' [44, 32])).bind fun v1 => Dspec_PathText_0 n _ l v1 (k : Int)) (Dspec_PathText_0 n _ l (bl' (paL (l.take k))) (k : Int))) _ = _
    rw [lt_dec hkl, frk_t]
    have st : ∀ (rec0 : (ByteArray × Int) → Option ByteArray) (a : List UInt8), a.length ≤ 600 → Dspec_PathText_0 n rec0 l (bl' a) (k : Int) = rec0 (bl' (a ++ ptL x), ((k + 1 : Nat) : Int)) := by
      intro rec0 a ha
      unfold Dspec_PathText_0
      rw [lget_nat, hx, Option.bind_some, sPlaneT hp hn, Option.bind_some, scat_bl (by omega), Option.bind_some, w64_suc (by unfold big; omega)]
    have e2 : paL (l.take (k + 1)) = if k = 0 then ptL x else paL (l.take k) ++ [44, 32] ++ ptL x := by
      unfold paL
      rw [e1, List.map_append, List.map_cons, List.map_nil, join_snoc]
      by_cases hk0 : k = 0
      · subst hk0; simp
      · rw [if_neg hk0, if_neg (fun e => hk0 (by have := congrArg List.length e; rw [List.length_map, ht] at this; exact this))]
    by_cases hk0 : k = 0
    · subst hk0
      rw [dec_f (by omega), frk_f, st _ _ (by omega)]
      have := ih 1 m (by simpa using hr') (by omega) (by omega)
      rw [e2, if_pos rfl] at this
      simpa [paL, Lib.join_nil] using this
    · rw [dec_t (by omega), frk_t, scat_bl (a := paL (l.take k)) (b := [44, 32]) (by show (paL (l.take k)).length + 2 ≤ 1000000; omega), Option.bind_some, st _ (paL (l.take k) ++ [44, 32]) (by simp only [List.length_append, List.length_cons, List.length_nil]; omega)]
      have := ih (k + 1) m hr' (by omega) (by omega)
      rw [e2, if_neg hk0] at this
      exact this
theorem iPathL {l : List Pl} (h : ∀ p ∈ l, pOk p = true) (hl : l.length ≤ 24) {n : Nat} (hn : 502 ≤ n) : ∀ (r : List Pl) (k m : Nat), l.drop k = r → k ≤ l.length → r.length < m →
    loopN (Dimpl_PathText_2 n l (l.length : Int)) m ((k : Int), (l.take k).map fun p => bl' (ptL p)) = some (bl' (paL l)) := by
  intro r
  induction r with
  | nil =>
    intro k m hr hk hm
    obtain ⟨m, rfl⟩ : ∃ j, m = j + 1 := ⟨m - 1, by omega⟩
    have hk : k = l.length := by have := List.drop_eq_nil_iff.1 hr; omega
    rw [loop_suc]
    unfold Dimpl_PathText_2 Dimpl_PathText_1
    subst hk
    have e : (l.map fun p => bl' (ptL p)) = (l.map ptL).map bl' := by rw [List.map_map]; rfl
    simp only [lt_self, frk_f, List.take_length, e]
    rw [show ByteArray.mk #[44, 32] = bl' [44, 32] from rfl, join_bl (by simp; omega) (by have := paL_len l h; unfold paL at this; omega)]; rfl
  | cons x r ih =>
    intro k m hr hk hm
    simp only [List.length_cons] at hm
    obtain ⟨m, rfl⟩ : ∃ j, m = j + 1 := ⟨m - 1, by omega⟩
    obtain ⟨hkl, hx, hr'⟩ := drop_getT hr
    have hp := h x (by rw [← List.take_append_drop k l, hr]; simp)
    have e1 : l.take (k + 1) = l.take k ++ [x] := by rw [List.take_add_one, hx]; simp
    have ht : (l.take k).length = k := by rw [List.length_take]; omega
    rw [loop_suc]
    show frk (decide ((k : Int) < (l.length : Int))) ((lget l (k : Int)).bind fun v1 => (Dimpl_PlaneText n v1).bind fun v2 => chk (apB 16 (((l.take k).map fun p => bl' (ptL p)).length + 1)) _) _ = _
    rw [lt_dec hkl, frk_t, lget_nat, hx, Option.bind_some, iPlaneT hp hn, Option.bind_some, chk_eq (by rw [List.length_map, ht]; simp only [apB, Bool.and_eq_true, decide_eq_true_eq]; omega), w64_suc (by unfold big; omega)]
    have := ih (k + 1) m hr' (by omega) (by omega)
    rw [e1, List.map_append] at this
    exact this
theorem any_gt (l : List Pl) (f : Pl → Bool) : ((List.range' 0 l.length).any fun i => f (gt l i)) = l.any f := by
  rw [Bool.eq_iff_iff, List.any_eq_true, List.any_eq_true]
  constructor
  · rintro ⟨i, hi, h⟩
    have : i < l.length := by simpa using hi
    exact ⟨_, gt_mem this, h⟩
  · rintro ⟨x, hx, h⟩
    obtain ⟨i, hi, e⟩ := List.getElem_of_mem hx
    refine ⟨i, by simpa using hi, ?_⟩
    have := gt_some hi
    rw [List.getElem?_eq_getElem hi] at this
    rw [← Option.some.inj this, e]; exact h
theorem all_any (l : List Pl) (f : Pl → Bool) : l.all f = !l.any fun x => !f x := by
  induction l with
  | nil => rfl
  | cons x l ih => simp only [List.all_cons, List.any_cons, ih, Bool.not_or, Bool.not_not]
theorem all_mem {l : List Pl} (h : l.all pOk = true) : ∀ q ∈ l, pOk q = true := List.all_eq_true.1 h
theorem sRightL (l : List Pl) (hb : l.length ≤ big) : Ev fun n => Dspec_l6Right n l = some (l.all pOk && decide ((l.length : Int) ≤ 24)) := by
  refine (e_ge (l.length + 502)).mono fun n hn => ?_
  have h := search (F := Dspec_l6Right_0 n l) (len := l.length) (b := fun i => !pOk (gt l i)) (hit := some false) (miss := some (decide ((l.length : Int) ≤ 24))) hb ?_ ?_ l.length 0 n (by omega) (by omega)
  · show loopN _ _ _ = _
    rw [show (0 : Int) = ((0 : Nat) : Int) from rfl, h, any_gt l fun x => !pOk x, all_any]
    cases l.any fun x => !pOk x <;> rfl
  · intro rec i hi
    unfold Dspec_l6Right_0
    simp only [lt_dec hi, frk_t, lget_nat, gt_some hi, Option.bind_some, sPlaneOk n _ (by omega)]
    cases pOk (gt l i) <;> rfl
  · intro rec
    unfold Dspec_l6Right_0
    simp only [lt_self, frk_f]
theorem iPlanesOk (l : List Pl) (hb : l.length ≤ big) : Ev fun n => Dimpl_planesOk n l = some (l.all pOk) := by
  refine (e_ge (l.length + 502)).mono fun n hn => ?_
  have h := search (F := Dimpl_planesOk_0 n l (l.length : Int)) (len := l.length) (b := fun i => !pOk (gt l i)) (hit := some false) (miss := some true) hb ?_ ?_ l.length 0 n (by omega) (by omega)
  · show loopN _ _ _ = _
    rw [show (0 : Int) = ((0 : Nat) : Int) from rfl, h, any_gt l fun x => !pOk x, all_any]
    cases l.any fun x => !pOk x <;> rfl
  · intro rec i hi
    unfold Dimpl_planesOk_0
    simp only [lt_dec hi, frk_t, lget_nat, gt_some hi, Option.bind_some, iPlaneOk n _ (by omega)]
    cases pOk (gt l i) <;> rfl
  · intro rec
    unfold Dimpl_planesOk_0
    simp only [lt_self, frk_f]
theorem pathTexts (l : List Pl) (hb : l.length ≤ big) : ∃ t, Ev fun n => Dspec_PathText n l = some t ∧ Dimpl_PathText n l = some t := by
  by_cases h : l.all pOk = true ∧ l.length ≤ 24
  · have ho := all_mem h.1
    refine ⟨bl' (paL l), ((sRightL l hb).and ((iPlanesOk l hb).and (e_ge 502))).mono fun n ⟨h1, h2, hn⟩ => ⟨?_, ?_⟩⟩
    · unfold Dspec_PathText
      rw [h1, Option.bind_some, h.1, dec_t (by omega)]
      exact sPathL ho h.2 hn l 0 n rfl (by omega) (by omega)
    · unfold Dimpl_PathText Dimpl_PathText_0
      rw [dec_f (by omega), frk_f, h2, Option.bind_some, h.1]
      exact iPathL ho h.2 hn l 0 n rfl (by omega) (by omega)
  · refine ⟨ByteArray.mk #[], ((sRightL l hb).and (iPlanesOk l hb)).mono fun n ⟨h1, h2⟩ => ⟨?_, ?_⟩⟩
    · unfold Dspec_PathText
      rw [h1, Option.bind_some]
      have : (l.all pOk && decide ((l.length : Int) ≤ 24)) = false := by
        cases ha : l.all pOk with
        | false => rfl
        | true => rw [dec_f (fun hc => h ⟨ha, by omega⟩)]; rfl
      rw [this]; rfl
    · unfold Dimpl_PathText Dimpl_PathText_0
      by_cases hl : (l.length : Int) > 24
      · rw [dec_t hl, frk_t]
      · rw [dec_f hl, frk_f, h2, Option.bind_some]
        cases ha : l.all pOk with
        | false => rfl
        | true => exact absurd ⟨ha, by omega⟩ h
theorem toPlC (p : Pl) : Dlaws_toPlane p = some p := by unfold Dlaws_toPlane; rfl
theorem eqPlC (p : Pl) : Dlaws_eqPlane p p = some true := by
  unfold Dlaws_eqPlane
  simp only [beq_self_eq_true, bne_self_eq_false, frk_t, frk_f, Bool.and_self]
theorem toPloopC (n : Nat) (l : List Pl) (hl : l.length ≤ 1048576) :
    ∀ (d k m : Nat), k + d = l.length → d < m → loopN (Dlaws_toPlaneS_0 n l) m ((k : Int), l.take k ++ List.replicate d ⟨0, 0, 0, 0⟩) = some l := by
  intro d
  induction d with
  | zero =>
    intro k m hk hm
    obtain ⟨m, rfl⟩ : ∃ j, m = j + 1 := ⟨m - 1, by omega⟩
    obtain rfl : k = l.length := by omega
    rw [loop_suc]
    unfold Dlaws_toPlaneS_0
    simp only [lt_self, frk_f]; simp
  | succ d ih =>
    intro k m hk hm
    obtain ⟨m, rfl⟩ : ∃ j, m = j + 1 := ⟨m - 1, by omega⟩
    have hkl : k < l.length := by omega
    have ht : (l.take k).length = k := by rw [List.length_take]; omega
    have hz : (l.take k ++ List.replicate (d + 1) (⟨0, 0, 0, 0⟩ : Pl))[k]? = some ⟨0, 0, 0, 0⟩ := by
      rw [List.getElem?_append_right (by omega), ht]; simp [List.replicate_succ]
    rw [loop_suc]
    show frk _ ((lget l (k : Int)).bind _) _ = _
    rw [lt_dec hkl, frk_t, lget_nat, List.getElem?_eq_getElem hkl, Option.bind_some, toPlC, Option.bind_some, lget_nat, hz, Option.bind_some, w64_suc (by unfold big; omega)]
    have e : (l.take k ++ List.replicate (d + 1) (⟨0, 0, 0, 0⟩ : Pl)).set (Int.toNat (k : Int)) l[k] = l.take (k + 1) ++ List.replicate d ⟨0, 0, 0, 0⟩ := by
      rw [Int.toNat_natCast, List.set_append_right _ _ (by omega), ht]
      simp only [Nat.sub_self, List.replicate_succ, List.set_cons_zero]
      rw [List.take_add_one, List.getElem?_eq_getElem hkl, Option.toList_some, List.append_assoc]; rfl
    rw [e]
    exact ih (k + 1) m (by omega) (by omega)
theorem toPC (l : List Pl) (h : l.length ≤ 1048576) : Ev fun n => Dlaws_toPlaneS n l = some l := by
  refine ⟨l.length + 1, fun n hn => ?_⟩
  have := toPloopC n l h l.length 0 n (by omega) (by omega)
  have hm : mkB (l.length : Int) 32 = true := by simp only [mkB, Bool.and_eq_true, decide_eq_true_eq]; omega
  show Dlaws_toPlaneS n l = some l
  unfold Dlaws_toPlaneS
  rw [chk_eq hm, Int.toNat_natCast]
  simpa using this
theorem eqPC (l : List Pl) (h : l.length ≤ 1048576) : Ev fun n => Dlaws_eqPlaneS n l l = some true := by
  refine ⟨l.length + 1, fun n hn => ?_⟩
  have := search (F := Dlaws_eqPlaneS_0 n l l) (len := l.length) (b := fun _ => false) (hit := some false) (miss := some true) (by unfold big; omega) ?_ ?_ l.length 0 n (by omega) (by omega)
  · show Dlaws_eqPlaneS n l l = some true
    unfold Dlaws_eqPlaneS
    rw [bne_self_eq_false, frk_f, show (0 : Int) = ((0 : Nat) : Int) from rfl, this]
    have : (List.range' 0 l.length).any (fun _ => false) = false := by simp
    rw [this]; rfl
  · intro rec j hj
    unfold Dlaws_eqPlaneS_0
    simp only [lt_dec hj, frk_t, lget_nat, gt_some hj, Option.bind_some, eqPlC, Bool.not_true, frk_f]; rfl
  · intro rec
    unfold Dlaws_eqPlaneS_0
    simp only [lt_self, frk_f]

theorem plain_PathText {F : Pl → Prop} (l : List Pl) (gl : l.length ≤ maxLen ∧ ∀ x ∈ l, F x) : ∃ n, Dlaws_FnExactPathText n l = some true := by
  have hB : l.length ≤ big := by have := gl.1; unfold maxLen at this; unfold big; omega
  have hw : w64 (1048576 - (l.length : Int)) = 1048576 - l.length := by unfold big at hB; exact w64_id (by omega) (by omega)
  by_cases h : l.length ≤ 1048576
  · obtain ⟨t, hv⟩ := pathTexts l hB
    obtain ⟨n, hN⟩ := hv.and ((toPC l h).and (eqPC l h))
    obtain ⟨⟨h1, h2⟩, h3, h4⟩ := hN n (Nat.le_refl n)
    refine ⟨n, ?_⟩
    unfold Dlaws_FnExactPathText Dlaws_szPlaneS
    rw [hw, decide_eq_false (show ¬ (1048576 - (l.length : Int)) < 0 by omega), frk_f, Option.bind_some, decide_eq_false (show ¬ (1048576 - (l.length : Int)) < 0 by omega), frk_f, h3, Option.bind_some, h1, Option.bind_some, Option.bind_some, h2, Option.bind_some]
    simp only [beq_self_eq_true, Bool.not_true, frk_f, Option.bind_some, h4]
  · refine ⟨0, ?_⟩
    unfold Dlaws_FnExactPathText Dlaws_szPlaneS
    rw [hw, decide_eq_true (show (1048576 - (l.length : Int)) < 0 by omega), frk_t]; rfl
end Evl.T

/-! Egl -/
namespace Evl.T
open Go Evl

/-- The text of a right solid. -/
def stL : Sol → List UInt8
  | .mk i _ [] => if i then [35] else [46]
  | .mk _ p [a, b] => [40] ++ ptL p ++ [32] ++ stL a ++ [32] ++ stL b ++ [41]
  | _ => []
theorem stL_leaf (i : Bool) (p : Pl) : stL (.mk i p []) = if i then [35] else [46] := rfl
theorem stL_node (i : Bool) (p : Pl) (a b : Sol) : stL (.mk i p [a, b]) = [40] ++ ptL p ++ [32] ++ stL a ++ [32] ++ stL b ++ [41] := rfl
theorem stL_len {s : Sol} {l : List Pl} (h : Rt s l) : (stL s).length ≤ 25 * nod s + 1 := by
  induction h with
  | @leaf i p path _ => rw [stL_leaf]; split <;> simp
  | @node p a b path hp _ _ _ _ _ iha ihb =>
    have := ptL_len hp
    rw [stL_node, nod2]
    simp only [List.length_append, List.length_cons, List.length_nil]
    omega
theorem treeT {s : Sol} {l : List Pl} (h : Rt s l) : nod s ≤ 1000 → E2 fun n m => loopN (Dspec_l19Tree_b n) m s = some (bl' (stL s)) ∧ loopN (Dimpl_Solid_text_b n) m s = some (bl' (stL s)) := by
  induction h with
  | @leaf i p path _ =>
    intro _
    refine E2.suc (E2.of fun n m => ?_)
    rw [loop_suc, loop_suc]
    cases i <;> exact ⟨rfl, rfl⟩
  | @node p a b path hp _ _ _ ha hb iha ihb =>
    intro hn
    rw [nod2] at hn
    have la := stL_len ha
    have lb := stL_len hb
    have lp := ptL_len hp
    refine E2.suc ((iha (by omega)).and ((ihb (by omega)).and (e2_ge 502)) |>.mono fun n m ⟨⟨a1, a2⟩, ⟨b1, b2⟩, hn, _⟩ => ?_)
    have fin : ∀ x y : Option ByteArray, x = some (bl' (stL a)) → y = some (bl' (stL b)) → ((scat (ByteArray.mk #[40]) (bl' (ptL p))).bind fun v2 => (scat v2 (ByteArray.mk #[32])).bind fun v3 => x.bind fun v5 => (scat v3 v5).bind fun v6 => (scat v6 (ByteArray.mk #[32])).bind fun v7 => y.bind fun v9 => (scat v7 v9).bind fun v10 => (scat v10 (ByteArray.mk #[41])).bind fun v11 => some v11) = some (bl' (stL (.mk false p [a, b]))) := by
      intro x y hx hy
      subst hx hy
      rw [show ByteArray.mk #[40] = bl' [40] from rfl, show ByteArray.mk #[32] = bl' [32] from rfl, show ByteArray.mk #[41] = bl' [41] from rfl, stL_node]
      rw [scat_bl (a := [40]) (b := ptL p) (by simp only [List.length_cons, List.length_nil]; omega), Option.bind_some]
      rw [scat_bl (a := [40] ++ ptL p) (b := [32]) (by simp only [List.length_append, List.length_cons, List.length_nil]; omega), Option.bind_some, Option.bind_some]
      rw [scat_bl (b := stL a) (by simp only [List.length_append, List.length_cons, List.length_nil]; omega), Option.bind_some]
      rw [scat_bl (b := [32]) (by simp only [List.length_append, List.length_cons, List.length_nil]; omega), Option.bind_some, Option.bind_some]
      rw [scat_bl (b := stL b) (by simp only [List.length_append, List.length_cons, List.length_nil]; omega), Option.bind_some]
      rw [scat_bl (b := [41]) (by simp only [List.length_append, List.length_cons, List.length_nil]; omega), Option.bind_some]
    refine ⟨?_, ?_⟩
    · rw [loop_suc]
      show ((Dspec_PlaneText n p).bind fun v1 => _) = _
      rw [sPlaneT hp hn, Option.bind_some]
      exact fin _ _ a1 b1
    · rw [loop_suc]
      show ((Dimpl_PlaneText n p).bind fun v1 => _) = _
      rw [iPlaneT hp hn, Option.bind_some]
      exact fin _ _ a2 b2
open Classical in
theorem solidTexts (s : Sol) (hl : Lens s) : ∃ t, Ev fun n => Dspec_SolidText n s = some t ∧ Dimpl_SolidText n s = some t := by
  by_cases h : Right s
  · refine ⟨bl' (stL s), ((sSolidOk s hl).and ((iSolidOk s).and (treeT h.1 (by have := h.2; omega)).ev)).mono fun n ⟨h1, h2, h3, h4⟩ => ?_⟩
    have h3' : Dspec_l19Tree n s = some (bl' (stL s)) := h3
    have h4' : Dimpl_Solid_text n s = some (bl' (stL s)) := h4
    unfold Dspec_SolidText Dimpl_SolidText
    rw [h1, h2, decide_eq_true h]
    simp only [Option.bind_some, Bool.not_true, frk_f, h3', h4', and_self]
  · refine ⟨ByteArray.mk #[], ((sSolidOk s hl).and (iSolidOk s)).mono fun n ⟨h1, h2⟩ => ?_⟩
    unfold Dspec_SolidText Dimpl_SolidText
    rw [h1, h2, decide_eq_false h]
    exact ⟨rfl, rfl⟩
end Evl.T

/-! Egm -/
namespace Evl.T
open Go Evl

theorem oneSolC (a : Sol) (ha : Lens a) (L : Nat → Option Bool)
    (h1 : Ev fun n => Dlaws_szSolid n a 1048576 = some (-1) → L n = some true)
    (h2 : (tot a : Int) ≤ 1048576 → Ev fun n => Dlaws_szSolid n a 1048576 = some (1048576 - (tot a : Int)) → Dlaws_toSolid n a = some a → Dlaws_eqSolid n a a = some true → L n = some true) : ∃ n, L n = some true := by
  have e1 := sz a ha
  by_cases ht : (tot a : Int) ≤ 1048576
  · obtain ⟨N, hN⟩ := ((h2 ht).and (e1.and ((to a (by omega)).and (eqs a (by omega)))))
    obtain ⟨k0, k1, k2, k3⟩ := hN N (Nat.le_refl N)
    rw [szv_yes ht] at k1
    exact ⟨N, k0 k1 k2 k3⟩
  · obtain ⟨N, hN⟩ := (h1.and e1)
    obtain ⟨k0, k1⟩ := hN N (Nat.le_refl N)
    rw [szv_no ht] at k1
    exact ⟨N, k0 k1⟩
theorem plain_SolidText (a : Sol) (ha : Lens a) : ∃ n, Dlaws_FnExactSolidText n a = some true := by
  obtain ⟨v, hv⟩ := solidTexts a ha
  refine oneSolC a ha (fun n => Dlaws_FnExactSolidText n a) (Ev.of fun n k1 => ?_) (fun ht => hv.mono fun n ⟨f1, f2⟩ k1 k2 k3 => ?_)
  · simp only [Dlaws_FnExactSolidText, k1, Option.bind_some]; rfl
  · simp only [Dlaws_FnExactSolidText, k1, k2, k3, f1, f2, Option.bind_some, beq_self_eq_true, Bool.not_true, frk_f]
    rw [decide_eq_false (by omega), frk_f]
end Evl.T
