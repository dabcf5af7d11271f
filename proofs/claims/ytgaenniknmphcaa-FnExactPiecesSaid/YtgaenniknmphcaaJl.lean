/- Texts that belong together, joined. No condition. -/
import Derived.Test.YtgaenniknmphcaaJp
/-! Eps -/
namespace Evl.T
open Go Evl

theorem wth_iff (l : List Pl) (p : Pl) : wth l p = true ↔ ∃ i, i < l.length ∧ (cl2 (gt l i) p = true ∨ ∃ j, i < j ∧ j < l.length ∧ (cl3 (gt l i) (gt l j) p = true ∨ ∃ k, j < k ∧ k < l.length ∧ cl4 (gt l i) (gt l j) (gt l k) p = true)) := by
  unfold wth sAny3 sAny4
  simp only [List.any_eq_true, List.mem_range'_1, Bool.or_eq_true]
  constructor
  · rintro ⟨i, hi, h | ⟨j, hj, h | ⟨k, hk, h⟩⟩⟩
    · exact ⟨i, by omega, .inl h⟩
    · exact ⟨i, by omega, .inr ⟨j, by omega, by omega, .inl h⟩⟩
    · exact ⟨i, by omega, .inr ⟨j, by omega, by omega, .inr ⟨k, by omega, by omega, h⟩⟩⟩
  · rintro ⟨i, hi, h | ⟨j, hj, hj2, h | ⟨k, hk, hk2, h⟩⟩⟩
    · exact ⟨i, by omega, .inl h⟩
    · exact ⟨i, by omega, .inr ⟨j, by omega, .inl h⟩⟩
    · exact ⟨i, by omega, .inr ⟨j, by omega, .inr ⟨k, by omega, h⟩⟩⟩
/-- One plane less: no clash comes. -/
theorem wth_less {l1 l2 : List Pl} {x p : Pl} (h : wth (l1 ++ x :: l2) p = false) : wth (l1 ++ l2) p = false := by
  have key : ¬ wth (l1 ++ x :: l2) p = true := by simp [h]
  rw [← Bool.not_eq_true]
  intro h2
  apply key
  rw [wth_iff] at h2 ⊢
  let f : Nat → Nat := fun i => if i < l1.length then i else i + 1
  have fd : ∀ i, f i = if i < l1.length then i else i + 1 := fun _ => rfl
  have f1 : ∀ i j, i < j → f i < f j := fun i j hij => by
    rw [fd, fd]
    split <;> split <;> omega
  have f2 : ∀ i, i < (l1 ++ l2).length → f i < (l1 ++ x :: l2).length := fun i hi => by
    simp only [List.length_append, List.length_cons] at hi ⊢
    rw [fd]
    split <;> omega
  have f3 : ∀ i, gt (l1 ++ x :: l2) (f i) = gt (l1 ++ l2) i := fun i => by
    unfold gt
    show (((l1 ++ x :: l2)[if i < l1.length then i else i + 1]?).getD _) = _
    split
    · rename_i hi; rw [List.getElem?_append_left hi, List.getElem?_append_left hi]
    · rename_i hi
      rw [List.getElem?_append_right (by omega), List.getElem?_append_right (by omega), show i + 1 - l1.length = (i - l1.length) + 1 by omega, List.getElem?_cons_succ]
  obtain ⟨i, hi, h | ⟨j, hj, hj2, h | ⟨k, hk, hk2, h⟩⟩⟩ := h2
  · exact ⟨f i, f2 i hi, .inl (by rw [f3]; exact h)⟩
  · exact ⟨f i, f2 i hi, .inr ⟨f j, f1 _ _ hj, f2 j hj2, .inl (by rw [f3, f3]; exact h)⟩⟩
  · exact ⟨f i, f2 i hi, .inr ⟨f j, f1 _ _ hj, f2 j hj2, .inr ⟨f k, f1 _ _ hk, f2 k hk2, by rw [f3, f3, f3]; exact h⟩⟩⟩
theorem Rt.less {s : Sol} {path : List Pl} (h : Rt s path) : ∀ (l1 l2 : List Pl) (x : Pl), path = l1 ++ x :: l2 → Rt s (l1 ++ l2) := by
  induction h with
  | leaf hz => intro _ _ _ _; exact .leaf hz
  | @node p a b path h1 h2 h3 h4 _ _ iha ihb =>
    intro l1 l2 x e
    subst e
    refine .node h1 (by simp at h2 ⊢; omega) (wth_less h3) (wth_less h4) ?_ ?_
    · have := iha l1 (l2 ++ [p]) x (by simp)
      simpa using this
    · have := ihb l1 (l2 ++ [flp p]) x (by simp)
      simpa using this
theorem Rt.lens {s : Sol} {path : List Pl} (h : Rt s path) : Lens s := by
  induction h with
  | leaf hz => exact .mk (by simp [big]) (by simp)
  | node _ _ _ _ _ _ iha ihb =>
    refine .mk (by simp [big]) fun x hx => ?_
    simp only [List.mem_cons, List.not_mem_nil, or_false] at hx
    rcases hx with rfl | rfl
    · exact iha
    · exact ihb
end Evl.T

/-! Epo -/
namespace Evl.T
open Go Evl

/-! lists with weights -/
def sm (f : Pl → Int) : List (Int × Pl) → Int
  | [] => 0
  | x :: r => x.1 * f x.2 + sm f r
theorem sm_cons (f : Pl → Int) (x : Int × Pl) (r : List (Int × Pl)) : sm f (x :: r) = x.1 * f x.2 + sm f r := rfl
theorem sm_nil (f : Pl → Int) : sm f [] = 0 := rfl
/-- Weights above 0 on planes whose normals cancel each other, and whose Ds do not come above 0. -/
structure Cert (c : List (Int × Pl)) : Prop where
  pos : ∀ x ∈ c, 0 < x.1
  a : sm Pl.A c = 0
  b : sm Pl.B c = 0
  cc : sm Pl.C c = 0
  d : sm Pl.D c ≤ 0
  ne : c ≠ []
def tw (t : List (Int × Int × Pl)) : List (Int × Pl) := t.map fun x => (x.1, x.2.2)
def tv (t : List (Int × Int × Pl)) : List (Int × Pl) := t.map fun x => (x.2.1, x.2.2)
def tm (a b : Int) (t : List (Int × Int × Pl)) : List (Int × Pl) := t.map fun x => (a * x.1 + b * x.2.1, x.2.2)
theorem sm_tm (f : Pl → Int) (a b : Int) (t : List (Int × Int × Pl)) : sm f (tm a b t) = a * sm f (tw t) + b * sm f (tv t) := by
  induction t with
  | nil => simp [tm, tw, tv, sm]
  | cons x r ih =>
    simp only [tm, tw, tv, List.map_cons, sm_cons] at ih ⊢
    rw [ih]; grind
def pst (c : List (Int × Pl)) : List (Int × Pl) := c.filter fun x => decide (0 < x.1)
theorem sm_pst (f : Pl → Int) (c : List (Int × Pl)) (h : ∀ x ∈ c, 0 ≤ x.1) : sm f (pst c) = sm f c := by
  induction c with
  | nil => rfl
  | cons x r ih =>
    have ih := ih fun y hy => h y (List.mem_cons_of_mem _ hy)
    have hx := h x List.mem_cons_self
    unfold pst at ih ⊢
    by_cases hp : 0 < x.1
    · rw [List.filter_cons_of_pos (by simpa using hp), sm_cons, sm_cons, ih]
    · rw [List.filter_cons_of_neg (by simpa using hp), sm_cons, ih, show x.1 = 0 by omega]; omega
theorem pst_pos {c : List (Int × Pl)} {x : Int × Pl} (h : x ∈ pst c) : 0 < x.1 := by
  unfold pst at h; simpa using (List.mem_filter.1 h).2
theorem pst_sub (c : List (Int × Pl)) : (pst c).Sublist c := List.filter_sublist
theorem pst_lt {c : List (Int × Pl)} {x : Int × Pl} (h : x ∈ c) (h0 : x.1 = 0) : (pst c).length < c.length := by
  rcases Nat.lt_or_ge (pst c).length c.length with h1 | h1
  · exact h1
  · have e := (pst_sub c).eq_of_length_le h1
    rw [← e] at h; have := pst_pos h; omega

theorem mul_can {a b c : Int} (h : a * c ≤ b * c) (hc : 0 < c) : a ≤ b := Int.le_of_mul_le_mul_right h hc
/-- An entry whose second weight is greatest by its first. -/
theorem most (t : List (Int × Int × Pl)) (h : ∀ x ∈ t, 0 < x.1) (hn : t ≠ []) : ∃ m ∈ t, ∀ x ∈ t, x.2.1 * m.1 ≤ m.2.1 * x.1 := by
  induction t with
  | nil => exact absurd rfl hn
  | cons x r ih =>
    have hx := h x List.mem_cons_self
    by_cases hr : r = []
    · subst hr
      exact ⟨x, List.mem_cons_self, fun y hy => by rw [List.mem_singleton.1 hy]; exact Int.le_refl _⟩
    · obtain ⟨m, hm, h1⟩ := ih (fun y hy => h y (List.mem_cons_of_mem _ hy)) hr
      have hmp := h m (List.mem_cons_of_mem _ hm)
      by_cases hc : x.2.1 * m.1 ≤ m.2.1 * x.1
      · refine ⟨m, List.mem_cons_of_mem _ hm, fun y hy => ?_⟩
        rcases List.mem_cons.1 hy with rfl | hy
        · exact hc
        · exact h1 y hy
      · refine ⟨x, List.mem_cons_self, fun y hy => ?_⟩
        rcases List.mem_cons.1 hy with rfl | hy
        · exact Int.le_refl _
        · have hyp := h y (List.mem_cons_of_mem _ hy)
          have h2 := h1 y hy
          refine mul_can (c := m.1) ?_ hmp
          have h3 : y.2.1 * m.1 * x.1 ≤ m.2.1 * y.1 * x.1 := Int.mul_le_mul_of_nonneg_right h2 (by omega)
          have h4 : m.2.1 * x.1 * y.1 ≤ x.2.1 * m.1 * y.1 := Int.mul_le_mul_of_nonneg_right (by omega) (by omega)
          have e1 : y.2.1 * x.1 * m.1 = y.2.1 * m.1 * x.1 := by grind
          have e2 : m.2.1 * y.1 * x.1 = m.2.1 * x.1 * y.1 := by grind
          have e3 : x.2.1 * y.1 * m.1 = x.2.1 * m.1 * y.1 := by grind
          omega
theorem least (t : List (Int × Int × Pl)) (h : ∀ x ∈ t, 0 < x.1) (hn : t ≠ []) : ∃ m ∈ t, ∀ x ∈ t, m.2.1 * x.1 ≤ x.2.1 * m.1 := by
  obtain ⟨m, hm, h1⟩ := most (t.map fun x => (x.1, -x.2.1, x.2.2)) (fun x hx => by
    obtain ⟨y, hy, rfl⟩ := List.mem_map.1 hx; exact h y hy) (by simpa using hn)
  obtain ⟨k, hk, rfl⟩ := List.mem_map.1 hm
  refine ⟨k, hk, fun x hx => ?_⟩
  have := h1 _ (List.mem_map.2 ⟨x, hx, rfl⟩)
  simp only [Int.neg_mul] at this
  omega
theorem snd_tm (a b : Int) (t : List (Int × Int × Pl)) : (tm a b t).map (·.2) = t.map (·.2.2) := by simp [tm]
/-- Where weights and another row that cancels go not alike, fewer planes do. -/
theorem red (t : List (Int × Int × Pl)) (hc : Cert (tw t)) (ha : sm Pl.A (tv t) = 0) (hb : sm Pl.B (tv t) = 0) (hcc : sm Pl.C (tv t) = 0)
    (hne : ∃ x ∈ t, ∃ y ∈ t, x.1 * y.2.1 ≠ y.1 * x.2.1) : ∃ c, Cert c ∧ c.length < t.length ∧ (c.map (·.2)).Sublist (t.map (·.2.2)) := by
  have hp : ∀ x ∈ t, 0 < x.1 := fun x hx => hc.pos _ (List.mem_map.2 ⟨x, hx, rfl⟩)
  obtain ⟨x, hx, y, hy, hxy⟩ := hne
  have hn : t ≠ [] := fun h => by rw [h] at hx; cases hx
  obtain ⟨m, hm, h1⟩ := most t hp hn
  obtain ⟨k, hk, h2⟩ := least t hp hn
  have hmp := hp m hm; have hkp := hp k hk
  have hlt : k.2.1 * m.1 < m.2.1 * k.1 := by
    rcases Int.lt_or_le (k.2.1 * m.1) (m.2.1 * k.1) with h | h
    · exact h
    · exfalso
      have same : ∀ z ∈ t, z.2.1 * m.1 = m.2.1 * z.1 := fun z hz => by
        have a1 := h1 z hz; have a2 := h2 z hz
        have hzp := hp z hz
        have b1 : m.2.1 * k.1 * z.1 ≤ k.2.1 * m.1 * z.1 := Int.mul_le_mul_of_nonneg_right h (by omega)
        have b2 : k.2.1 * z.1 * m.1 ≤ z.2.1 * k.1 * m.1 := Int.mul_le_mul_of_nonneg_right a2 (by omega)
        have b3 : m.2.1 * z.1 ≤ z.2.1 * m.1 := mul_can (c := k.1) (by
          have e1 : m.2.1 * z.1 * k.1 = m.2.1 * k.1 * z.1 := by grind
          have e2 : k.2.1 * m.1 * z.1 = k.2.1 * z.1 * m.1 := by grind
          have e3 : z.2.1 * m.1 * k.1 = z.2.1 * k.1 * m.1 := by grind
          omega) hkp
        omega
      have s1 := same x hx; have s2 := same y hy
      apply hxy
      have : (x.1 * y.2.1) * m.1 = (y.1 * x.2.1) * m.1 := by grind
      exact Int.eq_of_mul_eq_mul_right (by omega) this
  have main : ∀ (a b : Int), (∀ z ∈ t, 0 ≤ a * z.1 + b * z.2.1) → (∃ z ∈ t, 0 < a * z.1 + b * z.2.1) → (∃ z ∈ t, a * z.1 + b * z.2.1 = 0) → a * sm Pl.D (tw t) + b * sm Pl.D (tv t) ≤ 0 →
      ∃ c, Cert c ∧ c.length < t.length ∧ (c.map (·.2)).Sublist (t.map (·.2.2)) := by
    intro a b q1 q2 q3 q4
    have hge : ∀ z ∈ tm a b t, 0 ≤ z.1 := fun z hz => by obtain ⟨w, hw, rfl⟩ := List.mem_map.1 hz; exact q1 w hw
    refine ⟨pst (tm a b t), ⟨fun z hz => pst_pos hz, ?_, ?_, ?_, ?_, ?_⟩, ?_, ?_⟩
    · rw [sm_pst _ _ hge, sm_tm, hc.a, ha]; simp
    · rw [sm_pst _ _ hge, sm_tm, hc.b, hb]; simp
    · rw [sm_pst _ _ hge, sm_tm, hc.cc, hcc]; simp
    · rw [sm_pst _ _ hge, sm_tm]; exact q4
    · obtain ⟨z, hz, h0⟩ := q2
      intro h
      have : (a * z.1 + b * z.2.1, z.2.2) ∈ pst (tm a b t) := List.mem_filter.2 ⟨List.mem_map.2 ⟨z, hz, rfl⟩, by simpa using h0⟩
      rw [h] at this; cases this
    · obtain ⟨z, hz, h0⟩ := q3
      have := pst_lt (c := tm a b t) (x := (a * z.1 + b * z.2.1, z.2.2)) (List.mem_map.2 ⟨z, hz, rfl⟩) h0
      rwa [show (tm a b t).length = t.length by simp [tm]] at this
    · rw [← snd_tm a b t]; exact (pst_sub _).map _
  have hD := hc.d
  by_cases hs : m.2.1 * sm Pl.D (tw t) + (-m.1) * sm Pl.D (tv t) ≤ 0
  · refine main m.2.1 (-m.1) (fun z hz => ?_) ⟨k, hk, ?_⟩ ⟨m, hm, ?_⟩ hs
    · have := h1 z hz; rw [Int.neg_mul, Int.mul_comm m.1]; omega
    · rw [Int.neg_mul, Int.mul_comm m.1]; omega
    · grind
  · refine main (-k.2.1) k.1 (fun z hz => ?_) ⟨m, hm, ?_⟩ ⟨k, hk, ?_⟩ ?_
    · have := h2 z hz; rw [Int.neg_mul, Int.mul_comm k.1]; omega
    · rw [Int.neg_mul, Int.mul_comm k.1]; omega
    · grind
    · have q1 : 0 < (m.2.1 * sm Pl.D (tw t) + (-m.1) * sm Pl.D (tv t)) * k.1 := Int.mul_pos (by omega) hkp
      have q2 : (m.2.1 * k.1 - k.2.1 * m.1) * sm Pl.D (tw t) ≤ 0 := Int.mul_nonpos_of_nonneg_of_nonpos (by omega) hD
      refine mul_can (c := m.1) ?_ hmp
      have e : ((-k.2.1) * sm Pl.D (tw t) + k.1 * sm Pl.D (tv t)) * m.1 = (m.2.1 * k.1 - k.2.1 * m.1) * sm Pl.D (tw t) - (m.2.1 * sm Pl.D (tw t) + (-m.1) * sm Pl.D (tv t)) * k.1 := by grind
      rw [e]; omega

/-! clashes and sublists -/
theorem sub_get {x : Pl} {r : List Pl} : ∀ {l : List Pl}, (x :: r).Sublist l → ∃ j, j < l.length ∧ gt l j = x ∧ r.Sublist (l.drop (j + 1)) := by
  intro l
  induction l with
  | nil => intro h; cases h
  | cons y l ih =>
    intro h
    cases h with
    | cons _ h =>
      obtain ⟨j, h1, h2, h3⟩ := ih h
      exact ⟨j + 1, by simp only [List.length_cons]; omega, h2, h3⟩
    | cons_cons _ h => exact ⟨0, by simp, rfl, h⟩
theorem gt_drop (l : List Pl) (i j : Nat) : gt (l.drop i) j = gt l (i + j) := by unfold gt; rw [List.getElem?_drop]
theorem get_sub {l : List Pl} {i : Nat} {r : List Pl} (h : i < l.length) (hr : r.Sublist (l.drop (i + 1))) : (gt l i :: r).Sublist (l.drop i) := by
  rw [List.drop_eq_getElem_cons h, show gt l i = l[i] by unfold gt; rw [List.getElem?_eq_getElem h]; rfl]
  exact hr.cons_cons _
theorem drop_up {l r : List Pl} {i j : Nat} (h : i ≤ j) (hr : r.Sublist (l.drop j)) : r.Sublist (l.drop i) := by
  have e : l.drop j = (l.drop i).drop (j - i) := by rw [List.drop_drop]; congr 1; omega
  rw [e] at hr
  exact hr.trans (List.drop_sublist _ _)
theorem drop_any {l r : List Pl} {j : Nat} (hr : r.Sublist (l.drop j)) : r.Sublist l := drop_up (Nat.zero_le j) hr
theorem wth_sub (l : List Pl) (p : Pl) : wth l p = true ↔ (∃ q, [q].Sublist l ∧ cl2 q p = true) ∨ (∃ q r, [q, r].Sublist l ∧ cl3 q r p = true) ∨ (∃ q r s, [q, r, s].Sublist l ∧ cl4 q r s p = true) := by
  rw [wth_iff]
  constructor
  · rintro ⟨i, hi, h | ⟨j, hj, hj2, h | ⟨k, hk, hk2, h⟩⟩⟩
    · exact .inl ⟨_, drop_any (get_sub hi (List.nil_sublist _)), h⟩
    · exact .inr (.inl ⟨_, _, drop_any (get_sub hi (drop_up (j := j) hj (get_sub hj2 (List.nil_sublist _)))), h⟩)
    · exact .inr (.inr ⟨_, _, _, drop_any (get_sub hi (drop_up (j := j) hj (get_sub hj2 (drop_up (j := k) hk (get_sub hk2 (List.nil_sublist _)))))), h⟩)
  · rintro (⟨q, h1, h⟩ | ⟨q, r, h1, h⟩ | ⟨q, r, s, h1, h⟩)
    · obtain ⟨i, hi, rfl, _⟩ := sub_get h1
      exact ⟨i, hi, .inl h⟩
    · obtain ⟨i, hi, rfl, h2⟩ := sub_get h1
      obtain ⟨j, hj, rfl, _⟩ := sub_get h2
      rw [gt_drop] at h; rw [List.length_drop] at hj
      exact ⟨i, hi, .inr ⟨i + 1 + j, by omega, by omega, .inl h⟩⟩
    · obtain ⟨i, hi, rfl, h2⟩ := sub_get h1
      obtain ⟨j, hj, rfl, h3⟩ := sub_get h2
      obtain ⟨k, hk, rfl, _⟩ := sub_get h3
      rw [gt_drop, gt_drop, gt_drop] at h; rw [List.length_drop] at hj hk; rw [List.length_drop] at hk
      exact ⟨i, hi, .inr ⟨i + 1 + j, by omega, by omega, .inr ⟨i + 1 + (j + 1 + k), by omega, by omega, h⟩⟩⟩

/-- A path that has room, as it grows. -/
inductive Opn : List Pl → Prop
  | nil : Opn []
  | snoc {l p} : Opn l → wth l p = false → Opn (l ++ [p])
theorem sub_snoc {r l : List Pl} {p q : Pl} (h : (r ++ [p]).Sublist (l ++ [q])) : (r ++ [p]).Sublist l ∨ (p = q ∧ r.Sublist l) := by
  have h := h.reverse
  rw [List.reverse_append, List.reverse_append] at h
  simp only [List.reverse_singleton, List.singleton_append] at h
  cases h with
  | cons _ h => left; have := h.reverse; simpa using this
  | cons_cons _ h => right; exact ⟨rfl, by have := h.reverse; simpa using this⟩
theorem Opn.last {l : List Pl} (h : Opn l) {r : List Pl} {p : Pl} (hs : (r ++ [p]).Sublist l) : ∃ l', r.Sublist l' ∧ wth l' p = false := by
  induction h with
  | nil => have := hs.length_le; simp at this
  | @snoc l q _ hw ih =>
    rcases sub_snoc hs with h | ⟨rfl, h⟩
    · exact ih h
    · exact ⟨l, h, hw⟩
/-- Is a plane's normal something? -/
def Nz (p : Pl) : Prop := p.A ≠ 0 ∨ p.B ≠ 0 ∨ p.C ≠ 0
theorem pOk_Nz {p : Pl} (h : pOk p = true) : Nz p := by
  unfold pOk at h; simp only [Bool.and_eq_true, decide_eq_true_eq] at h; exact h.2.2.2.2.1

theorem cr_dep (p q : Pl) : cr0 p q = 0 ∧ cr1 p q = 0 ∧ cr2 p q = 0 → Nz p → Nz q → ∃ x y, x ≠ 0 ∧ y ≠ 0 ∧ x * p.A + y * q.A = 0 ∧ x * p.B + y * q.B = 0 ∧ x * p.C + y * q.C = 0 := by
  obtain ⟨a, b, c, d⟩ := p; obtain ⟨e, f, g, i⟩ := q
  unfold Nz cr0 cr1 cr2
  simp only
  rintro ⟨h0, h1, h2⟩ hp hq
  have z : ∀ x y : Int, x ≠ 0 → x * y = 0 → y = 0 := fun x y hx h => (Int.mul_eq_zero.1 h).resolve_left hx
  by_cases ha : a = 0
  · by_cases hb : b = 0
    · have hc : c ≠ 0 := by rcases hp with h | h | h <;> first | exact absurd ha h | exact absurd hb h | exact h
      refine ⟨g, -c, ?_, by omega, ?_, ?_, ?_⟩
      · rintro rfl
        have := z c e hc (by grind); have := z c f hc (by grind)
        rcases hq with h | h | h <;> omega
      · grind
      · grind
      · grind
    · refine ⟨f, -b, ?_, by omega, ?_, ?_, ?_⟩
      · rintro rfl
        have := z b e hb (by grind); have := z b g hb (by grind)
        rcases hq with h | h | h <;> omega
      · grind
      · grind
      · grind
  · refine ⟨e, -a, ?_, by omega, ?_, ?_, ?_⟩
    · rintro rfl
      have := z a f ha (by grind); have := z a g ha (by grind)
      rcases hq with h | h | h <;> omega
    · grind
    · grind
    · grind
end Evl.T

/-! Epq -/
namespace Evl.T
open Go Evl

theorem sm_app (f : Pl → Int) (a b : List (Int × Pl)) : sm f (a ++ b) = sm f a + sm f b := by
  induction a with
  | nil => simp [sm]
  | cons x r ih => simp only [List.cons_append, sm_cons, ih]; omega
theorem sm_zero (f : Pl → Int) (b : List (Int × Pl)) : sm f (b.map fun x => ((0 : Int), x.2)) = 0 := by
  induction b with
  | nil => rfl
  | cons x r ih => simp only [List.map_cons, sm_cons, ih]; omega
theorem red2 (pre : List (Int × Int × Pl)) (rest : List (Int × Pl)) (hc : Cert (tw pre ++ rest)) (ha : sm Pl.A (tv pre) = 0) (hb : sm Pl.B (tv pre) = 0) (hcc : sm Pl.C (tv pre) = 0)
    (hne : (∃ x ∈ pre, ∃ y ∈ pre, x.1 * y.2.1 ≠ y.1 * x.2.1) ∨ (rest ≠ [] ∧ ∃ x ∈ pre, x.2.1 ≠ 0)) :
    ∃ c, Cert c ∧ c.length < (tw pre ++ rest).length ∧ (c.map (·.2)).Sublist ((tw pre ++ rest).map (·.2)) := by
  let t := pre ++ rest.map fun x => (x.1, (0 : Int), x.2)
  have e1 : tw t = tw pre ++ rest := by simp [t, tw, Function.comp_def]
  have e2 : ∀ f, sm f (tv t) = sm f (tv pre) := fun f => by
    have : tv t = tv pre ++ rest.map fun x => ((0 : Int), x.2) := by simp [t, tv, Function.comp_def]
    rw [this, sm_app, sm_zero]; omega
  have e3 : t.map (·.2.2) = (tw pre ++ rest).map (·.2) := by simp [t, tw, Function.comp_def]
  have e4 : t.length = (tw pre ++ rest).length := by simp [t, tw]
  obtain ⟨c, h1, h2, h3⟩ := red t (by rw [e1]; exact hc) (by rw [e2]; exact ha) (by rw [e2]; exact hb) (by rw [e2]; exact hcc) (by
    rcases hne with ⟨x, hx, y, hy, h⟩ | ⟨hr, x, hx, h⟩
    · exact ⟨x, List.mem_append_left _ hx, y, List.mem_append_left _ hy, h⟩
    · obtain ⟨y, r, rfl⟩ := List.exists_cons_of_ne_nil hr
      refine ⟨x, List.mem_append_left _ hx, (y.1, 0, y.2), List.mem_append_right _ (by simp), ?_⟩
      have hy : 0 < y.1 := hc.pos y (List.mem_append_right _ (by simp))
      intro h0
      simp only [Int.mul_zero] at h0
      rcases Int.mul_eq_zero.1 h0.symm with h1 | h1
      · omega
      · exact h h1)
  exact ⟨c, h1, by omega, by rw [← e3]; exact h3⟩

theorem same2 {w1 w2 : Int} {p q : Pl} (h1 : 0 < w1) (h2 : 0 < w2) (hq : Nz q) (ha : w1 * p.A + w2 * q.A = 0) (hb : w1 * p.B + w2 * q.B = 0) (hc : w1 * p.C + w2 * q.C = 0)
    (hd : w1 * p.D + w2 * q.D ≤ 0) : cl2 p q = true := by
  obtain ⟨a, b, c, d⟩ := p; obtain ⟨e, f, g, i⟩ := q
  simp only at ha hb hc hd
  have z : ∀ y : Int, w1 * y = 0 → y = 0 := fun y h => (Int.mul_eq_zero.1 h).resolve_left (by omega)
  have hpos : 0 < d3 e f g e f g := d3_pos (fun h => by
    unfold Nz at hq; simp only at hq
    rcases hq with h' | h' | h'
    · exact h' h.1
    · exact h' h.2.1
    · exact h' h.2.2)
  unfold cl2
  rw [decide_eq_true_iff]
  simp only [cr0, cr1, cr2, dt]
  refine ⟨⟨z _ (by grind), z _ (by grind), z _ (by grind), ?_⟩, ?_⟩
  · have e1 : w1 * (a * e + b * f + c * g) = -(w2 * d3 e f g e f g) := by unfold d3; grind
    have e2 : 0 < w2 * d3 e f g e f g := Int.mul_pos h2 hpos
    rcases Int.lt_or_le (a * e + b * f + c * g) 0 with h | h
    · exact h
    · have := Int.mul_nonneg (Int.le_of_lt h1) h; omega
  · have n : ∀ x y : Int, w1 * x + w2 * y = 0 → w1 * (x.natAbs : Int) = w2 * (y.natAbs : Int) := fun x y h => by
      have := na_mul (a := w1) (b := x) (c := w2) (d := -y) (by grind)
      rw [Int.natAbs_neg] at this
      rwa [Int.natAbs_of_nonneg (a := w1) (by omega), Int.natAbs_of_nonneg (a := w2) (by omega)] at this
    have na := n _ _ ha; have nb := n _ _ hb; have nc := n _ _ hc
    push_cast
    refine mul_can (c := w1) ?_ h1
    have e1 : ((↑e.natAbs + ↑f.natAbs + ↑g.natAbs) * d + (↑a.natAbs + ↑b.natAbs + ↑c.natAbs) * i) * w1 = ((e.natAbs : Int) + f.natAbs + g.natAbs) * (w1 * d + w2 * i) := by grind
    rw [e1, Int.zero_mul]
    exact Int.mul_nonpos_of_nonneg_of_nonpos (by omega) hd

/-- Numbers that go as weights above 0: all above 0, or all below. -/
theorem sgn_of {w k x y : Int} (hw : 0 < w) (hk : 0 < k) (h : w * x = k * y) : (0 < y → 0 < x) ∧ (y < 0 → x < 0) ∧ w * (x.natAbs : Int) = k * (y.natAbs : Int) := by
  refine ⟨fun hy => ?_, fun hy => ?_, ?_⟩
  · have := Int.mul_pos hk hy
    rcases Int.lt_or_le 0 x with h1 | h1
    · exact h1
    · have := Int.mul_nonpos_of_nonneg_of_nonpos (Int.le_of_lt hw) h1; omega
  · have : k * y < 0 := Int.mul_neg_of_pos_of_neg hk hy
    rcases Int.lt_or_le x 0 with h1 | h1
    · exact h1
    · have := Int.mul_nonneg (Int.le_of_lt hw) h1; omega
  · have := na_mul h
    rwa [Int.natAbs_of_nonneg (a := w) (by omega), Int.natAbs_of_nonneg (a := k) (by omega)] at this
theorem same3 {w1 w2 w3 x y z : Int} {p q r : Pl} (h1 : 0 < w1) (h2 : 0 < w2) (h3 : 0 < w3) (hz : z ≠ 0) (hx : w3 * x = w1 * z) (hy : w3 * y = w2 * z)
    (hd : w1 * p.D + w2 * q.D + w3 * r.D ≤ 0) : sk x y z p.D q.D r.D = true := by
  have sx := sgn_of h3 h1 hx; have sy := sgn_of h3 h2 hy
  unfold sk
  rw [decide_eq_true_iff]
  refine ⟨?_, ?_⟩
  · rcases Int.lt_or_lt_of_ne hz with h | h
    · exact .inr ⟨sx.2.1 h, sy.2.1 h, h⟩
    · exact .inl ⟨sx.1 h, sy.1 h, h⟩
  · refine mul_can (c := w3) ?_ h3
    have e : ((x.natAbs : Int) * p.D + (y.natAbs : Int) * q.D + (z.natAbs : Int) * r.D) * w3 = (z.natAbs : Int) * (w1 * p.D + w2 * q.D + w3 * r.D) := by
      have a1 := sx.2.2; have a2 := sy.2.2; grind
    rw [e, Int.zero_mul]
    exact Int.mul_nonpos_of_nonneg_of_nonpos (by omega) hd
theorem same4 {w1 w2 w3 w4 : Int} {p q r s : Pl} (h1 : 0 < w1) (h2 : 0 < w2) (h3 : 0 < w3) (h4 : 0 < w4) (hz : 0 - det3 p q r ≠ 0)
    (hx : w4 * det3 q r s = w1 * (0 - det3 p q r)) (hy : w4 * (0 - det3 p r s) = w2 * (0 - det3 p q r)) (hv : w4 * det3 p q s = w3 * (0 - det3 p q r))
    (hd : w1 * p.D + w2 * q.D + w3 * r.D + w4 * s.D ≤ 0) : cl4 p q r s = true := by
  have sx := sgn_of h4 h1 hx; have sy := sgn_of h4 h2 hy; have sv := sgn_of h4 h3 hv
  unfold cl4
  generalize det3 q r s = a at *
  generalize (0 - det3 p r s) = b at *
  generalize det3 p q s = c at *
  generalize (0 - det3 p q r) = z at *
  rw [decide_eq_true_iff]
  refine ⟨?_, ?_⟩
  · rcases Int.lt_or_lt_of_ne hz with h | h
    · exact .inr ⟨sx.2.1 h, sy.2.1 h, sv.2.1 h, h⟩
    · exact .inl ⟨sx.1 h, sy.1 h, sv.1 h, h⟩
  · refine mul_can (c := w4) ?_ h4
    have e : ((a.natAbs : Int) * p.D + (b.natAbs : Int) * q.D + (c.natAbs : Int) * r.D + (z.natAbs : Int) * s.D) * w4 = (z.natAbs : Int) * (w1 * p.D + w2 * q.D + w3 * r.D + w4 * s.D) := by
      have a1 := sx.2.2; have a2 := sy.2.2; have a3 := sv.2.2; grind
    rw [e, Int.zero_mul]
    exact Int.mul_nonpos_of_nonneg_of_nonpos (by omega) hd

/-- The crosses of three planes without a determinant, at each place. -/
theorem cross_dep {p q r : Pl} (h : det3 p q r = 0) :
    (cr0 q r * p.A + cr0 r p * q.A + cr0 p q * r.A = 0 ∧ cr0 q r * p.B + cr0 r p * q.B + cr0 p q * r.B = 0 ∧ cr0 q r * p.C + cr0 r p * q.C + cr0 p q * r.C = 0) ∧
    (cr1 q r * p.A + cr1 r p * q.A + cr1 p q * r.A = 0 ∧ cr1 q r * p.B + cr1 r p * q.B + cr1 p q * r.B = 0 ∧ cr1 q r * p.C + cr1 r p * q.C + cr1 p q * r.C = 0) ∧
    (cr2 q r * p.A + cr2 r p * q.A + cr2 p q * r.A = 0 ∧ cr2 q r * p.B + cr2 r p * q.B + cr2 p q * r.B = 0 ∧ cr2 q r * p.C + cr2 r p * q.C + cr2 p q * r.C = 0) := by
  obtain ⟨a, b, c, d⟩ := p; obtain ⟨e, f, g, i⟩ := q; obtain ⟨j, k, l, m⟩ := r
  simp only [det3, cr0, cr1, cr2] at h ⊢
  refine ⟨⟨?_, ?_, ?_⟩, ⟨?_, ?_, ?_⟩, ?_, ?_, ?_⟩ <;> grind
theorem det_dep (p q r s : Pl) :
    det3 q r s * p.A + (0 - det3 p r s) * q.A + det3 p q s * r.A + (0 - det3 p q r) * s.A = 0 ∧
    det3 q r s * p.B + (0 - det3 p r s) * q.B + det3 p q s * r.B + (0 - det3 p q r) * s.B = 0 ∧
    det3 q r s * p.C + (0 - det3 p r s) * q.C + det3 p q s * r.C + (0 - det3 p q r) * s.C = 0 := by
  obtain ⟨a, b, c, d⟩ := p; obtain ⟨e, f, g, i⟩ := q; obtain ⟨j, k, l, m⟩ := r; obtain ⟨u, v, w, x⟩ := s
  simp only [det3]
  refine ⟨?_, ?_, ?_⟩ <;> grind
theorem det_zero {w1 w2 w3 : Int} {p q r : Pl} (h1 : 0 < w1) (ha : w1 * p.A + w2 * q.A + w3 * r.A = 0) (hb : w1 * p.B + w2 * q.B + w3 * r.B = 0) (hc : w1 * p.C + w2 * q.C + w3 * r.C = 0) : det3 p q r = 0 := by
  obtain ⟨a, b, c, d⟩ := p; obtain ⟨e, f, g, i⟩ := q; obtain ⟨j, k, l, m⟩ := r
  simp only [det3] at ha hb hc ⊢
  refine (Int.mul_eq_zero.1 (show w1 * _ = 0 from ?_)).resolve_left (by omega)
  have e1 : w1 * a = -(w2 * e) - w3 * j := by omega
  have e2 : w1 * b = -(w2 * f) - w3 * k := by omega
  have e3 : w1 * c = -(w2 * g) - w3 * l := by omega
  rw [Int.mul_add, Int.mul_add, ← Int.mul_assoc, ← Int.mul_assoc, ← Int.mul_assoc, e1, e2, e3]
  grind
/-- Three planes without a determinant: some row cancels them. -/
theorem dep3 {p q r : Pl} (h : det3 p q r = 0) (hp : Nz p) (hq : Nz q) : ∃ x y z : Int, (x ≠ 0 ∨ z ≠ 0) ∧
    x * p.A + y * q.A + z * r.A = 0 ∧ x * p.B + y * q.B + z * r.B = 0 ∧ x * p.C + y * q.C + z * r.C = 0 := by
  by_cases hw : cr0 p q = 0 ∧ cr1 p q = 0 ∧ cr2 p q = 0
  · obtain ⟨x, y, h1, h2, h3, h4, h5⟩ := cr_dep p q hw hp hq
    exact ⟨x, y, 0, .inl h1, by omega, by omega, by omega⟩
  · obtain ⟨c0, c1, c2⟩ := cross_dep h
    by_cases h0 : cr0 p q = 0
    · by_cases h1 : cr1 p q = 0
      · exact ⟨_, _, _, .inr fun h2 => hw ⟨h0, h1, h2⟩, c2⟩
      · exact ⟨_, _, _, .inr h1, c1⟩
    · exact ⟨_, _, _, .inr h0, c0⟩
end Evl.T

/-! Epr -/
namespace Evl.T
open Go Evl

theorem no_cert {l : List Pl} (ho : Opn l) (hz : ∀ q ∈ l, Nz q) : ∀ (n : Nat) (c : List (Int × Pl)), c.length < n → Cert c → (c.map (·.2)).Sublist l → False := by
  intro n
  induction n with
  | zero => intro c h; omega
  | succ n ih =>
    intro c hn hc hs
    have go : (∃ c', Cert c' ∧ c'.length < c.length ∧ (c'.map (·.2)).Sublist (c.map (·.2))) → False := fun ⟨c', h1, h2, h3⟩ => ih c' (by omega) h1 (h3.trans hs)
    have nz : ∀ x ∈ c, Nz x.2 := fun x hx => hz _ (hs.subset (List.mem_map.2 ⟨x, hx, rfl⟩))
    have ps := hc.pos
    have ha := hc.a; have hb := hc.b; have hcc := hc.cc; have hd := hc.d
    match c, hc, hs, go, nz, ps, ha, hb, hcc, hd with
    | [], hc, _, _, _, _, _, _, _, _ => exact hc.ne rfl
    | [(w, p)], _, _, _, nz, ps, ha, hb, hcc, _ =>
      have hw := ps _ (List.mem_singleton.2 rfl)
      have hn := nz _ (List.mem_singleton.2 rfl)
      simp only [sm, Int.add_zero] at ha hb hcc hw
      have z : ∀ y : Int, w * y = 0 → y = 0 := fun y h => (Int.mul_eq_zero.1 h).resolve_left (by omega)
      rcases hn with h | h | h
      · exact h (z _ ha)
      · exact h (z _ hb)
      · exact h (z _ hcc)
    | [(w1, p), (w2, q)], _, hs, _, nz, ps, ha, hb, hcc, hd =>
      have h1 : 0 < w1 := ps (w1, p) (by simp)
      have h2 : 0 < w2 := ps (w2, q) (by simp)
      have nq : Nz q := nz (w2, q) (by simp)
      simp only [sm, Int.add_zero] at ha hb hcc hd
      have hcl := same2 h1 h2 nq ha hb hcc hd
      obtain ⟨l', h3, h4⟩ := ho.last (r := [p]) (p := q) hs
      rw [(wth_sub l' q).2 (.inl ⟨p, h3, hcl⟩)] at h4
      cases h4
    | [(w1, p), (w2, q), (w3, r)], hc, hs, go, nz, ps, ha, hb, hcc, hd =>
      have h1 : 0 < w1 := ps (w1, p) (by simp)
      have h2 : 0 < w2 := ps (w2, q) (by simp)
      have h3 : 0 < w3 := ps (w3, r) (by simp)
      have np : Nz p := nz (w1, p) (by simp)
      have nq : Nz q := nz (w2, q) (by simp)
      simp only [sm, Int.add_zero] at ha hb hcc hd
      have hdet : det3 p q r = 0 := det_zero (w2 := w2) (w3 := w3) h1 (by omega) (by omega) (by omega)
      by_cases hw : cr0 p q = 0 ∧ cr1 p q = 0 ∧ cr2 p q = 0
      · obtain ⟨x, y, hx, hy, e1, e2, e3⟩ := cr_dep p q hw np nq
        refine go (red2 [(w1, x, p), (w2, y, q)] [(w3, r)] hc ?_ ?_ ?_ (.inr ⟨by simp, (w1, x, p), by simp, hx⟩))
        · simp only [tv, List.map_cons, List.map_nil, sm]; omega
        · simp only [tv, List.map_cons, List.map_nil, sm]; omega
        · simp only [tv, List.map_cons, List.map_nil, sm]; omega
      · obtain ⟨c0, c1, c2⟩ := cross_dep hdet
        obtain ⟨⟨a1, a2, a3⟩, b1, b2, b3⟩ := par3 hdet
        have pX := prj a1 a2 a3; have pY := prj b1 b2 b3
        have key : ∀ x y z : Int, z ≠ 0 → (x * p.A + y * q.A + z * r.A = 0 ∧ x * p.B + y * q.B + z * r.B = 0 ∧ x * p.C + y * q.C + z * r.C = 0) →
            d3 (cr0 q r) (cr1 q r) (cr2 q r) (cr0 p q) (cr1 p q) (cr2 p q) * z = x * d3 (cr0 p q) (cr1 p q) (cr2 p q) (cr0 p q) (cr1 p q) (cr2 p q) →
            d3 (cr0 r p) (cr1 r p) (cr2 r p) (cr0 p q) (cr1 p q) (cr2 p q) * z = y * d3 (cr0 p q) (cr1 p q) (cr2 p q) (cr0 p q) (cr1 p q) (cr2 p q) → False := by
          intro x y z hz0 ⟨d1, d2, d3'⟩ hX hY
          by_cases hx : w3 * x = w1 * z
          · by_cases hy : w3 * y = w2 * z
            · have hk := same3 (p := p) (q := q) (r := r) h1 h2 h3 hz0 hx hy (by omega)
              rw [sk_cl3 hdet hw hz0 hX hY] at hk
              obtain ⟨l', h3, h4⟩ := ho.last (r := [p, q]) (p := r) hs
              rw [(wth_sub l' r).2 (.inr (.inl ⟨p, q, h3, hk⟩))] at h4
              cases h4
            · refine go (red2 [(w1, x, p), (w2, y, q), (w3, z, r)] [] hc ?_ ?_ ?_ (.inl ⟨(w3, z, r), by simp, (w2, y, q), by simp, hy⟩))
              · simp only [tv, List.map_cons, List.map_nil, sm]; omega
              · simp only [tv, List.map_cons, List.map_nil, sm]; omega
              · simp only [tv, List.map_cons, List.map_nil, sm]; omega
          · refine go (red2 [(w1, x, p), (w2, y, q), (w3, z, r)] [] hc ?_ ?_ ?_ (.inl ⟨(w3, z, r), by simp, (w1, x, p), by simp, hx⟩))
            · simp only [tv, List.map_cons, List.map_nil, sm]; omega
            · simp only [tv, List.map_cons, List.map_nil, sm]; omega
            · simp only [tv, List.map_cons, List.map_nil, sm]; omega
        by_cases h0 : cr0 p q = 0
        · by_cases h1 : cr1 p q = 0
          · exact key _ _ _ (fun h2 => hw ⟨h0, h1, h2⟩) c2 pX.2.2 pY.2.2
          · exact key _ _ _ h1 c1 pX.2.1 pY.2.1
        · exact key _ _ _ h0 c0 pX.1 pY.1
    | (w1, p) :: (w2, q) :: (w3, r) :: (w4, s) :: rest, hc, hs, go, nz, ps, ha, hb, hcc, hd =>
      have h1 : 0 < w1 := ps (w1, p) (by simp)
      have h2 : 0 < w2 := ps (w2, q) (by simp)
      have h3 : 0 < w3 := ps (w3, r) (by simp)
      have h4 : 0 < w4 := ps (w4, s) (by simp)
      have np : Nz p := nz (w1, p) (by simp)
      have nq : Nz q := nz (w2, q) (by simp)
      by_cases hz0 : 0 - det3 p q r = 0
      · obtain ⟨x, y, z, hxz, e1, e2, e3⟩ := dep3 (p := p) (q := q) (r := r) (by omega) np nq
        refine go (red2 [(w1, x, p), (w2, y, q), (w3, z, r)] ((w4, s) :: rest) hc ?_ ?_ ?_ (.inr ⟨by simp, ?_⟩))
        · simp only [tv, List.map_cons, List.map_nil, sm]; omega
        · simp only [tv, List.map_cons, List.map_nil, sm]; omega
        · simp only [tv, List.map_cons, List.map_nil, sm]; omega
        · rcases hxz with h | h
          · exact ⟨(w1, x, p), by simp, h⟩
          · exact ⟨(w3, z, r), by simp, h⟩
      · obtain ⟨e1, e2, e3⟩ := det_dep p q r s
        have rd := red2 [(w1, det3 q r s, p), (w2, 0 - det3 p r s, q), (w3, det3 p q s, r), (w4, 0 - det3 p q r, s)] rest hc
          (by simp only [tv, List.map_cons, List.map_nil, sm]; omega) (by simp only [tv, List.map_cons, List.map_nil, sm]; omega) (by simp only [tv, List.map_cons, List.map_nil, sm]; omega)
        by_cases hr : rest = []
        · subst hr
          by_cases hx : w4 * det3 q r s = w1 * (0 - det3 p q r)
          · by_cases hy : w4 * (0 - det3 p r s) = w2 * (0 - det3 p q r)
            · by_cases hv : w4 * det3 p q s = w3 * (0 - det3 p q r)
              · simp only [sm, Int.add_zero] at hd
                have hk := same4 h1 h2 h3 h4 hz0 hx hy hv (by omega)
                obtain ⟨l', h3, h4⟩ := ho.last (r := [p, q, r]) (p := s) hs
                rw [(wth_sub l' s).2 (.inr (.inr ⟨p, q, r, h3, hk⟩))] at h4
                cases h4
              · exact go (rd (.inl ⟨(w4, 0 - det3 p q r, s), by simp, (w3, det3 p q s, r), by simp, hv⟩))
            · exact go (rd (.inl ⟨(w4, 0 - det3 p q r, s), by simp, (w2, 0 - det3 p r s, q), by simp, hy⟩))
          · exact go (rd (.inl ⟨(w4, 0 - det3 p q r, s), by simp, (w1, det3 q r s, p), by simp, hx⟩))
        · exact go (rd (.inr ⟨hr, (w4, 0 - det3 p q r, s), by simp, hz0⟩))

/-! a clash gives weights -/
/-- Weights on some of a list, and one on a plane more. -/
def Half (l : List Pl) (p : Pl) : Prop := ∃ (c : List (Int × Pl)) (m : Int), 0 < m ∧ c ≠ [] ∧ (∀ x ∈ c, 0 < x.1) ∧ (c.map (·.2)).Sublist l ∧
  sm Pl.A c + m * p.A = 0 ∧ sm Pl.B c + m * p.B = 0 ∧ sm Pl.C c + m * p.C = 0 ∧ sm Pl.D c + m * p.D ≤ 0
theorem half2 {p q : Pl} {l : List Pl} (hs : [q].Sublist l) (hq : Nz q) (h : cl2 q p = true) : Half l p := by
  unfold cl2 at h
  rw [decide_eq_true_iff] at h
  obtain ⟨⟨h0, h1, h2, h3⟩, h4⟩ := h
  obtain ⟨a, b, c, d⟩ := p; obtain ⟨e, f, g, i⟩ := q
  simp only [cr0, cr1, cr2, dt, Nz] at h0 h1 h2 h3 h4 hq
  have hN : 0 < d3 e f g e f g := d3_pos (fun h => by
    rcases hq with h' | h' | h'
    · exact h' h.1
    · exact h' h.2.1
    · exact h' h.2.2)
  have ca : (0 - (e * a + f * b + g * c)) * e + d3 e f g e f g * a = 0 := by unfold d3; grind
  have cb : (0 - (e * a + f * b + g * c)) * f + d3 e f g e f g * b = 0 := by unfold d3; grind
  have cc : (0 - (e * a + f * b + g * c)) * g + d3 e f g e f g * c = 0 := by unfold d3; grind
  generalize d3 e f g e f g = N at *
  have hM : 0 < 0 - (e * a + f * b + g * c) := by omega
  generalize 0 - (e * a + f * b + g * c) = M at *
  refine ⟨[(M, ⟨e, f, g, i⟩)], N, hN, by simp, ?_, hs, ?_, ?_, ?_, ?_⟩
  · intro x hx; rw [List.mem_singleton.1 hx]; exact hM
  · simp only [sm]; omega
  · simp only [sm]; omega
  · simp only [sm]; omega
  · simp only [sm, Int.add_zero]
    have n : ∀ x y : Int, M * x + N * y = 0 → M * (x.natAbs : Int) = N * (y.natAbs : Int) := fun x y h => by
      have := na_mul (a := M) (b := x) (c := N) (d := -y) (by grind)
      rw [Int.natAbs_neg] at this
      rwa [Int.natAbs_of_nonneg (a := M) (by omega), Int.natAbs_of_nonneg (a := N) (by omega)] at this
    have na := n _ _ ca; have nb := n _ _ cb; have nc := n _ _ cc
    push_cast at h4
    have hQ : 0 < (e.natAbs : Int) + f.natAbs + g.natAbs := by
      rcases hq with h' | h' | h' <;> omega
    refine mul_can (c := (e.natAbs : Int) + f.natAbs + g.natAbs) ?_ hQ
    have e1 : (M * i + N * d) * ((e.natAbs : Int) + f.natAbs + g.natAbs) = N * (((a.natAbs : Int) + b.natAbs + c.natAbs) * i + ((e.natAbs : Int) + f.natAbs + g.natAbs) * d) := by grind
    rw [e1, Int.zero_mul]
    exact Int.mul_nonpos_of_nonneg_of_nonpos (by omega) h4
theorem lin3 {x0 x1 x2 y0 y1 y2 w0 w1 w2 a b c : Int} (h0 : x0 * a + y0 * b + w0 * c = 0) (h1 : x1 * a + y1 * b + w1 * c = 0) (h2 : x2 * a + y2 * b + w2 * c = 0) :
    d3 x0 x1 x2 w0 w1 w2 * a + d3 y0 y1 y2 w0 w1 w2 * b + d3 w0 w1 w2 w0 w1 w2 * c = 0 := by
  have e : d3 x0 x1 x2 w0 w1 w2 * a + d3 y0 y1 y2 w0 w1 w2 * b + d3 w0 w1 w2 w0 w1 w2 * c = w0 * (x0 * a + y0 * b + w0 * c) + w1 * (x1 * a + y1 * b + w1 * c) + w2 * (x2 * a + y2 * b + w2 * c) := by unfold d3; grind
  rw [e, h0, h1, h2]; simp
theorem half3 {p q r : Pl} {l : List Pl} (hs : [q, r].Sublist l) (h : cl3 q r p = true) : Half l p := by
  unfold cl3 at h
  rw [decide_eq_true_iff] at h
  obtain ⟨h0, h1, ⟨h2, h3⟩, h4⟩ := h
  obtain ⟨⟨c1, c2, c3⟩, ⟨c4, c5, c6⟩, c7, c8, c9⟩ := cross_dep h0
  refine ⟨[(d3 (cr0 r p) (cr1 r p) (cr2 r p) (cr0 q r) (cr1 q r) (cr2 q r), q), (d3 (cr0 p q) (cr1 p q) (cr2 p q) (cr0 q r) (cr1 q r) (cr2 q r), r)], d3 (cr0 q r) (cr1 q r) (cr2 q r) (cr0 q r) (cr1 q r) (cr2 q r), h1, by simp, ?_, hs, ?_, ?_, ?_, ?_⟩
  · intro x hx
    simp only [List.mem_cons, List.not_mem_nil, or_false] at hx
    rcases hx with rfl | rfl
    · exact h2
    · exact h3
  · simp only [sm, Int.add_zero]; exact lin3 c1 c4 c7
  · simp only [sm, Int.add_zero]; exact lin3 c2 c5 c8
  · simp only [sm, Int.add_zero]; exact lin3 c3 c6 c9
  · simp only [sm]; omega
theorem half4 {p q r s : Pl} {l : List Pl} (hs : [q, r, s].Sublist l) (h : cl4 q r s p = true) : Half l p := by
  unfold cl4 at h
  rw [decide_eq_true_iff] at h
  obtain ⟨h0, h4⟩ := h
  obtain ⟨c1, c2, c3⟩ := det_dep q r s p
  generalize det3 r s p = a at *
  generalize (0 - det3 q s p) = b at *
  generalize det3 q r p = c at *
  generalize (0 - det3 q r s) = z at *
  have ps : 0 < (a.natAbs : Int) ∧ 0 < (b.natAbs : Int) ∧ 0 < (c.natAbs : Int) ∧ 0 < (z.natAbs : Int) := by omega
  have key : ∀ x y u v : Int, a * x + b * y + c * u + z * v = 0 → (a.natAbs : Int) * x + ((b.natAbs : Int) * y + ((c.natAbs : Int) * u + 0)) + (z.natAbs : Int) * v = 0 := fun x y u v h => by
    rcases h0 with h0 | h0
    · rw [Int.natAbs_of_nonneg (by omega), Int.natAbs_of_nonneg (by omega), Int.natAbs_of_nonneg (by omega), Int.natAbs_of_nonneg (by omega)]; omega
    · rw [Int.ofNat_natAbs_of_nonpos (by omega), Int.ofNat_natAbs_of_nonpos (by omega), Int.ofNat_natAbs_of_nonpos (by omega), Int.ofNat_natAbs_of_nonpos (by omega)]; grind
  refine ⟨[((a.natAbs : Int), q), ((b.natAbs : Int), r), ((c.natAbs : Int), s)], (z.natAbs : Int), ps.2.2.2, by simp, ?_, hs, key _ _ _ _ c1, key _ _ _ _ c2, key _ _ _ _ c3, ?_⟩
  · intro x hx
    simp only [List.mem_cons, List.not_mem_nil, or_false] at hx
    rcases hx with rfl | rfl | rfl
    · exact ps.1
    · exact ps.2.1
    · exact ps.2.2.1
  · simp only [sm]; omega
theorem half_of {l : List Pl} {p : Pl} (hz : ∀ q ∈ l, Nz q) (h : wth l p = true) : Half l p := by
  rcases (wth_sub l p).1 h with ⟨q, h1, h2⟩ | ⟨q, r, h1, h2⟩ | ⟨q, r, s, h1, h2⟩
  · exact half2 h1 (hz q (h1.subset List.mem_cons_self)) h2
  · exact half3 h1 h2
  · exact half4 h1 h2
/-- Weights on some of a list, as weights on all of it. -/
theorem pad {l : List Pl} : ∀ {c : List (Int × Pl)}, (c.map (·.2)).Sublist l → (∀ x ∈ c, 0 < x.1) → ∃ z : List (Int × Pl), z.map (·.2) = l ∧ (∀ x ∈ z, 0 ≤ x.1) ∧ ∀ f, sm f z = sm f c := by
  induction l with
  | nil =>
    intro c h _
    have : c = [] := by have := h.length_le; simpa using this
    subst this
    exact ⟨[], rfl, by simp, fun _ => rfl⟩
  | cons y l ih =>
    intro c h hp
    have skip : (c.map (·.2)).Sublist l → ∃ z : List (Int × Pl), z.map (·.2) = y :: l ∧ (∀ x ∈ z, 0 ≤ x.1) ∧ ∀ f, sm f z = sm f c := fun h => by
      obtain ⟨z, h1, h2, h3⟩ := ih h hp
      refine ⟨(0, y) :: z, by simp [h1], fun x hx => ?_, fun f => ?_⟩
      · rcases List.mem_cons.1 hx with rfl | hx
        · exact Int.le_refl _
        · exact h2 x hx
      · rw [sm_cons, h3]; omega
    match c, h, hp, skip with
    | [], _, _, skip => exact skip (List.nil_sublist _)
    | x :: c, h, hp, skip =>
      simp only [List.map_cons] at h
      cases h with
      | cons _ h => exact skip h
      | cons_cons _ h =>
        obtain ⟨z, h1, h2, h3⟩ := ih h fun x hx => hp x (List.mem_cons_of_mem _ hx)
        refine ⟨(x.1, x.2) :: z, by simp [h1], fun w hw => ?_, fun f => ?_⟩
        · rcases List.mem_cons.1 hw with rfl | hw
          · exact Int.le_of_lt (hp x List.mem_cons_self)
          · exact h2 w hw
        · rw [sm_cons, sm_cons, h3]
def mix (a b : Int) : List (Int × Pl) → List (Int × Pl) → List (Int × Pl)
  | x :: c, y :: d => (a * x.1 + b * y.1, x.2) :: mix a b c d
  | _, _ => []
theorem sm_mix (f : Pl → Int) (a b : Int) : ∀ (c d : List (Int × Pl)), c.map (·.2) = d.map (·.2) → sm f (mix a b c d) = a * sm f c + b * sm f d
  | [], [], _ => by simp [mix, sm]
  | x :: c, y :: d, h => by
    simp only [List.map_cons, List.cons.injEq] at h
    simp only [mix, sm_cons]
    rw [sm_mix f a b c d h.2, h.1]; grind
  | [], _ :: _, h => by simp at h
  | _ :: _, [], h => by simp at h
theorem mix_snd (a b : Int) : ∀ (c d : List (Int × Pl)), c.map (·.2) = d.map (·.2) → (mix a b c d).map (·.2) = c.map (·.2)
  | [], [], _ => rfl
  | x :: c, y :: d, h => by
    simp only [List.map_cons, List.cons.injEq] at h
    simp only [mix, List.map_cons]
    rw [mix_snd a b c d h.2]
  | [], _ :: _, h => by simp at h
  | _ :: _, [], h => by simp at h
theorem mix_ge {a b : Int} (ha : 0 ≤ a) (hb : 0 ≤ b) : ∀ (c d : List (Int × Pl)), (∀ x ∈ c, 0 ≤ x.1) → (∀ x ∈ d, 0 ≤ x.1) → ∀ x ∈ mix a b c d, 0 ≤ x.1
  | [], _, _, _ => by simp [mix]
  | _ :: _, [], _, _ => by simp [mix]
  | x :: c, y :: d, hc, hd => by
    intro z hz
    simp only [mix] at hz
    rcases List.mem_cons.1 hz with rfl | hz
    · have h1 := Int.mul_nonneg ha (hc x List.mem_cons_self)
      have h2 := Int.mul_nonneg hb (hd y List.mem_cons_self)
      show 0 ≤ a * x.1 + b * y.1
      omega
    · exact mix_ge ha hb c d (fun w hw => hc w (List.mem_cons_of_mem _ hw)) (fun w hw => hd w (List.mem_cons_of_mem _ hw)) z hz
theorem sm_pos {c : List (Int × Pl)} (h : ∀ x ∈ c, 0 < x.1) (hn : c ≠ []) : 0 < sm (fun _ => 1) c := by
  have ge : ∀ c : List (Int × Pl), (∀ x ∈ c, 0 < x.1) → 0 ≤ sm (fun _ => 1) c := fun c => by
    induction c with
    | nil => intro _; exact Int.le_refl _
    | cons x r ih =>
      intro h
      have h1 := h x List.mem_cons_self
      have h2 := ih fun y hy => h y (List.mem_cons_of_mem _ hy)
      rw [sm_cons]; omega
  obtain ⟨x, r, rfl⟩ := List.exists_cons_of_ne_nil hn
  have h1 := h x List.mem_cons_self
  have h2 := ge r fun y hy => h y (List.mem_cons_of_mem _ hy)
  rw [sm_cons]; omega
/-- Along a path that has room, a plane or its other side has room. -/
theorem flip_room {l : List Pl} (ho : Opn l) (hz : ∀ q ∈ l, Nz q) (p : Pl) : wth l p = false ∨ wth l (flp p) = false := by
  cases h1 : wth l p with
  | false => exact .inl rfl
  | true =>
    cases h2 : wth l (flp p) with
    | false => exact .inr rfl
    | true =>
      exfalso
      obtain ⟨c, m, hm, hcn, hcp, hcs, ca, cb, cc, cd⟩ := half_of hz h1
      obtain ⟨d, k, hk, hdn, hdp, hds, da, db, dc, dd⟩ := half_of hz h2
      obtain ⟨z, z1, z2, z3⟩ := pad hcs hcp
      obtain ⟨y, y1, y2, y3⟩ := pad hds hdp
      have hzy : z.map (·.2) = y.map (·.2) := by rw [z1, y1]
      have ge := mix_ge (a := k) (b := m) (by omega) (by omega) z y z2 y2
      have e : ∀ f, sm f (pst (mix k m z y)) = k * sm f c + m * sm f d := fun f => by rw [sm_pst _ _ ge, sm_mix f k m z y hzy, z3, y3]
      simp only [flp] at da db dc dd
      refine no_cert ho hz _ (pst (mix k m z y)) (Nat.lt_succ_self _) ⟨fun x hx => pst_pos hx, ?_, ?_, ?_, ?_, ?_⟩ ?_
      · rw [e]; grind
      · rw [e]; grind
      · rw [e]; grind
      · rw [e]
        have e1 : k * sm Pl.D c + m * sm Pl.D d = k * (sm Pl.D c + m * p.D) + m * (sm Pl.D d + k * (0 - p.D)) := by grind
        rw [e1]
        have h1 := Int.mul_nonpos_of_nonneg_of_nonpos (Int.le_of_lt hk) cd
        have h2 := Int.mul_nonpos_of_nonneg_of_nonpos (Int.le_of_lt hm) dd
        omega
      · intro h
        have := e fun _ => 1
        rw [h, sm_nil] at this
        have h1 := Int.mul_pos hk (sm_pos hcp hcn)
        have h2 := Int.mul_pos hm (sm_pos hdp hdn)
        omega
      · have := (pst_sub (mix k m z y)).map (·.2)
        rw [mix_snd k m z y hzy, z1] at this
        exact this
end Evl.T

/-! Etr -/
namespace Evl.T
open Go Evl

theorem nz_snoc {l : List Pl} {p : Pl} (hz : ∀ q ∈ l, Nz q) (hp : Nz p) : ∀ q ∈ l ++ [p], Nz q := fun q hq => by
  rcases List.mem_append.1 hq with hq | hq
  · exact hz q hq
  · rw [List.mem_singleton.1 hq]; exact hp
end Evl.T

/-! Eyh -/
namespace Evl.T
open Go Evl

/-- No weights on planes of a list cancel. -/
def Con (l : List Pl) : Prop := ∀ c, Cert c → ¬ ∀ x ∈ c, x.2 ∈ l
theorem Con.mono {l l' : List Pl} (h : Con l') (hs : ∀ q ∈ l, q ∈ l') : Con l := fun c hc hm => h c hc fun x hx => hs _ (hm x hx)
theorem addAt (p : Pl) (w : Int) (hw : 0 ≤ w) : ∀ z : List (Int × Pl), p ∈ z.map (·.2) → (∀ x ∈ z, 0 ≤ x.1) → ∃ z', z'.map (·.2) = z.map (·.2) ∧ (∀ x ∈ z', 0 ≤ x.1) ∧ ∀ f, sm f z' = sm f z + w * f p
  | [], h, _ => by simp at h
  | (u, q) :: z, h, hz => by
    by_cases hq : p = q
    · subst hq
      refine ⟨(u + w, p) :: z, rfl, fun x hx => ?_, fun f => ?_⟩
      · rcases List.mem_cons.1 hx with rfl | hx
        · have := hz (u, p) (by simp)
          show 0 ≤ u + w
          simp only at this; omega
        · exact hz x (by simp [hx])
      · simp only [sm_cons]; grind
    · obtain ⟨z', h1, h2, h3⟩ := addAt p w hw z (by
        simp only [List.map_cons, List.mem_cons] at h
        exact h.resolve_left hq) fun x hx => hz x (by simp [hx])
      refine ⟨(u, q) :: z', by simp [h1], fun x hx => ?_, fun f => ?_⟩
      · rcases List.mem_cons.1 hx with rfl | hx
        · exact hz _ (by simp)
        · exact h2 x hx
      · simp only [sm_cons, h3]; omega
theorem sm_nul (f : Pl → Int) (l : List Pl) : sm f (l.map fun x => ((0 : Int), x)) = 0 := by
  induction l with
  | nil => rfl
  | cons y l ih => simp only [List.map_cons, sm_cons, ih]; omega
theorem padM (l : List Pl) : ∀ c : List (Int × Pl), (∀ x ∈ c, 0 < x.1) → (∀ x ∈ c, x.2 ∈ l) → ∃ z, z.map (·.2) = l ∧ (∀ x ∈ z, 0 ≤ x.1) ∧ ∀ f, sm f z = sm f c
  | [], _, _ => ⟨l.map fun x => ((0 : Int), x), by simp [Function.comp_def], fun x hx => by
      obtain ⟨y, _, rfl⟩ := List.mem_map.1 hx; exact Int.le_refl _, fun f => sm_nul f l⟩
  | (w, p) :: c, hp, hm => by
    obtain ⟨z, h1, h2, h3⟩ := padM l c (fun x hx => hp x (by simp [hx])) fun x hx => hm x (by simp [hx])
    obtain ⟨z', g1, g2, g3⟩ := addAt p w (Int.le_of_lt (hp (w, p) (by simp))) z (by rw [h1]; exact hm (w, p) (by simp)) h2
    exact ⟨z', g1.trans h1, g2, fun f => by rw [g3, h3, sm_cons]; simp only; omega⟩
theorem Opn.con {l : List Pl} (ho : Opn l) (hz : ∀ q ∈ l, Nz q) : Con l := fun c hc hm => by
  obtain ⟨z, z1, z2, z3⟩ := padM l c hc.pos hm
  have e : ∀ f, sm f (pst z) = sm f c := fun f => by rw [sm_pst _ _ z2, z3]
  refine no_cert ho hz _ (pst z) (Nat.lt_succ_self _) ⟨fun x hx => pst_pos hx, by rw [e]; exact hc.a, by rw [e]; exact hc.b, by rw [e]; exact hc.cc, by rw [e]; exact hc.d, fun h => ?_⟩ ?_
  · have := e fun _ => 1
    rw [h, sm_nil] at this
    have := sm_pos hc.pos hc.ne
    omega
  · have := (pst_sub z).map (·.2)
    rw [z1] at this; exact this
theorem con_wth {l : List Pl} {p : Pl} (hz : ∀ q ∈ l, Nz q) (h : wth l p = true) : ¬ Con (p :: l) := fun hC => by
  obtain ⟨c, m, hm, hcn, hcp, hcs, ca, cb, cc, cd⟩ := half_of hz h
  refine hC ((m, p) :: c) ⟨fun x hx => ?_, ?_, ?_, ?_, ?_, by simp⟩ fun x hx => ?_
  · rcases List.mem_cons.1 hx with rfl | hx
    · exact hm
    · exact hcp x hx
  · rw [sm_cons]; simp only; omega
  · rw [sm_cons]; simp only; omega
  · rw [sm_cons]; simp only; omega
  · rw [sm_cons]; simp only; omega
  · rcases List.mem_cons.1 hx with rfl | hx
    · simp
    · exact List.mem_cons_of_mem _ (hcs.subset (List.mem_map.2 ⟨x, hx, rfl⟩))
theorem con_snoc {l : List Pl} {p : Pl} (ho : Opn l) (hz : ∀ q ∈ l, Nz q) (hp : Nz p) (h : wth l p = false) : Con (p :: l) :=
  ((Opn.snoc ho h).con (nz_snoc hz hp)).mono fun q hq => by
    rcases List.mem_cons.1 hq with rfl | hq
    · simp
    · simp [hq]
theorem wth_con {l : List Pl} {p : Pl} (ho : Opn l) (hz : ∀ q ∈ l, Nz q) (hp : Nz p) : wth l p = true ↔ ¬ Con (p :: l) :=
  ⟨con_wth hz, fun h => by
    cases hw : wth l p with
    | true => rfl
    | false => exact absurd (con_snoc ho hz hp hw) h⟩
end Evl.T

/-! Eeg -/
namespace Evl.T
open Go Evl

/-! the greater of a plane and its contrary -/
theorem cmpDQ (a b : Int) : Dcmp_Compare a b = some (cmpI a b) := by
  unfold Dcmp_Compare Dcmp_isNaN cmpI frk
  simp only [Option.bind_some, bne_self_eq_false]
  by_cases h1 : a < b
  · simp [h1]
  · by_cases h2 : a > b <;> simp [h1, h2]
theorem orD4' (m : Nat) (a b c d : Int) : Dcmp_Or (m + 9) [a, b, c, d] = some (or4 a b c d) := by
  unfold Dcmp_Or or4
  by_cases ha : a = 0
  · by_cases hb : b = 0
    · by_cases hc : c = 0
      · by_cases hd : d = 0
        · subst ha hb hc hd; simp [loopN, Dcmp_Or_0, frk, lget, w64, IntKind.wrap, IntKind.bits, IntKind.signed]
        · subst ha hb hc; simp [loopN, Dcmp_Or_0, frk, lget, w64, IntKind.wrap, IntKind.bits, IntKind.signed, hd]
      · subst ha hb; simp [loopN, Dcmp_Or_0, frk, lget, w64, IntKind.wrap, IntKind.bits, IntKind.signed, hc]
    · subst ha; simp [loopN, Dcmp_Or_0, frk, lget, w64, IntKind.wrap, IntKind.bits, IntKind.signed, hb]
  · simp [loopN, Dcmp_Or_0, frk, lget, ha]
def gtr (p : Pl) : Pl := if cmpP (flp p) p > 0 then flp p else p
theorem iGreaterN {p : Pl} (h : PB p) (n : Nat) (hn : 9 ≤ n) : Dimpl_greater n p = some (gtr p) := by
  obtain ⟨m, rfl⟩ : ∃ m, n = m + 9 := ⟨n - 9, by omega⟩
  unfold Dimpl_greater Dimpl_CmpPlane gtr
  rw [iFlip p h, Option.bind_some]
  simp only [cmpDQ, Option.bind_some, orD4']
  unfold cmpP
  by_cases hc : or4 (cmpI (flp p).A p.A) (cmpI (flp p).B p.B) (cmpI (flp p).C p.C) (cmpI (flp p).D p.D) > 0
  · rw [decide_eq_true hc, frk_t, if_pos hc]
  · rw [decide_eq_false hc, frk_f, if_neg hc]
theorem iGreater {p : Pl} (h : PB p) : Ev fun n => Dimpl_greater n p = some (gtr p) := (e_ge 9).mono fun n hn => iGreaterN h n hn
end Evl.T

/-! Eec -/
namespace Evl.T
open Go Evl

theorem any_gtQ (l : List Pl) (f : Pl → Bool) : ((List.range' 0 l.length).any fun i => f (gt l i)) = l.any f := by
  rw [Bool.eq_iff_iff, List.any_eq_true, List.any_eq_true]
  constructor
  · rintro ⟨i, hi, h⟩
    have : i < l.length := by simpa using hi
    exact ⟨_, gt_mem this, h⟩
  · rintro ⟨x, hx, h⟩
    obtain ⟨i, hi, e⟩ := List.getElem_of_mem hx
    refine ⟨i, by simpa using hi, ?_⟩
    have := gt_some hi
    rw [List.getElem?_eq_getElem hi] at this
    rw [← Option.some.inj this, e]; exact h
def opBQ (l : List Pl) : Bool := !(List.range' 0 l.length).any fun i => wth (l.take i) (gt l i)
theorem sOpenQ (l : List Pl) (hl : ∀ q ∈ l, PB q) (hb : l.length ≤ big) : Ev fun n => Dspec_l6Open n l = some (opBQ l) := by
  refine (e_ge (l.length + 502)).mono fun n hn => ?_
  have e : opBQ l = !(List.range' 1 (l.length - 1)).any fun i => wth (l.take i) (gt l i) := by
    unfold opBQ
    cases l with
    | nil => rfl
    | cons x l => simp only [List.length_cons, List.range'_succ, List.any_cons, Nat.add_sub_cancel]; rfl
  have hF : ∀ rec (i : Nat), i < l.length → Dspec_l6Open_0 n l rec (i : Int) = cond (wth (l.take i) (gt l i)) (some false) (rec (w64 ((i : Int) + 1))) := by
    intro rec i hi
    unfold Dspec_l6Open_0
    simp only [lt_dec hi, frk_t, lget_nat, gt_some hi, Option.bind_some, lsl_take l i (by omega)]
    rw [sWith (l.take i) (gt l i) (fun q hq => hl q (List.mem_of_mem_take hq)) (hl _ (gt_mem hi)) (by rw [List.length_take]; omega) n (by rw [List.length_take]; omega), Option.bind_some, frk_cond]
  have hE : ∀ rec, Dspec_l6Open_0 n l rec (l.length : Int) = some true := by
    intro rec
    unfold Dspec_l6Open_0
    simp only [lt_self, frk_f]
  show loopN _ _ _ = _
  cases hc : l with
  | nil =>
    obtain ⟨m, rfl⟩ : ∃ m, n = m + 1 := ⟨n - 1, by omega⟩
    rw [loop_suc]; rfl
  | cons x r =>
    rw [← hc]
    have hlen : l.length = r.length + 1 := by rw [hc]; rfl
    have h := search (F := Dspec_l6Open_0 n l) (len := l.length) (b := fun i => wth (l.take i) (gt l i)) (hit := some false) (miss := some true) hb hF hE (l.length - 1) 1 n (by omega) (by omega)
    rw [show (1 : Int) = ((1 : Nat) : Int) from rfl, h, e]
    cases (List.range' 1 (l.length - 1)).any fun i => wth (l.take i) (gt l i) <;> rfl
theorem opn_ofQ {l : List Pl} (h : opBQ l = true) : Opn l := by
  have key : ∀ k, k ≤ l.length → Opn (l.take k) := by
    intro k
    induction k with
    | zero => intro _; exact .nil
    | succ k ih =>
      intro hk
      have e : l.take (k + 1) = l.take k ++ [gt l k] := by rw [List.take_add_one, gt_some (by omega)]; rfl
      rw [e]
      refine .snoc (ih (by omega)) ?_
      unfold opBQ at h
      simp only [Bool.not_eq_true', List.any_eq_false] at h
      simpa using h k (by simp; omega)
  have := key l.length (Nat.le_refl _)
  rwa [List.take_length] at this
theorem Opn.pre {l : List Pl} (h : Opn l) : ∀ k, Opn (l.take k) := by
  induction h with
  | nil => intro k; simpa using Opn.nil
  | @snoc l p h hw ih =>
    intro k
    by_cases hk : k ≤ l.length
    · rw [List.take_append_of_le_length hk]; exact ih k
    · rw [List.take_of_length_le (by rw [List.length_append, List.length_singleton]; omega)]; exact .snoc h hw
theorem Opn.last1 {l : List Pl} {p : Pl} (h : Opn (l ++ [p])) : Opn l ∧ wth l p = false := by
  generalize e : l ++ [p] = m at h
  cases h with
  | nil => simp at e
  | @snoc l' p' h hw =>
    obtain ⟨rfl, e2⟩ := List.append_inj' e rfl
    simp only [List.cons.injEq, and_true] at e2
    subst e2
    exact ⟨h, hw⟩
theorem opB_ofQ {l : List Pl} (h : Opn l) : opBQ l = true := by
  unfold opBQ
  simp only [Bool.not_eq_true', List.any_eq_false]
  intro i hi
  have hi : i < l.length := by simpa using hi
  have := h.pre (i + 1)
  rw [List.take_add_one, gt_some hi] at this
  have := this.last1.2
  simpa using this
theorem opB_iffQ {l : List Pl} : opBQ l = true ↔ Opn l := ⟨opn_ofQ, opB_ofQ⟩
/-! the greater one -/
theorem flp_flpQ (p : Pl) : flp (flp p) = p := by cases p; unfold flp; simp only [Pl.mk.injEq]; omega
theorem Nz_flpQ {p : Pl} (h : Nz p) : Nz (flp p) := by unfold Nz flp at *; simp only; omega
theorem cmpI_gt (a b : Int) : cmpI a b > 0 ↔ a > b := by unfold cmpI; split; omega; split <;> omega
theorem or4_gt (a b c d : Int) : or4 a b c d > 0 ↔ a > 0 ∨ (a = 0 ∧ (b > 0 ∨ (b = 0 ∧ (c > 0 ∨ (c = 0 ∧ d > 0))))) := by unfold or4; split; omega; split; omega; split <;> omega
def ngp (p : Pl) : Prop := p.A < 0 ∨ (p.A = 0 ∧ (p.B < 0 ∨ (p.B = 0 ∧ (p.C < 0 ∨ (p.C = 0 ∧ p.D < 0)))))
theorem gtr_ng (p : Pl) : cmpP (flp p) p > 0 ↔ ngp p := by
  unfold cmpP
  rw [or4_gt, cmpI_gt, cmpI_gt, cmpI_gt, cmpI_gt, cmpI_eq, cmpI_eq, cmpI_eq]
  unfold ngp flp; simp only; omega
theorem gtr_pos {p : Pl} (h : ¬ ngp p) : gtr p = p := by unfold gtr; rw [if_neg (fun h' => h ((gtr_ng p).1 h'))]
theorem gtr_neg {p : Pl} (h : ngp p) : gtr p = flp p := by unfold gtr; rw [if_pos ((gtr_ng p).2 h)]
theorem ngp_flp {p : Pl} (h : Nz p) : ngp (flp p) ↔ ¬ ngp p := by unfold ngp flp Nz at *; simp only; omega
theorem gtr_flp {p : Pl} (h : Nz p) : gtr (flp p) = gtr p := by
  by_cases hn : ngp p
  · rw [gtr_neg hn, gtr_pos (fun h' => (ngp_flp h).1 h' hn)]
  · rw [gtr_pos hn, gtr_neg ((ngp_flp h).2 hn), flp_flpQ]
theorem gtr_or (p : Pl) : gtr p = p ∨ gtr p = flp p := by unfold gtr; split <;> simp
theorem gtr_gtr {p : Pl} (h : Nz p) : gtr (gtr p) = gtr p := by
  rcases gtr_or p with e | e
  · rw [e, e]
  · rw [e, gtr_flp h, e]
theorem gtr_eq {q P : Pl} (hq : Nz q) (hP : gtr P = P) : gtr q = P ↔ q = P ∨ q = flp P := by
  constructor
  · intro h
    rcases gtr_or q with e | e
    · exact .inl (e.symm.trans h)
    · right; rw [← h, e, flp_flpQ]
  · rintro (rfl | e)
    · exact hP
    · have hz : Nz P := by have := Nz_flpQ hq; rw [e, flp_flpQ] at this; exact this
      rw [e, gtr_flp hz, hP]
/-! what both sides ask -/
def fE (L : List Pl) (P : Pl) : Bool := opBQ L && (!wth L P && !wth L (flp P))
def LL (a b : List Pl) (P : Pl) : List Pl := (a ++ b).filter fun q => decide (gtr q ≠ P)
def meetB (a b : List Pl) (P : Pl) : Bool := ((decide (P ∈ a) && decide (flp P ∈ b)) || (decide (P ∈ b) && decide (flp P ∈ a))) && fE (LL a b P) P
def touchB (a b : List Pl) : Bool := a.any fun q => decide (flp q ∈ b) && fE (LL a b (gtr q)) (gtr q)
theorem touch_eq {a b Pm : List Pl} (ha : ∀ q ∈ a, Nz q) (hP : ∀ m ∈ Pm, Nz m ∧ gtr m = m) (hin : ∀ q ∈ a, gtr q ∈ Pm) : touchB a b = Pm.any (meetB a b) := by
  rw [Bool.eq_iff_iff]
  unfold touchB meetB
  simp only [List.any_eq_true, Bool.and_eq_true, Bool.or_eq_true, decide_eq_true_eq]
  constructor
  · rintro ⟨q, hq, h1, h2⟩
    refine ⟨gtr q, hin q hq, ?_, h2⟩
    rcases gtr_or q with e | e
    · rw [e]; exact .inl ⟨hq, h1⟩
    · rw [e]; exact .inr ⟨h1, by rw [flp_flpQ]; exact hq⟩
  · rintro ⟨m, hm, h1 | h1, h2⟩
    · exact ⟨m, h1.1, h1.2, by rw [(hP m hm).2]; exact h2⟩
    · refine ⟨flp m, h1.2, by rw [flp_flpQ]; exact h1.1, ?_⟩
      rw [gtr_flp (hP m hm).1, (hP m hm).2]; exact h2
/-! searching a list -/
theorem pl_eqQ (a p : Pl) : (a.A == p.A && (a.B == p.B && (a.C == p.C && (a.D == p.D && true)))) = decide (a = p) := by
  cases a; cases p
  rw [Bool.eq_iff_iff, decide_eq_true_iff]
  simp
theorem amStep (n : Nat) (l : List Pl) (p : Pl) (rec0 : Int → Option Bool) (k : Int) : Dspec_l13Among_0 n l p.A p.B p.C p.D rec0 k = frk (decide (k < (l.length : Int))) ((lget l k).bind fun v0 => frk (v0.A == p.A && (v0.B == p.B && (v0.C == p.C && (v0.D == p.D && true)))) (some true) (rec0 (w64 (k + 1)))) (some false) := rfl
theorem sAmong {l : List Pl} (hb : l.length ≤ 1000) (p : Pl) (n : Nat) (hn : 2000 ≤ n) : Dspec_l13Among n l p = some (decide (p ∈ l)) := by
  have h := search (F := Dspec_l13Among_0 n l p.A p.B p.C p.D) (len := l.length) (b := fun k => decide (gt l k = p)) (hit := some true) (miss := some false) (by unfold big; omega) (fun rec k hk => by
    rw [amStep, lt_dec hk, frk_t, lget_nat, gt_some hk, Option.bind_some, pl_eqQ, frk_cond]) (fun rec => by rw [amStep, lt_self, frk_f]) l.length 0 n (by omega) (by omega)
  refine h.trans ?_
  rw [any_gtQ l fun q => decide (q = p)]
  have e : (l.any fun q => decide (q = p)) = decide (p ∈ l) := by
    rw [Bool.eq_iff_iff, List.any_eq_true, decide_eq_true_iff]
    exact ⟨fun ⟨x, hx, e⟩ => by rw [decide_eq_true_iff] at e; exact e ▸ hx, fun h => ⟨p, h, by simp⟩⟩
  rw [e]
  cases decide (p ∈ l) <;> rfl
theorem ixStepQ (n : Nat) (l : List Pl) (p : Pl) (rec0 : Int → Option Int) (k : Int) : Dslices_Index_0 n l (l.length : Int) p.A p.B p.C p.D rec0 k = frk (decide (k < (l.length : Int))) ((lget l k).bind fun v0 => frk (p.A == v0.A && (p.B == v0.B && (p.C == v0.C && (p.D == v0.D && true)))) (some k) (rec0 (w64 (k + 1)))) (some (-1)) := rfl
theorem iHasQ {l : List Pl} (hb : l.length ≤ 1000) (p : Pl) (n : Nat) (hn : 2000 ≤ n) : Dslices_Contains n l p = some (decide (p ∈ l)) := by
  have key : ∀ d k m : Nat, k + d = l.length → d < m → ∃ v, loopN (Dslices_Index_0 n l (l.length : Int) p.A p.B p.C p.D) m (k : Int) = some v ∧ (v ≥ 0 ↔ p ∈ l.drop k) := by
    intro d
    induction d with
    | zero =>
      intro k m hk hm
      obtain ⟨m, rfl⟩ : ∃ j, m = j + 1 := ⟨m - 1, by omega⟩
      refine ⟨-1, by rw [loop_suc, ixStepQ, decide_eq_false (by omega), frk_f], ?_⟩
      rw [List.drop_eq_nil_of_le (by omega)]; simp
    | succ d ih =>
      intro k m hk hm
      obtain ⟨m, rfl⟩ : ∃ j, m = j + 1 := ⟨m - 1, by omega⟩
      have hkl : k < l.length := by omega
      rw [List.drop_eq_getElem_cons hkl]
      by_cases he : p = l[k]
      · refine ⟨(k : Int), ?_, ⟨fun _ => by rw [he]; exact List.mem_cons_self, fun _ => by omega⟩⟩
        rw [loop_suc, ixStepQ, decide_eq_true (by omega), frk_t, lget_nat, List.getElem?_eq_getElem hkl, Option.bind_some, pl_eqQ, decide_eq_true he, frk_t]
      · obtain ⟨v, g1, g2⟩ := ih (k + 1) m (by omega) (by omega)
        refine ⟨v, ?_, by rw [g2, List.mem_cons]; exact ⟨.inr, fun h => h.resolve_left he⟩⟩
        rw [loop_suc, ixStepQ, decide_eq_true (by omega), frk_t, lget_nat, List.getElem?_eq_getElem hkl, Option.bind_some, pl_eqQ, decide_eq_false he, frk_f, w64_suc (by unfold big; omega)]
        exact g1
  obtain ⟨v, h1, h2⟩ := key l.length 0 n (by omega) (by omega)
  rw [List.drop_zero] at h2
  unfold Dslices_Contains Dslices_Index
  rw [show (0 : Int) = ((0 : Nat) : Int) from rfl, h1, Option.bind_some]
  congr 1
  exact decide_eq_decide.2 h2
/-! the reference's -/
theorem aQ32 {n : Nat} (h : n ≤ 1000000) : apB 32 n = true := by
  unfold apB; simp only [Bool.and_eq_true, decide_eq_true_eq]; omega
theorem rsStep (n : Nat) (l : List Pl) (p : Pl) (rec0 : (Int × List Pl) → Option (List Pl)) (k : Int) (a : List Pl) :
    Dspec_l13Rest_1 n l p.A p.B p.C p.D rec0 (k, a) = frk (decide (k < (l.length : Int))) ((lget l k).bind fun v0 => frk (!(v0.A == p.A && (v0.B == p.B && (v0.C == p.C && (v0.D == p.D && true))))) ((lget l k).bind fun v1 => (Dspec_l3Flip p).bind fun v2 => frk (!(v1.A == v2.A && (v1.B == v2.B && (v1.C == v2.C && (v1.D == v2.D && true))))) ((lget l k).bind fun v3 => chk (apB 32 (a.length + 1)) (rec0 (w64 (k + 1), (a ++ [v3])))) (rec0 (w64 (k + 1), a))) (rec0 (w64 (k + 1), a))) (some a) := rfl
theorem sRest {l : List Pl} (hb : l.length ≤ 1000) {P : Pl} (hP : PB P) (hg : gtr P = P) (hz : ∀ q ∈ l, Nz q) (n : Nat) (hn : 2000 ≤ n) : Dspec_l13Rest n l P = some (l.filter fun q => decide (gtr q ≠ P)) := by
  have key : ∀ (d k m : Nat) (a : List Pl), k + d = l.length → d < m → a.length ≤ k → loopN (Dspec_l13Rest_1 n l P.A P.B P.C P.D) m ((k : Int), a) = some (a ++ (l.drop k).filter fun q => decide (gtr q ≠ P)) := by
    intro d
    induction d with
    | zero =>
      intro k m a hk hm _
      obtain ⟨m, rfl⟩ : ∃ j, m = j + 1 := ⟨m - 1, by omega⟩
      rw [loop_suc, rsStep, decide_eq_false (by omega), frk_f, List.drop_eq_nil_of_le (by omega)]; simp
    | succ d ih =>
      intro k m a hk hm ha
      obtain ⟨m, rfl⟩ : ∃ j, m = j + 1 := ⟨m - 1, by omega⟩
      have hkl : k < l.length := by omega
      have hge := gtr_eq (hz _ (List.getElem_mem hkl)) hg
      rw [List.drop_eq_getElem_cons hkl, List.filter_cons, loop_suc, rsStep, decide_eq_true (by omega), frk_t, lget_nat, List.getElem?_eq_getElem hkl, Option.bind_some, pl_eqQ, Option.bind_some, sFlip P hP, Option.bind_some, pl_eqQ, Option.bind_some, w64_suc (by unfold big; omega)]
      by_cases h1 : l[k] = P
      · rw [decide_eq_true h1, Bool.not_true, frk_f, decide_eq_false (fun h => h (hge.2 (.inl h1))), if_neg (by simp)]
        exact ih (k + 1) m a (by omega) (by omega) (by omega)
      · rw [decide_eq_false h1, Bool.not_false, frk_t]
        by_cases h2 : l[k] = flp P
        · rw [decide_eq_true h2, Bool.not_true, frk_f, decide_eq_false (fun h => h (hge.2 (.inr h2))), if_neg (by simp)]
          exact ih (k + 1) m a (by omega) (by omega) (by omega)
        · rw [decide_eq_false h2, Bool.not_false, frk_t, chk_eq (aQ32 (by omega)), decide_eq_true (show gtr l[k] ≠ P from fun h => (hge.1 h).elim h1 h2), if_pos rfl, ih (k + 1) m _ (by omega) (by omega) (by simp; omega)]
          simp
  have := key l.length 0 n [] (by omega) (by omega) (by simp)
  rw [List.drop_zero, List.nil_append] at this
  exact this
theorem LL_B {a b : List Pl} (ha : ∀ p ∈ a, PB p) (hb : ∀ p ∈ b, PB p) (P : Pl) : ∀ q ∈ LL a b P, PB q := fun q hq => by
  unfold LL at hq
  rcases List.mem_append.1 (List.mem_filter.1 hq).1 with h | h
  · exact ha q h
  · exact hb q h
theorem LL_len (a b : List Pl) (P : Pl) : (LL a b P).length ≤ a.length + b.length := by
  unfold LL
  have := List.length_filter_le (fun q => decide (gtr q ≠ P)) (a ++ b)
  rwa [List.length_append] at this
theorem sMeet13 {a b : List Pl} (ha : ∀ p ∈ a, PB p ∧ Nz p) (hb : ∀ p ∈ b, PB p ∧ Nz p) (la : a.length ≤ 24) (lb : b.length ≤ 24) {P : Pl} (hP : PB P) (hg : gtr P = P) : Ev fun n => Dspec_l13Meet n a b P = some (meetB a b P) := by
  have hB := LL_B (fun p h => (ha p h).1) (fun p h => (hb p h).1) P
  have hL := LL_len a b P
  refine ((sOpenQ (LL a b P) hB (by unfold big; omega)).and (e_ge 2000)).mono fun n ⟨hO, hn⟩ => ?_
  have r1 := sRest (l := a) (by omega) hP hg (fun q h => (ha q h).2) n hn
  have r2 := sRest (l := b) (by omega) hP hg (fun q h => (hb q h).2) n hn
  have eL : (a.filter fun q => decide (gtr q ≠ P)) ++ (b.filter fun q => decide (gtr q ≠ P)) = LL a b P := by unfold LL; rw [List.filter_append]
  have hlen : (a.filter fun q => decide (gtr q ≠ P)).length + (b.filter fun q => decide (gtr q ≠ P)).length ≤ 48 := by rw [← List.length_append, eL]; omega
  have w1 := sWith (LL a b P) P hB hP (by unfold big; omega) n (by omega)
  have w2 := sWith (LL a b P) (flp P) hB (flp_PB hP) (by unfold big; omega) n (by omega)
  have fin0 : Dspec_l13Meet_0 n a b P.A P.B P.C P.D = some (fE (LL a b P) P) := by
    unfold Dspec_l13Meet_0
    show ((Dspec_l13Rest n a P).bind fun v3 => (Dspec_l13Rest n b P).bind fun v4 => chk (apB 32 (v3.length + v4.length)) ((Dspec_l6Open n (v3 ++ v4)).bind fun v6 => frk v6 ((Dspec_l6With n (v3 ++ v4) P).bind fun v7 => frk (!v7) ((Dspec_l3Flip P).bind fun v8 => (Dspec_l6With n (v3 ++ v4) v8).bind fun v9 => some (!v9)) (some false)) (some false))) = _
    rw [r1, Option.bind_some, r2, Option.bind_some, chk_eq (aQ32 (by omega)), eL, hO, Option.bind_some, w1, Option.bind_some, sFlip P hP, Option.bind_some, w2, Option.bind_some]
    unfold fE
    cases opBQ (LL a b P) <;> cases wth (LL a b P) P <;> cases wth (LL a b P) (flp P) <;> rfl
  have fin1 : ∀ t, Dspec_l13Meet_1 n a b t P.A P.B P.C P.D = some (!t && fE (LL a b P) P) := fun t => by
    cases t with
    | true => rfl
    | false => exact fin0
  unfold Dspec_l13Meet meetB
  rw [sAmong (by omega) P n hn, sFlip P hP, Option.bind_some, Option.bind_some, Option.bind_some, sAmong (by omega) (flp P) n hn, sAmong (l := b) (by omega) P n hn, sAmong (l := a) (by omega) (flp P) n hn, Option.bind_some, Option.bind_some, Option.bind_some, fin0, fin1]
  cases decide (P ∈ a) <;> cases decide (flp P ∈ b) <;> cases decide (P ∈ b) <;> cases decide (flp P ∈ a) <;> cases fE (LL a b P) P <;> rfl
end Evl.T

/-! Eed -/
namespace Evl.T
open Go Evl

theorem wth_set {l l' : List Pl} (ho : Opn l) (ho' : Opn l') (hz : ∀ q ∈ l, Nz q) (hz' : ∀ q ∈ l', Nz q) {p : Pl} (hp : Nz p) (h : ∀ q, q ∈ l ↔ q ∈ l') : wth l p = wth l' p := by
  rw [Bool.eq_iff_iff, wth_con ho hz hp, wth_con ho' hz' hp]
  have a : ∀ q, q ∈ p :: l ↔ q ∈ p :: l' := fun q => by rw [List.mem_cons, List.mem_cons, h]
  exact ⟨fun h1 h2 => h1 (h2.mono fun q hq => (a q).1 hq), fun h1 h2 => h1 (h2.mono fun q hq => (a q).2 hq)⟩
theorem wth_in {l : List Pl} (ho : Opn l) (hz : ∀ q ∈ l, Nz q) {p : Pl} (hp : p ∈ l) : wth l p = false := by
  rw [Bool.eq_false_iff]
  intro h
  refine (wth_con ho hz (hz p hp)).1 h ((ho.con hz).mono fun q hq => ?_)
  rcases List.mem_cons.1 hq with rfl | hq
  · exact hp
  · exact hq
theorem cn1 (n : Nat) (L : List (List Pl)) (t26 : Int) (rec1 : (Int × List Pl) → Option (List Pl)) (k : Int) (a : List Pl) : Dslices_Concat_1 n L t26 rec1 (k, a) = frk (decide (k < t26)) ((lget L k).bind fun v2 => chk (apB 32 (a.length + v2.length)) (rec1 (w64 (k + 1), (a ++ v2)))) (some a) := rfl
theorem cn2 (n : Nat) (L t9 : List (List Pl)) (t10 : Int) (rec0 : (Int × Int) → Option (List Pl)) (s k : Int) : Dslices_Concat_2 n L t9 t10 rec0 (s, k) = frk (decide (k < t10)) ((lget t9 k).bind fun v0 => frk (decide ((w64 (s + (v0.length : Int))) < 0)) (none) (rec0 (w64 (s + (v0.length : Int)), w64 (k + 1)))) (Dslices_Concat_0 n L s) := rfl
theorem iConcat {a b : List Pl} (ha : a.length ≤ 24) (hb : b.length ≤ 24) (n : Nat) (hn : 3 ≤ n) : Dslices_Concat n [a, b] = some (a ++ b) := by
  obtain ⟨m, rfl⟩ : ∃ m, n = m + 1 + 1 + 1 := ⟨n - 3, by omega⟩
  have L1 : loopN (Dslices_Concat_1 (m + 1 + 1 + 1) [a, b] (([a, b] : List (List Pl)).length : Int)) (m + 1 + 1 + 1) (0, ([] : List Pl)) = some (a ++ b) := by
    rw [loop_suc, cn1, show decide ((0 : Int) < (([a, b] : List (List Pl)).length : Int)) = true from rfl, frk_t, show lget [a, b] 0 = some a from rfl, Option.bind_some, chk_eq (aQ32 (by simp; omega)), List.nil_append, show w64 (0 + 1) = 1 from rfl, loop_suc, cn1, show decide ((1 : Int) < (([a, b] : List (List Pl)).length : Int)) = true from rfl, frk_t, show lget [a, b] 1 = some b from rfl, Option.bind_some, chk_eq (aQ32 (by omega)), show w64 (1 + 1) = 2 from rfl, loop_suc, cn1, show decide ((2 : Int) < (([a, b] : List (List Pl)).length : Int)) = false from rfl, frk_f]
  have w1 : w64 (0 + (a.length : Int)) = (a.length : Int) := by rw [w64_id (by omega) (by omega)]; omega
  have w2 : w64 ((a.length : Int) + (b.length : Int)) = (a.length : Int) + b.length := w64_id (by omega) (by omega)
  have hg : grB ((a.length : Int) + b.length) = true := by unfold grB; simp only [Bool.and_eq_true, decide_eq_true_eq]; omega
  unfold Dslices_Concat
  rw [loop_suc, cn2, show decide ((0 : Int) < (([a, b] : List (List Pl)).length : Int)) = true from rfl, frk_t, show lget [a, b] 0 = some a from rfl, Option.bind_some, w1, decide_eq_false (by omega), frk_f, show w64 (0 + 1) = 1 from rfl, loop_suc, cn2, show decide ((1 : Int) < (([a, b] : List (List Pl)).length : Int)) = true from rfl, frk_t, show lget [a, b] 1 = some b from rfl, Option.bind_some, w2, decide_eq_false (by omega), frk_f, show w64 (1 + 1) = 2 from rfl, loop_suc, cn2, show decide ((2 : Int) < (([a, b] : List (List Pl)).length : Int)) = false from rfl, frk_f]
  unfold Dslices_Concat_0
  rw [chk_eq hg]
  exact L1
def FL (L : List Pl) (P : Pl) (k : Nat) : List Pl := (L.take k).filter fun q => decide (gtr q ≠ P)
theorem FL_suc {L : List Pl} {P : Pl} {k : Nat} (hk : k < L.length) : FL L P (k + 1) = FL L P k ++ (if gtr L[k] = P then [] else [L[k]]) := by
  unfold FL
  rw [List.take_add_one, List.getElem?_eq_getElem hk, List.filter_append]
  congr 1
  show [L[k]].filter _ = _
  rw [List.filter_cons]
  by_cases h : gtr L[k] = P
  · rw [if_neg (by simpa using h), if_pos h]; rfl
  · rw [if_pos (by simpa using h), if_neg h]; rfl
theorem FL_pre (L : List Pl) (P : Pl) (k : Nat) : FL L P k = (FL L P L.length).take (FL L P k).length := by
  have : FL L P L.length = FL L P k ++ (L.drop k).filter fun q => decide (gtr q ≠ P) := by
    unfold FL; rw [← List.filter_append, List.take_length, List.take_append_drop]
  rw [this, List.take_left]
theorem acStep (n : Nat) (len : Int) (P : Pl) (rec0 : (Int × List Pl × List Pl) → Option Bool) (k : Int) (L both : List Pl) :
    Dimpl_across_2 n len P.A P.B P.C P.D rec0 (k, L, both) = frk (decide (k < len)) ((lget L k).bind fun v1 => (Dimpl_greater n v1).bind fun v2 => frk (v2.A == P.A && (v2.B == P.B && (v2.C == P.C && (v2.D == P.D && true)))) (rec0 (w64 (k + 1), L, both)) ((Dslices_Contains n both v1).bind fun v3 => frk v3 (rec0 (w64 (k + 1), L, both)) ((Dimpl_room n both v1).bind fun v4 => frk (!v4) (some false) (chk (apB 32 (both.length + 1)) (rec0 (w64 (k + 1), L, (both ++ [v1]))))))) ((Dimpl_room n both P).bind fun v6 => frk v6 ((Dimpl_flip P).bind fun v7 => (Dimpl_room n both v7).bind fun v8 => some v8) (some false)) := rfl
theorem acLoop {L : List Pl} (hL : ∀ q ∈ L, PB q ∧ Nz q) (hb : L.length ≤ 48) {P : Pl} (hP : PB P) (hzP : Nz P) (n : Nat) (hn : 2000 ≤ n) : ∀ (d k m : Nat) (both : List Pl), k + d = L.length → d < m → (∀ q, q ∈ both ↔ q ∈ FL L P k) → Opn both → Opn (FL L P k) → both.length ≤ k →
    loopN (Dimpl_across_2 n (L.length : Int) P.A P.B P.C P.D) m ((k : Int), L, both) = some (fE (FL L P L.length) P) := by
  have hF : ∀ k, ∀ q ∈ FL L P k, q ∈ L := fun k q hq => List.mem_of_mem_take (List.mem_filter.1 hq).1
  intro d
  induction d with
  | zero =>
    intro k m both hk hm hs ho hf hbl
    obtain ⟨m, rfl⟩ : ∃ j, m = j + 1 := ⟨m - 1, by omega⟩
    obtain rfl : k = L.length := by omega
    have hB : ∀ q ∈ both, PB q ∧ Nz q := fun q hq => hL q (hF _ q ((hs q).1 hq))
    rw [loop_suc, acStep, decide_eq_false (by omega), frk_f, iRoom both P (fun q hq => (hB q hq).1) hP (by unfold big; omega) n (by omega), Option.bind_some, iFlip P hP, Option.bind_some, iRoom both (flp P) (fun q hq => (hB q hq).1) (flp_PB hP) (by unfold big; omega) n (by omega), Option.bind_some]
    rw [wth_set ho hf (fun q hq => (hB q hq).2) (fun q hq => (hL q (hF _ q hq)).2) hzP hs, wth_set ho hf (fun q hq => (hB q hq).2) (fun q hq => (hL q (hF _ q hq)).2) (Nz_flpQ hzP) hs]
    unfold fE
    rw [opB_ofQ hf]
    cases wth (FL L P L.length) P <;> cases wth (FL L P L.length) (flp P) <;> rfl
  | succ d ih =>
    intro k m both hk hm hs ho hf hbl
    obtain ⟨m, rfl⟩ : ∃ j, m = j + 1 := ⟨m - 1, by omega⟩
    have hkl : k < L.length := by omega
    have hq := hL _ (List.getElem_mem hkl)
    have hB : ∀ q ∈ both, PB q ∧ Nz q := fun q hq => hL q (hF _ q ((hs q).1 hq))
    have hS := FL_suc (P := P) hkl
    rw [loop_suc, acStep, decide_eq_true (by omega), frk_t, lget_nat, List.getElem?_eq_getElem hkl, Option.bind_some, iGreaterN hq.1 n (by omega), Option.bind_some, pl_eqQ, w64_suc (by unfold big; omega)]
    by_cases hg : gtr L[k] = P
    · rw [if_pos hg, List.append_nil] at hS
      rw [decide_eq_true hg, frk_t]
      exact ih (k + 1) m both (by omega) (by omega) (by rw [hS]; exact hs) ho (by rw [hS]; exact hf) (by omega)
    · rw [if_neg hg] at hS
      rw [decide_eq_false hg, frk_f, iHasQ (by omega) L[k] n hn, Option.bind_some]
      by_cases hin : L[k] ∈ both
      · rw [decide_eq_true hin, frk_t]
        have hin' := (hs _).1 hin
        refine ih (k + 1) m both (by omega) (by omega) (fun q => ?_) ho ?_ (by omega)
        · rw [hS, List.mem_append, List.mem_singleton, hs]
          exact ⟨.inl, fun h => h.elim id fun e => e ▸ hin'⟩
        · rw [hS]; exact .snoc hf (wth_in hf (fun q hq => (hL q (hF _ q hq)).2) hin')
      · rw [decide_eq_false hin, frk_f, iRoom both L[k] (fun q hq => (hB q hq).1) hq.1 (by unfold big; omega) n (by omega), Option.bind_some, Bool.not_not]
        have hw := wth_set ho hf (fun q hq => (hB q hq).2) (fun q hq => (hL q (hF _ q hq)).2) hq.2 hs
        cases hwt : wth both L[k] with
        | true =>
          rw [frk_t]
          congr 1
          unfold fE
          have : opBQ (FL L P L.length) = false := by
            rw [Bool.eq_false_iff]
            intro h
            have := (opn_ofQ h).pre (FL L P (k + 1)).length
            rw [← FL_pre, hS] at this
            have h2 := this.last1.2
            rw [← hw, hwt] at h2; cases h2
          rw [this]; rfl
        | false =>
          rw [frk_f, chk_eq (aQ32 (by omega))]
          refine ih (k + 1) m _ (by omega) (by omega) (fun q => ?_) (.snoc ho hwt) ?_ (by simp; omega)
          · rw [hS, List.mem_append, List.mem_append, hs]
          · rw [hS]; exact .snoc hf (by rw [← hw]; exact hwt)
theorem iAcross {a b : List Pl} (ha : ∀ p ∈ a, PB p ∧ Nz p) (hb : ∀ p ∈ b, PB p ∧ Nz p) (la : a.length ≤ 24) (lb : b.length ≤ 24) {P : Pl} (hP : PB P) (hzP : Nz P) (n : Nat) (hn : 2000 ≤ n) : Dimpl_across n a b P = some (fE (LL a b P) P) := by
  have h := acLoop (L := a ++ b) (fun q hq => (List.mem_append.1 hq).elim (ha q) (hb q)) (by rw [List.length_append]; omega) hP hzP n hn (a ++ b).length 0 n [] (by omega) (by rw [List.length_append]; omega) (fun q => by unfold FL; simp) .nil (by unfold FL; simpa using Opn.nil) (by simp)
  unfold Dimpl_across
  rw [iConcat la lb n (by omega), Option.bind_some, show (0 : Int) = ((0 : Nat) : Int) from rfl, h]
  unfold FL LL
  rw [List.take_length]
theorem tchStep (n : Nat) (a b t7 : List Pl) (len : Int) (rec0 : Int → Option Bool) (k : Int) :
    Dimpl_touch_1 n a b t7 len rec0 k = frk (decide (k < len)) ((lget t7 k).bind fun v0 => (Dimpl_flip v0).bind fun v1 => (Dslices_Contains n b v1).bind fun v2 => frk v2 ((Dimpl_greater n v0).bind fun v3 => (Dimpl_across n a b v3).bind fun v4 => frk v4 (some true) (rec0 (w64 (k + 1)))) (rec0 (w64 (k + 1)))) (some false) := rfl
theorem iTouch {a b : List Pl} (ha : ∀ p ∈ a, PB p ∧ Nz p) (hb : ∀ p ∈ b, PB p ∧ Nz p) (la : a.length ≤ 24) (lb : b.length ≤ 24) (n : Nat) (hn : 2000 ≤ n) : Dimpl_touch n a b = some (touchB a b) := by
  have h := search (F := Dimpl_touch_1 n a b a (a.length : Int)) (len := a.length) (b := fun k => decide (flp (gt a k) ∈ b) && fE (LL a b (gtr (gt a k))) (gtr (gt a k))) (hit := some true) (miss := some false) (by unfold big; omega) (fun rec k hk => by
    have hq := ha _ (gt_mem hk)
    have hgz : PB (gtr (gt a k)) ∧ Nz (gtr (gt a k)) := by
      rcases gtr_or (gt a k) with e | e <;> rw [e]
      · exact hq
      · exact ⟨flp_PB hq.1, Nz_flpQ hq.2⟩
    rw [tchStep, lt_dec hk, frk_t, lget_nat, gt_some hk, Option.bind_some, iFlip _ hq.1, Option.bind_some, iHasQ (by omega) _ n hn, Option.bind_some, iGreaterN hq.1 n (by omega), Option.bind_some, iAcross ha hb la lb hgz.1 hgz.2 n hn, Option.bind_some]
    cases decide (flp (gt a k) ∈ b) <;> cases fE (LL a b (gtr (gt a k))) (gtr (gt a k)) <;> rfl) (fun rec => by rw [tchStep, lt_self, frk_f]) a.length 0 n (by omega) (by omega)
  refine h.trans ?_
  unfold touchB
  rw [any_gtQ a fun q => decide (flp q ∈ b) && fE (LL a b (gtr q)) (gtr q)]
  cases a.any fun q => decide (flp q ∈ b) && fE (LL a b (gtr q)) (gtr q) <;> rfl
end Evl.T

/-! Eee -/
namespace Evl.T
open Go Evl

theorem sCmpP (n : Nat) (a b : Pl) : Dspec_CmpPlane n a b = some (cmpP a b) := by
  have ci : ∀ x y : Int, Dspec_l3CmpInt x y = some (cmpI x y) := fun x y => by
    unfold Dspec_l3CmpInt cmpI
    by_cases h1 : x < y
    · rw [decide_eq_true h1, frk_t, if_pos h1]
    · rw [decide_eq_false h1, frk_f, if_neg h1]
      by_cases h2 : x > y
      · rw [decide_eq_true h2, frk_t, if_pos h2]
      · rw [decide_eq_false h2, frk_f, if_neg h2]
  have ne : ∀ {x y : Int}, x ≠ y → cmpI x y ≠ 0 := fun h e => h ((cmpI_eq _ _).1 e)
  have eq : ∀ {x y : Int}, x = y → cmpI x y = 0 := fun h => (cmpI_eq _ _).2 h
  unfold Dspec_CmpPlane cmpP or4
  rw [ci, ci, ci, ci]
  by_cases h1 : a.A = b.A
  · rw [show (a.A != b.A) = false by simpa using h1, frk_f, if_neg (fun h => h (eq h1))]
    by_cases h2 : a.B = b.B
    · rw [show (a.B != b.B) = false by simpa using h2, frk_f, if_neg (fun h => h (eq h2))]
      by_cases h3 : a.C = b.C
      · rw [show (a.C != b.C) = false by simpa using h3, frk_f, if_neg (fun h => h (eq h3))]
        by_cases h4 : a.D = b.D
        · rw [show (a.D != b.D) = false by simpa using h4, frk_f, eq h4]
        · rw [show (a.D != b.D) = true by simpa using h4, frk_t]; rfl
      · rw [show (a.C != b.C) = true by simpa using h3, frk_t, if_pos (ne h3)]; rfl
    · rw [show (a.B != b.B) = true by simpa using h2, frk_t, if_pos (ne h2)]; rfl
  · rw [show (a.A != b.A) = true by simpa using h1, frk_t, if_pos (ne h1)]; rfl
theorem cmp_ng (p : Pl) : cmpP p (flp p) < 0 ↔ ngp p := by
  unfold cmpP
  rw [or4_lt, cmpI_lt, cmpI_lt, cmpI_lt, cmpI_lt, cmpI_eq, cmpI_eq, cmpI_eq]
  unfold ngp flp; simp only; omega
inductive Gn : Sol → Pl → Prop
  | here {i p a b} : Gn (.mk i p [a, b]) (gtr p)
  | left {i p a b x} : Gn a x → Gn (.mk i p [a, b]) x
  | right {i p a b x} : Gn b x → Gn (.mk i p [a, b]) x
def insP (l : List Pl) (p : Pl) : Nat → List Pl
  | 0 => (l.take 0 ++ [p]) ++ l.drop 0
  | k + 1 => if cmpP (gt l k) p > 0 then insP l p k else if gt l k = p then l else (l.take (k + 1) ++ [p]) ++ l.drop (k + 1)
theorem insP_mem {l : List Pl} {p : Pl} : ∀ k, k ≤ l.length → (∀ x, x ∈ insP l p k ↔ x ∈ l ∨ x = p) ∧ (insP l p k).length ≤ l.length + 1 := by
  have hat : ∀ k, k ≤ l.length → (∀ x, x ∈ (l.take k ++ [p]) ++ l.drop k ↔ x ∈ l ∨ x = p) ∧ ((l.take k ++ [p]) ++ l.drop k).length ≤ l.length + 1 := fun k hk => by
    refine ⟨fun x => ?_, by simp only [List.length_append, List.length_take, List.length_drop, List.length_singleton]; omega⟩
    rw [List.mem_append, List.mem_append, List.mem_singleton]
    have : x ∈ l ↔ x ∈ l.take k ∨ x ∈ l.drop k := by rw [← List.mem_append, List.take_append_drop]
    rw [this]
    exact ⟨fun h => by rcases h with (h | h) | h; exact .inl (.inl h); exact .inr h; exact .inl (.inr h), fun h => by rcases h with (h | h) | h; exact .inl (.inl h); exact .inr h; exact .inl (.inr h)⟩
  intro k
  induction k with
  | zero => intro hk; exact hat 0 hk
  | succ k ih =>
    intro hk
    unfold insP
    by_cases hc : cmpP (gt l k) p > 0
    · rw [if_pos hc]; exact ih (by omega)
    · rw [if_neg hc]
      by_cases he : gt l k = p
      · rw [if_pos he]
        exact ⟨fun x => ⟨.inl, fun h => h.elim id fun e => by rw [e, ← he]; exact gt_mem (by omega)⟩, Nat.le_succ _⟩
      · rw [if_neg he]; exact hat (k + 1) hk
def cont (self : (Sol × List Pl) → Option (List Pl)) (kids : List Sol) (l : List Pl) : Option (List Pl) :=
  (lget kids 1).bind fun v1 => (lget kids 0).bind fun v0 => (self (v0, l)).bind fun v3 => (self (v1, v3)).bind fun v4 => some v4
theorem lsl_dropQ (l : List Pl) (k : Nat) (h : k ≤ l.length) : lsl l (k : Int) (l.length : Int) = some (l.drop k) := by
  unfold lsl
  rw [if_pos ⟨by omega, by omega, by omega⟩]
  congr 1
  rw [Int.toNat_natCast, Int.toNat_natCast, List.take_of_length_le (by rw [List.length_drop]; omega)]
theorem pl7Step (n : Nat) (self : (Sol × List Pl) → Option (List Pl)) (s : Sol) (p : Pl) (rec0 : (Int × List Pl) → Option (List Pl)) (k : Int) (l : List Pl) :
    Dspec_l8Planeso1_7 n self s.inn s.pl.A s.pl.B s.pl.C s.pl.D s.kids p.A p.B p.C p.D rec0 (k, l) = frk (decide (k > 0)) ((lget l (w64 (k - 1))).bind fun v4 => (Dspec_CmpPlane n v4 p).bind fun v5 => frk (decide (v5 > 0)) (rec0 (w64 (k - 1), l)) (Dspec_l8Planeso1_2 n self k s.inn s.pl.A s.pl.B s.pl.C s.pl.D s.kids p.A p.B p.C p.D l)) (Dspec_l8Planeso1_2 n self k s.inn s.pl.A s.pl.B s.pl.C s.pl.D s.kids p.A p.B p.C p.D l) := rfl
theorem pl2 (n : Nat) (self : (Sol × List Pl) → Option (List Pl)) (s : Sol) (p : Pl) (k : Nat) (l : List Pl) (hk : k ≤ l.length) (hl : l.length ≤ 100000) :
    Dspec_l8Planeso1_2 n self (k : Int) s.inn s.pl.A s.pl.B s.pl.C s.pl.D s.kids p.A p.B p.C p.D l = cont self s.kids (if k ≠ 0 ∧ gt l (k - 1) = p then l else (l.take k ++ [p]) ++ l.drop k) := by
  have c1 : apB 32 (0 + (l.take k).length) = true := aQ32 (by rw [List.length_take]; omega)
  have c2 : apB 32 (([] ++ l.take k).length + 1) = true := aQ32 (by rw [List.nil_append, List.length_take]; omega)
  have c3 : apB 32 ((([] ++ l.take k) ++ [Pl.mk p.A p.B p.C p.D]).length + (l.drop k).length) = true := aQ32 (by simp only [List.nil_append, List.length_append, List.length_take, List.length_drop, List.length_singleton]; omega)
  unfold Dspec_l8Planeso1_2
  cases k with
  | zero =>
    rw [show (((0 : Nat) : Int) == 0) = true from rfl, frk_t, if_neg (fun h => h.1 rfl)]
    unfold Dspec_l8Planeso1_3
    rw [lsl_take l 0 (by omega), Option.bind_some, chk_eq c1, chk_eq c2, lsl_dropQ l 0 (by omega), Option.bind_some, chk_eq c3, List.nil_append]
    rfl
  | succ k =>
    have hw : w64 (((k + 1 : Nat) : Int) - 1) = (k : Int) := by rw [w64_id (by omega) (by omega)]; omega
    rw [show (((k + 1 : Nat) : Int) == 0) = false by rw [beq_eq_false_iff_ne]; omega, frk_f, hw, lget_nat, gt_some (by omega), Option.bind_some, pl_eqQ]
    unfold Dspec_l8Planeso1_4 Dspec_l8Planeso1_5 Dspec_l8Planeso1_6
    by_cases he : gt l k = p
    · rw [decide_eq_true he, Bool.not_true, frk_f, if_pos ⟨by omega, he⟩]; rfl
    · rw [decide_eq_false he, Bool.not_false, frk_t, if_neg (fun h => he h.2), lsl_take l (k + 1) hk, Option.bind_some, chk_eq c1, chk_eq c2, lsl_dropQ l (k + 1) hk, Option.bind_some, chk_eq c3, List.nil_append]; rfl
theorem pl7 (n : Nat) (self : (Sol × List Pl) → Option (List Pl)) (s : Sol) (p : Pl) (l : List Pl) (hl : l.length ≤ 100000) : ∀ (k m : Nat), k ≤ l.length → k < m →
    loopN (Dspec_l8Planeso1_7 n self s.inn s.pl.A s.pl.B s.pl.C s.pl.D s.kids p.A p.B p.C p.D) m ((k : Int), l) = cont self s.kids (insP l p k) := by
  intro k
  induction k with
  | zero =>
    intro m hk hm
    obtain ⟨m, rfl⟩ : ∃ j, m = j + 1 := ⟨m - 1, by omega⟩
    rw [loop_suc, pl7Step, decide_eq_false (by omega), frk_f, pl2 n self s p 0 l hk hl, if_neg (fun h => h.1 rfl)]; rfl
  | succ k ih =>
    intro m hk hm
    obtain ⟨m, rfl⟩ : ∃ j, m = j + 1 := ⟨m - 1, by omega⟩
    have hw : w64 (((k + 1 : Nat) : Int) - 1) = (k : Int) := by rw [w64_id (by omega) (by omega)]; omega
    rw [loop_suc, pl7Step, decide_eq_true (by omega), frk_t, hw, lget_nat, gt_some (by omega), Option.bind_some, sCmpP, Option.bind_some, show insP l p (k + 1) = (if cmpP (gt l k) p > 0 then insP l p k else if gt l k = p then l else (l.take (k + 1) ++ [p]) ++ l.drop (k + 1)) from rfl]
    by_cases hc : cmpP (gt l k) p > 0
    · rw [decide_eq_true hc, frk_t, if_pos hc]; exact ih m (by omega) (by omega)
    · rw [decide_eq_false hc, frk_f, if_neg hc, pl2 n self s p (k + 1) l hk hl]
      by_cases he : gt l k = p
      · rw [if_pos ⟨by omega, he⟩, if_pos he]
      · rw [if_neg (fun h => he h.2), if_neg he]
theorem plbStep (n : Nat) (self : (Sol × List Pl) → Option (List Pl)) (s : Sol) (l : List Pl) : Dspec_l8Planeso1_b n self (s, l) = (Dspec_l8Leaf s).bind fun v0 => frk v0 (some l) ((Dspec_l3Flip s.pl).bind fun v1 => (Dspec_CmpPlane n s.pl v1).bind fun v2 => frk (decide (v2 < 0)) ((Dspec_l3Flip s.pl).bind fun v3 => loopN (Dspec_l8Planeso1_7 n self s.inn s.pl.A s.pl.B s.pl.C s.pl.D s.kids v3.A v3.B v3.C v3.D) n ((l.length : Int), l)) (loopN (Dspec_l8Planeso1_7 n self s.inn s.pl.A s.pl.B s.pl.C s.pl.D s.kids s.pl.A s.pl.B s.pl.C s.pl.D) n ((l.length : Int), l))) := rfl
theorem sPls {s : Sol} {path : List Pl} (h : Rt s path) : ∀ out : List Pl, out.length + nod s ≤ 10000 → ∃ out', (∀ x, x ∈ out' ↔ x ∈ out ∨ Gn s x) ∧ out'.length ≤ out.length + nod s ∧ E2 fun n m => loopN (Dspec_l8Planeso1_b n) m (s, out) = some out' := by
  induction h with
  | @leaf i p path _ =>
    intro out _
    refine ⟨out, fun x => ⟨.inl, fun h => h.elim id fun h => by cases h⟩, by rw [nod_leaf]; omega, E2.suc (E2.of fun n m => ?_)⟩
    rw [loop_suc, plbStep]; rfl
  | @node p a b path hp _ _ _ _ _ iha ihb =>
    intro out hl
    rw [nod2] at hl
    obtain ⟨m1, l1⟩ := insP_mem (l := out) (p := gtr p) out.length (Nat.le_refl _)
    obtain ⟨o2, m2, l2, e2⟩ := iha (insP out (gtr p) out.length) (by omega)
    obtain ⟨o3, m3, l3, e3⟩ := ihb o2 (by omega)
    refine ⟨o3, fun x => ?_, by rw [nod2]; omega, E2.suc (((e2.and e3).and (e_ge 10001).e2).mono fun n m ⟨⟨g2, g3⟩, hn⟩ => ?_)⟩
    · rw [m3, m2, m1]
      constructor
      · rintro (((h | rfl) | h) | h)
        · exact .inl h
        · exact .inr .here
        · exact .inr (.left h)
        · exact .inr (.right h)
      · rintro (h | h)
        · exact .inl (.inl (.inl h))
        · cases h with
          | here => exact .inl (.inl (.inr rfl))
          | left h => exact .inl (.inr h)
          | right h => exact .inr h
    · have hc : cont (loopN (Dspec_l8Planeso1_b n) m) [a, b] (insP out (gtr p) out.length) = some o3 := by
        show ((some b).bind fun v1 => (some a).bind fun v0 => (loopN (Dspec_l8Planeso1_b n) m (v0, insP out (gtr p) out.length)).bind fun v3 => (loopN (Dspec_l8Planeso1_b n) m (v1, v3)).bind fun v4 => some v4) = _
        rw [Option.bind_some, Option.bind_some, g2, Option.bind_some, g3]; rfl
      rw [loop_suc, plbStep]
      show frk false _ ((Dspec_l3Flip p).bind fun v1 => (Dspec_CmpPlane n p v1).bind fun v2 => frk (decide (v2 < 0)) ((Dspec_l3Flip p).bind fun v3 => loopN (Dspec_l8Planeso1_7 n (loopN (Dspec_l8Planeso1_b n) m) false p.A p.B p.C p.D [a, b] v3.A v3.B v3.C v3.D) n ((out.length : Int), out)) (loopN (Dspec_l8Planeso1_7 n (loopN (Dspec_l8Planeso1_b n) m) false p.A p.B p.C p.D [a, b] p.A p.B p.C p.D) n ((out.length : Int), out))) = _
      rw [frk_f, sFlip p (pOk_PB hp), Option.bind_some, sCmpP, Option.bind_some, Option.bind_some]
      by_cases hg : ngp p
      · rw [decide_eq_true ((cmp_ng p).2 hg), frk_t]
        refine (pl7 n (loopN (Dspec_l8Planeso1_b n) m) (.mk false p [a, b]) (flp p) out (by omega) out.length n (Nat.le_refl _) (by omega)).trans ?_
        rw [← gtr_neg hg]; exact hc
      · rw [decide_eq_false (fun h => hg ((cmp_ng p).1 h)), frk_f]
        refine (pl7 n (loopN (Dspec_l8Planeso1_b n) m) (.mk false p [a, b]) p out (by omega) out.length n (Nat.le_refl _) (by omega)).trans ?_
        rw [gtr_pos hg] at hc; exact hc
theorem Gn.of {s : Sol} {path : List Pl} (h : Rt s path) {x : Pl} (hx : Gn s x) : ∃ p, pOk p = true ∧ x = gtr p := by
  induction h with
  | leaf _ => cases hx
  | node hp _ _ _ _ _ iha ihb =>
    cases hx with
    | here => exact ⟨_, hp, rfl⟩
    | left h => exact iha h
    | right h => exact ihb h
end Evl.T

/-! Eef -/
namespace Evl.T
open Go Evl

def gi (g : List Int) (i : Nat) : Int := (g[i]?).getD 0
theorem gi_some {g : List Int} {i : Nat} (h : i < g.length) : g[i]? = some (gi g i) := by unfold gi; rw [List.getElem?_eq_getElem h]; rfl
theorem gi_mem {g : List Int} {i : Nat} (h : i < g.length) : gi g i ∈ g := by unfold gi; rw [List.getElem?_eq_getElem h]; exact List.getElem_mem h
def sw (x y v : Int) : Int := if v = x then y else v
def rpl (g : List Int) (x y : Int) : List Int := g.map (sw x y)
def stp (T : Nat → Nat → Bool) (i : Nat) (g : List Int) (j : Nat) : List Int := if gi g i ≠ gi g j ∧ T i j = true then rpl g (gi g i) (gi g j) else g
structure Grp (N : Nat) (g : List Int) : Prop where
  len : g.length = N
  val : ∀ v ∈ g, ∃ a : Nat, a < N ∧ v = a
def nd (N : Nat) (g : List Int) : Nat := ((List.range N).filter fun v : Nat => decide ((v : Int) ∈ g)).length
theorem filt_len {P Q : Nat → Bool} : ∀ N, (∀ v, v < N → P v = Q v) → ((List.range N).filter P).length = ((List.range N).filter Q).length := fun N h => by
  rw [List.filter_congr fun v hv => h v (List.mem_range.1 hv)]
theorem filt1 {P : Nat → Bool} {a : Nat} (hP : P a = true) : ∀ N, ((List.range N).filter fun v => P v && decide (v ≠ a)).length + (if a < N then 1 else 0) = ((List.range N).filter P).length
  | 0 => by simp
  | N + 1 => by
    have ih := filt1 hP N
    rw [List.range_succ, List.filter_append, List.filter_append, List.length_append, List.length_append, ← ih]
    by_cases h : N = a
    · subst h
      rw [show ([N].filter fun v => P v && decide (v ≠ N)) = [] by simp, show [N].filter P = [N] by simp [hP], if_pos (show N < N + 1 by omega), if_neg (show ¬ N < N by omega)]; simp
    · have : ([N].filter fun v => P v && decide (v ≠ a)) = [N].filter P := List.filter_congr fun v hv => by
        rw [List.mem_singleton.1 hv, decide_eq_true h, Bool.and_true]
      rw [this]
      by_cases h2 : a < N
      · rw [if_pos h2, if_pos (show a < N + 1 by omega)]; omega
      · rw [if_neg h2, if_neg (show ¬ a < N + 1 by omega)]; omega
theorem mem_rpl {g : List Int} {x y : Int} (hxy : x ≠ y) (hy : y ∈ g) (v : Int) : v ∈ rpl g x y ↔ v ∈ g ∧ v ≠ x := by
  unfold rpl
  rw [List.mem_map]
  constructor
  · rintro ⟨u, hu, rfl⟩
    unfold sw
    by_cases h : u = x
    · rw [if_pos h]; exact ⟨hy, fun e => hxy e.symm⟩
    · rw [if_neg h]; exact ⟨hu, h⟩
  · rintro ⟨h1, h2⟩
    exact ⟨v, h1, by unfold sw; rw [if_neg h2]⟩
theorem rpl_grp {N : Nat} {g : List Int} (h : Grp N g) {x y : Int} (hy : y ∈ g) : Grp N (rpl g x y) := ⟨by unfold rpl; rw [List.length_map]; exact h.len, fun v hv => by
  unfold rpl at hv
  obtain ⟨u, hu, rfl⟩ := List.mem_map.1 hv
  unfold sw
  split
  · exact h.val y hy
  · exact h.val u hu⟩
theorem nd_rpl {N : Nat} {g : List Int} (h : Grp N g) {x y : Int} (hxy : x ≠ y) (hx : x ∈ g) (hy : y ∈ g) : nd N (rpl g x y) + 1 = nd N g := by
  obtain ⟨a, ha, rfl⟩ := h.val x hx
  have := filt1 (P := fun v : Nat => decide ((v : Int) ∈ g)) (a := a) (decide_eq_true hx) N
  rw [if_pos ha] at this
  unfold nd
  rw [← this]
  congr 1
  refine filt_len N fun v _ => ?_
  rw [Bool.eq_iff_iff, Bool.and_eq_true, decide_eq_true_iff, decide_eq_true_iff, decide_eq_true_iff, mem_rpl hxy hy]
  constructor
  · rintro ⟨h1, h2⟩; exact ⟨h1, fun e => h2 (by rw [e])⟩
  · rintro ⟨h1, h2⟩; exact ⟨h1, fun e => h2 (by omega)⟩
theorem stp_grp {N : Nat} {T : Nat → Nat → Bool} {g : List Int} (h : Grp N g) {i j : Nat} (hj : j < N) : Grp N (stp T i g j) := by
  unfold stp
  split
  · exact rpl_grp h (gi_mem (by rw [h.len]; exact hj))
  · exact h
theorem fold_grp {N : Nat} {T : Nat → Nat → Bool} {i : Nat} (hi : i ≤ N) : ∀ (d j : Nat) (g : List Int), j + d ≤ i → Grp N g → Grp N ((List.range' j d).foldl (stp T i) g)
  | 0, _, _, _, h => h
  | d + 1, j, g, hj, h => by
    rw [List.range'_succ, List.foldl_cons]
    exact fold_grp hi d (j + 1) _ (by omega) (stp_grp h (by omega))
def inG (T : Nat → Nat → Bool) (g : List Int) (i : Nat) : List Int := (List.range' 0 i).foldl (stp T i) g
theorem nd_snoc {N : Nat} (L : List Int) {a : Nat} (ha : a < N) : nd N (L ++ [(a : Int)]) = nd N L + (if (a : Int) ∈ L then 0 else 1) := by
  by_cases h : (a : Int) ∈ L
  · rw [if_pos h]
    unfold nd
    exact filt_len N fun v _ => by
      rw [Bool.eq_iff_iff, decide_eq_true_iff, decide_eq_true_iff, List.mem_append, List.mem_singleton]
      exact ⟨fun h' => h'.elim id fun e => by rw [e]; exact h, .inl⟩
  · rw [if_neg h]
    have := filt1 (P := fun v : Nat => decide ((v : Int) ∈ L ++ [(a : Int)])) (a := a) (decide_eq_true (by simp)) N
    rw [if_pos ha] at this
    unfold nd
    rw [← this]
    congr 1
    refine filt_len N fun v _ => ?_
    rw [Bool.eq_iff_iff, Bool.and_eq_true, decide_eq_true_iff, decide_eq_true_iff, decide_eq_true_iff, List.mem_append, List.mem_singleton]
    constructor
    · rintro ⟨h1 | h1, h2⟩
      · exact h1
      · exact absurd (by omega) h2
    · intro h1; exact ⟨.inl h1, fun e => h (by rw [← e]; exact h1)⟩
theorem nd_nil (N : Nat) : nd N [] = 0 := by unfold nd; simp
/-- Each its own. -/
def g0 (N : Nat) : List Int := (List.range N).map fun v : Nat => (v : Int)
theorem g0_grp (N : Nat) : Grp N (g0 N) := ⟨by unfold g0; simp, fun v hv => by
  unfold g0 at hv
  obtain ⟨a, ha, rfl⟩ := List.mem_map.1 hv
  exact ⟨a, List.mem_range.1 ha, rfl⟩⟩
theorem nd_g0 (N : Nat) : nd N (g0 N) = N := by
  unfold nd
  have : ((List.range N).filter fun v : Nat => decide ((v : Int) ∈ g0 N)) = List.range N := List.filter_eq_self.2 fun v hv => by
    rw [decide_eq_true_iff]; unfold g0; exact List.mem_map.2 ⟨v, hv, rfl⟩
  rw [this, List.length_range]
theorem nd_le (N : Nat) (g : List Int) : nd N g ≤ N := by
  unfold nd
  have := List.length_filter_le (fun v : Nat => decide ((v : Int) ∈ g)) (List.range N)
  rwa [List.length_range] at this
/-- A list half replaced. -/
def hlf (g : List Int) (x y : Int) (k : Nat) : List Int := (g.take k).map (sw x y) ++ g.drop k
theorem hlf_len (g : List Int) (x y : Int) (k : Nat) : (hlf g x y k).length = g.length := by unfold hlf; rw [List.length_append, List.length_map, List.length_take, List.length_drop]; omega
theorem hlf_zero (g : List Int) (x y : Int) : hlf g x y 0 = g := by unfold hlf; simp
theorem hlf_all (g : List Int) (x y : Int) : hlf g x y g.length = rpl g x y := by unfold hlf rpl; simp
theorem hlf_at {g : List Int} {x y : Int} {k : Nat} (hk : k < g.length) : (hlf g x y k)[k]? = some (gi g k) := by
  unfold hlf
  rw [List.getElem?_append_right (by rw [List.length_map, List.length_take]; omega), List.length_map, List.length_take, show k - min k g.length = 0 by omega, List.getElem?_drop]
  exact gi_some hk
theorem hlf_keep {g : List Int} {x y : Int} {k : Nat} (hk : k < g.length) (h : gi g k ≠ x) : hlf g x y (k + 1) = hlf g x y k := by
  unfold hlf
  have e := List.getElem?_eq_getElem hk
  have ev : g[k] = gi g k := by unfold gi; rw [e]; rfl
  rw [List.take_add_one, e, List.map_append, List.append_assoc, List.drop_eq_getElem_cons hk]
  show _ ++ ([sw x y g[k]] ++ _) = _
  rw [show sw x y g[k] = g[k] by unfold sw; rw [ev, if_neg h]]; rfl
theorem hlf_set {g : List Int} {x y : Int} {k : Nat} (hk : k < g.length) (h : gi g k = x) : (hlf g x y k).set k y = hlf g x y (k + 1) := by
  unfold hlf
  have e := List.getElem?_eq_getElem hk
  have ev : g[k] = gi g k := by unfold gi; rw [e]; rfl
  rw [List.take_add_one, e, List.map_append, List.append_assoc, List.drop_eq_getElem_cons hk, List.set_append_right _ _ (by rw [List.length_map, List.length_take]; omega), List.length_map, List.length_take, show k - min k g.length = 0 by omega]
  show _ ++ (y :: _) = _ ++ ([sw x y g[k]] ++ _)
  rw [show sw x y g[k] = y by unfold sw; rw [ev, if_pos h]]; rfl
theorem hlf_y {g : List Int} {x y : Int} {k j : Nat} (hj : j < g.length) (hy : gi g j = y) (hxy : x ≠ y) : (hlf g x y k)[j]? = some y := by
  have e := List.getElem?_eq_getElem hj
  have ev : g[j] = y := by rw [← hy]; unfold gi; rw [e]; rfl
  unfold hlf
  by_cases h : j < (g.take k).length
  · rw [List.getElem?_append_left (by rw [List.length_map]; exact h), List.getElem?_map]
    rw [List.length_take] at h
    rw [List.getElem?_take_of_lt (by omega), e, ev]
    show some (sw x y y) = _
    unfold sw; rw [if_neg (fun e => hxy e.symm)]
  · rw [List.getElem?_append_right (by rw [List.length_map]; omega), List.length_map]
    rw [List.length_take] at h ⊢
    rw [List.getElem?_drop, show k + (j - min k g.length) = j by omega, e, ev]
end Evl.T

/-! Eei -/
namespace Evl.T
open Go Evl

def cl (L : List (List Pl)) (i : Nat) : List Pl := (L[i]?).getD []
theorem cl_some {L : List (List Pl)} {i : Nat} (h : i < L.length) : L[i]? = some (cl L i) := by unfold cl; rw [List.getElem?_eq_getElem h]; rfl
theorem cl_mem {L : List (List Pl)} {i : Nat} (h : i < L.length) : cl L i ∈ L := by unfold cl; rw [List.getElem?_eq_getElem h]; exact List.getElem_mem h
theorem gi_rpl {g : List Int} {x y : Int} {k : Nat} (hk : k < g.length) : gi (rpl g x y) k = sw x y (gi g k) := by
  unfold gi rpl
  rw [List.getElem?_map, List.getElem?_eq_getElem hk]; rfl
theorem ws {k : Nat} (h : k < 100000) : w64 ((k : Int) + 1) = ((k + 1 : Nat) : Int) := w64_suc (by unfold big; omega)
/-! the program's -/
abbrev P4 := Int × Int × List (List Pl) × List Int
theorem p2Step (n : Nat) (rec2 rec1 : P4 → Option Int) (t7 : Int) (t8 : List Pl) (t36 : Int) (t43 : List (List Pl)) (t44 t35 t5 x y t45 t76 : Int) (L : List (List Pl)) (rec3 : (Int × List Int) → Option Int) (k : Int) (g : List Int) :
    Dimpl_Pieces_2 n rec2 rec1 t7 t8 t36 t43 t44 t35 t5 x y t45 t76 L rec3 (k, g) = frk (decide (k < t76)) ((lget g k).bind fun v12 => frk (v12 == x) ((lget g k).bind fun _ => rec3 (w64 (k + 1), (g.set (Int.toNat k) y))) (rec3 (w64 (k + 1), g))) (rec2 (t5, w64 (t45 + 1), L, g)) := rfl
theorem iRpl (n : Nat) (rec2 rec1 : P4 → Option Int) (t7 : Int) (t8 : List Pl) (t36 : Int) (t43 : List (List Pl)) (t44 t35 t5 x y t45 : Int) (L : List (List Pl)) {g : List Int} (hg : g.length ≤ 1000) : ∀ (d k m : Nat), k + d = g.length → d < m →
    loopN (Dimpl_Pieces_2 n rec2 rec1 t7 t8 t36 t43 t44 t35 t5 x y t45 (g.length : Int) L) m ((k : Int), hlf g x y k) = rec2 (t5, w64 (t45 + 1), L, rpl g x y) := by
  intro d
  induction d with
  | zero =>
    intro k m hk hm
    obtain ⟨m, rfl⟩ : ∃ j, m = j + 1 := ⟨m - 1, by omega⟩
    obtain rfl : k = g.length := by omega
    rw [loop_suc, p2Step, decide_eq_false (by omega), frk_f, hlf_all]
  | succ d ih =>
    intro k m hk hm
    obtain ⟨m, rfl⟩ : ∃ j, m = j + 1 := ⟨m - 1, by omega⟩
    have hkl : k < g.length := by omega
    rw [loop_suc, p2Step, decide_eq_true (by omega), frk_t, lget_nat, hlf_at hkl, Option.bind_some, Option.bind_some, ws (by omega), Int.toNat_natCast]
    by_cases h : gi g k = x
    · rw [show (gi g k == x) = true by simpa using h, frk_t, hlf_set hkl h]; exact ih (k + 1) m (by omega) (by omega)
    · rw [show (gi g k == x) = false by simpa using h, frk_f, ← hlf_keep hkl h]; exact ih (k + 1) m (by omega) (by omega)
theorem p3Step (n : Nat) (rec1 : P4 → Option Int) (t35 i : Int) (a : List Pl) (t36 : Int) (t43 : List (List Pl)) (t44 : Int) (rec2 : P4 → Option Int) (c j : Int) (L : List (List Pl)) (g : List Int) :
    Dimpl_Pieces_3 n rec1 t35 i a t36 t43 t44 rec2 (c, j, L, g) = frk (decide (j < t44)) ((lget t43 j).bind fun v6 => (lget g i).bind fun v7 => (lget g j).bind fun v8 => frk (v7 == v8) (rec2 (c, w64 (j + 1), L, g)) ((Dimpl_touch n a v6).bind fun v9 => frk (!v9) (rec2 (c, w64 (j + 1), L, g)) ((lget g i).bind fun v10 => (lget g j).bind fun v11 => loopN (Dimpl_Pieces_2 n rec2 rec1 i a t36 t43 t44 t35 (w64 (c - 1)) v10 v11 j (g.length : Int) L) n (0, g)))) (rec1 (c, w64 (t36 + 1), L, g)) := rfl
theorem iInP (n : Nat) (hn : 2000 ≤ n) {L : List (List Pl)} (hL : L.length ≤ 1000) {T : Nat → Nat → Bool} (hT : ∀ i j, i < L.length → j < L.length → Dimpl_touch n (cl L i) (cl L j) = some (T i j)) (rec1 : P4 → Option Int) (t35 : Int) {i : Nat} (hi : i < L.length) : ∀ (d j m : Nat) (g : List Int), j + d = i → d < m → Grp L.length g →
    loopN (Dimpl_Pieces_3 n rec1 t35 (i : Int) (cl L i) (i : Int) (L.take i) (i : Int)) m ((nd L.length g : Int), (j : Int), L, g) = rec1 ((nd L.length ((List.range' j d).foldl (stp T i) g) : Int), ((i + 1 : Nat) : Int), L, (List.range' j d).foldl (stp T i) g) := by
  intro d
  induction d with
  | zero =>
    intro j m g hj hm hg
    obtain ⟨m, rfl⟩ : ∃ x, m = x + 1 := ⟨m - 1, by omega⟩
    rw [loop_suc, p3Step, decide_eq_false (by omega), frk_f, ws (by omega)]; rfl
  | succ d ih =>
    intro j m g hj hm hg
    obtain ⟨m, rfl⟩ : ∃ x, m = x + 1 := ⟨m - 1, by omega⟩
    have hl := hg.len
    have hnd := nd_le L.length g
    have htk : (L.take i)[j]? = some (cl L j) := by rw [List.getElem?_take_of_lt (by omega)]; exact cl_some (by omega)
    have key : ∀ g', g' = stp T i g j → loopN (Dimpl_Pieces_3 n rec1 t35 (i : Int) (cl L i) (i : Int) (L.take i) (i : Int)) m ((nd L.length g' : Int), ((j + 1 : Nat) : Int), L, g') = rec1 ((nd L.length ((List.range' j (d + 1)).foldl (stp T i) g) : Int), ((i + 1 : Nat) : Int), L, (List.range' j (d + 1)).foldl (stp T i) g) := fun g' e => by
      rw [List.range'_succ, List.foldl_cons, ← e]
      exact ih (j + 1) m g' (by omega) (by omega) (by rw [e]; exact stp_grp hg (by omega))
    rw [loop_suc, p3Step, decide_eq_true (by omega), frk_t, lget_nat, htk, Option.bind_some, lget_nat, gi_some (by omega), Option.bind_some, lget_nat, gi_some (by omega), Option.bind_some, ws (by omega), hT i j hi (by omega), Option.bind_some, Option.bind_some, Option.bind_some]
    by_cases he : gi g i = gi g j
    · rw [show (gi g i == gi g j) = true by simpa using he, frk_t]
      exact key g (by unfold stp; rw [if_neg (fun h => h.1 he)])
    · rw [show (gi g i == gi g j) = false by simpa using he, frk_f]
      cases ht : T i j with
      | false =>
        rw [Bool.not_false, frk_t]
        exact key g (by unfold stp; rw [if_neg (fun h => by rw [ht] at h; exact absurd h.2 (by simp))])
      | true =>
        rw [Bool.not_true, frk_f]
        have hr := nd_rpl hg he (gi_mem (by omega)) (gi_mem (by omega))
        have r := iRpl n (loopN (Dimpl_Pieces_3 n rec1 t35 (i : Int) (cl L i) (i : Int) (L.take i) (i : Int)) m) rec1 (i : Int) (cl L i) (i : Int) (L.take i) (i : Int) t35 (w64 ((nd L.length g : Int) - 1)) (gi g i) (gi g j) (j : Int) L (g := g) (by omega) g.length 0 n (by omega) (by omega)
        rw [hlf_zero, ws (by omega)] at r
        refine r.trans ?_
        have hw : w64 ((nd L.length g : Int) - 1) = (nd L.length (rpl g (gi g i) (gi g j)) : Int) := by rw [w64_id (by omega) (by omega)]; omega
        rw [hw]
        exact key _ (by unfold stp; rw [if_pos ⟨he, ht⟩])
theorem p4Step (n : Nat) (t35 : Int) (rec1 : P4 → Option Int) (c i : Int) (L : List (List Pl)) (g : List Int) :
    Dimpl_Pieces_4 n t35 rec1 (c, i, L, g) = frk (decide (i < t35)) ((lget L i).bind fun v4 => (lsl L 0 i).bind fun v5 => loopN (Dimpl_Pieces_3 n rec1 t35 i v4 i v5 (v5.length : Int)) n (c, 0, L, g)) (some c) := rfl
theorem iOutP (n : Nat) (hn : 2000 ≤ n) {L : List (List Pl)} (hL : L.length ≤ 1000) {T : Nat → Nat → Bool} (hT : ∀ i j, i < L.length → j < L.length → Dimpl_touch n (cl L i) (cl L j) = some (T i j)) : ∀ (d i m : Nat) (g : List Int), i + d = L.length → d < m → Grp L.length g →
    loopN (Dimpl_Pieces_4 n (L.length : Int)) m ((nd L.length g : Int), (i : Int), L, g) = some (nd L.length ((List.range' i d).foldl (inG T) g) : Int) := by
  intro d
  induction d with
  | zero =>
    intro i m g hi hm hg
    obtain ⟨m, rfl⟩ : ∃ x, m = x + 1 := ⟨m - 1, by omega⟩
    rw [loop_suc, p4Step, decide_eq_false (by omega), frk_f]; rfl
  | succ d ih =>
    intro i m g hi hm hg
    obtain ⟨m, rfl⟩ : ∃ x, m = x + 1 := ⟨m - 1, by omega⟩
    have hil : i < L.length := by omega
    have htl : (L.take i).length = i := by rw [List.length_take]; omega
    rw [loop_suc, p4Step, decide_eq_true (by omega), frk_t, lget_nat, cl_some hil, Option.bind_some, lsl_take L i (by omega), Option.bind_some, htl, List.range'_succ, List.foldl_cons]
    have r := iInP n hn hL hT (loopN (Dimpl_Pieces_4 n (L.length : Int)) m) (L.length : Int) hil i 0 n g (by omega) (by omega) hg
    refine r.trans ?_
    exact ih (i + 1) m (inG T g i) (by omega) (by omega) (fold_grp (by omega) i 0 g (by omega) hg)
theorem p5Step (n : Nat) (t5 t25 : Int) (L : List (List Pl)) (rec0 : (Int × List Int) → Option Int) (k : Int) (g : List Int) :
    Dimpl_Pieces_5 n t5 t25 L rec0 (k, g) = frk (decide (k < t25)) ((lget g k).bind fun _ => rec0 (w64 (k + 1), (g.set (Int.toNat k) k))) (Dimpl_Pieces_0 n t5 (L.length : Int) 0 L g) := rfl
def ini (N k : Nat) : List Int := (List.range k).map (fun v : Nat => (v : Int)) ++ List.replicate (N - k) 0
theorem ini_at {N k : Nat} (h : k < N) : (ini N k)[k]? = some 0 := by
  unfold ini
  rw [List.getElem?_append_right (by simp), List.length_map, List.length_range, Nat.sub_self, List.getElem?_replicate, if_pos (by omega)]
theorem ini_set {N k : Nat} (h : k < N) : (ini N k).set k (k : Int) = ini N (k + 1) := by
  unfold ini
  rw [List.set_append_right _ _ (by simp), List.length_map, List.length_range, Nat.sub_self, show N - k = (N - (k + 1)) + 1 by omega, List.replicate_succ, List.set_cons_zero, List.range_succ, List.map_append, List.append_assoc]; rfl
theorem iIni (n : Nat) (t5 : Int) {L : List (List Pl)} (hL : L.length ≤ 1000) : ∀ (d k m : Nat), k + d = L.length → d < m → loopN (Dimpl_Pieces_5 n t5 (L.length : Int) L) m ((k : Int), ini L.length k) = Dimpl_Pieces_0 n t5 (L.length : Int) 0 L (g0 L.length) := by
  intro d
  induction d with
  | zero =>
    intro k m hk hm
    obtain ⟨m, rfl⟩ : ∃ x, m = x + 1 := ⟨m - 1, by omega⟩
    obtain rfl : k = L.length := by omega
    rw [loop_suc, p5Step, decide_eq_false (by omega), frk_f]
    congr 1
    unfold ini g0; simp
  | succ d ih =>
    intro k m hk hm
    obtain ⟨m, rfl⟩ : ∃ x, m = x + 1 := ⟨m - 1, by omega⟩
    rw [loop_suc, p5Step, decide_eq_true (by omega), frk_t, lget_nat, ini_at (by omega), Option.bind_some, Int.toNat_natCast, ini_set (by omega), ws (by omega)]
    exact ih (k + 1) m (by omega) (by omega)
theorem iPieces (n : Nat) (hn : 2000 ≤ n) {L : List (List Pl)} (hL : L.length ≤ 1000) {T : Nat → Nat → Bool} (hT : ∀ i j, i < L.length → j < L.length → Dimpl_touch n (cl L i) (cl L j) = some (T i j)) :
    loopN (Dimpl_Pieces_5 n (L.length : Int) (L.length : Int) L) n (0, List.replicate (Int.toNat (L.length : Int)) (0 : Int)) = some (nd L.length ((List.range' 0 L.length).foldl (inG T) (g0 L.length)) : Int) := by
  have h1 := iIni n (L.length : Int) hL L.length 0 n (by omega) (by omega)
  have e : ini L.length 0 = List.replicate L.length 0 := by unfold ini; simp
  rw [e] at h1
  rw [Int.toNat_natCast]
  refine h1.trans ?_
  unfold Dimpl_Pieces_0
  have h2 := iOutP n hn hL hT L.length 0 n (g0 L.length) (by omega) (by omega) (g0_grp _)
  rw [nd_g0] at h2
  exact h2
/-! the reference's -/
abbrev Q2 := Int × List Int
theorem q2Step (n : Nat) (rec3 rec2 rec1 : Q2 → Option Int) (j i : Int) (L : List (List Pl)) (Pm : List Pl) (q x : Int) (rec4 : Q2 → Option Int) (k : Int) (g : List Int) :
    Dspec_Pieces_2 n rec3 rec2 rec1 j i L Pm q x rec4 (k, g) = frk (decide (k < (g.length : Int))) ((lget g k).bind fun v10 => frk (v10 == x) ((lget g j).bind fun v11 => (lget g k).bind fun _ => rec4 (w64 (k + 1), (g.set (Int.toNat k) v11))) (rec4 (w64 (k + 1), g))) (rec3 (w64 (q + 1), g)) := rfl
theorem sRpl (n : Nat) (rec3 rec2 rec1 : Q2 → Option Int) (i : Int) (L : List (List Pl)) (Pm : List Pl) (q : Int) {g : List Int} (hg : g.length ≤ 1000) {x : Int} {j : Nat} (hj : j < g.length) (hxy : x ≠ gi g j) : ∀ (d k m : Nat), k + d = g.length → d < m →
    loopN (Dspec_Pieces_2 n rec3 rec2 rec1 (j : Int) i L Pm q x) m ((k : Int), hlf g x (gi g j) k) = rec3 (w64 (q + 1), rpl g x (gi g j)) := by
  intro d
  induction d with
  | zero =>
    intro k m hk hm
    obtain ⟨m, rfl⟩ : ∃ j, m = j + 1 := ⟨m - 1, by omega⟩
    obtain rfl : k = g.length := by omega
    rw [loop_suc, q2Step, hlf_len, decide_eq_false (by omega), frk_f, hlf_all]
  | succ d ih =>
    intro k m hk hm
    obtain ⟨m, rfl⟩ : ∃ j, m = j + 1 := ⟨m - 1, by omega⟩
    have hkl : k < g.length := by omega
    rw [loop_suc, q2Step, hlf_len, decide_eq_true (by omega), frk_t, lget_nat, hlf_at hkl, Option.bind_some, lget_nat, hlf_y hj rfl hxy, Option.bind_some, Option.bind_some, ws (by omega), Int.toNat_natCast]
    by_cases h : gi g k = x
    · rw [show (gi g k == x) = true by simpa using h, frk_t, hlf_set hkl h]; exact ih (k + 1) m (by omega) (by omega)
    · rw [show (gi g k == x) = false by simpa using h, frk_f, ← hlf_keep hkl h]; exact ih (k + 1) m (by omega) (by omega)
theorem q3Step (n : Nat) (rec2 rec1 : Q2 → Option Int) (i : Int) (L : List (List Pl)) (Pm : List Pl) (j : Int) (rec3 : Q2 → Option Int) (q : Int) (g : List Int) :
    Dspec_Pieces_3 n rec2 rec1 i L Pm j rec3 (q, g) = frk (decide (q < (Pm.length : Int))) ((lget g i).bind fun v3 => (lget g j).bind fun v4 => frk (v3 != v4) ((lget L i).bind fun v5 => (lget L j).bind fun v6 => (lget Pm q).bind fun v7 => (Dspec_l13Meet n v5 v6 v7).bind fun v8 => frk v8 ((lget g i).bind fun v9 => loopN (Dspec_Pieces_2 n rec3 rec2 rec1 j i L Pm q v9) n (0, g)) (rec3 (w64 (q + 1), g))) (rec2 (w64 (j + 1), g))) (rec2 (w64 (j + 1), g)) := rfl
theorem sIn3P (n : Nat) (hn : 2000 ≤ n) {L : List (List Pl)} (hL : L.length ≤ 1000) {Pm : List Pl} (hPm : Pm.length ≤ 1000) {M : Nat → Nat → Pl → Bool} (hM : ∀ i j p, i < L.length → j < L.length → p ∈ Pm → Dspec_l13Meet n (cl L i) (cl L j) p = some (M i j p)) (rec2 rec1 : Q2 → Option Int) {i j : Nat} (hi : i < L.length) (hj : j < L.length) : ∀ (d q m : Nat) (g : List Int), q + d = Pm.length → d < m → Grp L.length g →
    loopN (Dspec_Pieces_3 n rec2 rec1 (i : Int) L Pm (j : Int)) m ((q : Int), g) = rec2 (((j + 1 : Nat) : Int), if gi g i ≠ gi g j ∧ (Pm.drop q).any (M i j) = true then rpl g (gi g i) (gi g j) else g) := by
  intro d
  induction d with
  | zero =>
    intro q m g hq hm hg
    obtain ⟨m, rfl⟩ : ∃ x, m = x + 1 := ⟨m - 1, by omega⟩
    rw [loop_suc, q3Step, decide_eq_false (by omega), frk_f, ws (by omega), List.drop_eq_nil_of_le (by omega), if_neg (fun h => by have := h.2; simp at this)]
  | succ d ih =>
    intro q m g hq hm hg
    obtain ⟨m, rfl⟩ : ∃ x, m = x + 1 := ⟨m - 1, by omega⟩
    have hl := hg.len
    have hql : q < Pm.length := by omega
    rw [loop_suc, q3Step, decide_eq_true (by omega), frk_t, lget_nat, gi_some (by omega), Option.bind_some, lget_nat, gi_some (by omega), Option.bind_some, lget_nat, cl_some hi, Option.bind_some, lget_nat, cl_some hj, Option.bind_some, lget_nat, List.getElem?_eq_getElem hql, Option.bind_some, hM i j _ hi hj (List.getElem_mem hql), Option.bind_some, Option.bind_some, ws (k := j) (by omega), ws (k := q) (by omega), List.drop_eq_getElem_cons hql, List.any_cons]
    by_cases he : gi g i = gi g j
    · rw [show (gi g i != gi g j) = false by simpa using he, frk_f, if_neg (fun h => h.1 he)]
    · rw [show (gi g i != gi g j) = true by simpa using he, frk_t]
      cases hm' : M i j Pm[q] with
      | false =>
        rw [frk_f, Bool.false_or]
        exact ih (q + 1) m g (by omega) (by omega) hg
      | true =>
        rw [frk_t, Bool.true_or, if_pos ⟨he, rfl⟩]
        have r := sRpl n (loopN (Dspec_Pieces_3 n rec2 rec1 (i : Int) L Pm (j : Int)) m) rec2 rec1 (i : Int) L Pm (q : Int) (g := g) (by omega) (j := j) (by omega) he g.length 0 n (by omega) (by omega)
        rw [hlf_zero, ws (by omega)] at r
        refine r.trans ?_
        have e1 : gi (rpl g (gi g i) (gi g j)) i = gi (rpl g (gi g i) (gi g j)) j := by
          rw [gi_rpl (by omega), gi_rpl (by omega)]
          unfold sw
          rw [if_pos rfl, if_neg (fun e => he e.symm)]
        rw [ih (q + 1) m _ (by omega) (by omega) (rpl_grp hg (gi_mem (by omega))), if_neg (fun h => h.1 e1)]
theorem q4Step (n : Nat) (rec1 : Q2 → Option Int) (L : List (List Pl)) (Pm : List Pl) (i : Int) (rec2 : Q2 → Option Int) (j : Int) (g : List Int) :
    Dspec_Pieces_4 n rec1 L Pm i rec2 (j, g) = frk (decide (j < i)) (loopN (Dspec_Pieces_3 n rec2 rec1 i L Pm j) n (0, g)) (rec1 (w64 (i + 1), g)) := rfl
theorem sIn4P (n : Nat) (hn : 2000 ≤ n) {L : List (List Pl)} (hL : L.length ≤ 1000) {Pm : List Pl} (hPm : Pm.length ≤ 1000) {M : Nat → Nat → Pl → Bool} (hM : ∀ i j p, i < L.length → j < L.length → p ∈ Pm → Dspec_l13Meet n (cl L i) (cl L j) p = some (M i j p)) (rec1 : Q2 → Option Int) {i : Nat} (hi : i < L.length) : ∀ (d j m : Nat) (g : List Int), j + d = i → d < m → Grp L.length g →
    loopN (Dspec_Pieces_4 n rec1 L Pm (i : Int)) m ((j : Int), g) = rec1 (((i + 1 : Nat) : Int), (List.range' j d).foldl (stp (fun i j => Pm.any (M i j)) i) g) := by
  intro d
  induction d with
  | zero =>
    intro j m g hj hm hg
    obtain ⟨m, rfl⟩ : ∃ x, m = x + 1 := ⟨m - 1, by omega⟩
    rw [loop_suc, q4Step, decide_eq_false (by omega), frk_f, ws (by omega)]; rfl
  | succ d ih =>
    intro j m g hj hm hg
    obtain ⟨m, rfl⟩ : ∃ x, m = x + 1 := ⟨m - 1, by omega⟩
    have r := sIn3P n hn hL hPm hM (loopN (Dspec_Pieces_4 n rec1 L Pm (i : Int)) m) rec1 hi (j := j) (by omega) Pm.length 0 n g (by omega) (by omega) hg
    rw [List.drop_zero] at r
    rw [loop_suc, q4Step, decide_eq_true (by omega), frk_t, List.range'_succ, List.foldl_cons]
    refine r.trans ?_
    exact ih (j + 1) m (stp (fun i j => Pm.any (M i j)) i g j) (by omega) (by omega) (stp_grp hg (by omega))
theorem q9Step (n : Nat) (L : List (List Pl)) (Pm : List Pl) (rec1 : Q2 → Option Int) (i : Int) (g : List Int) :
    Dspec_Pieces_9 n L Pm rec1 (i, g) = frk (decide (i < (L.length : Int))) (loopN (Dspec_Pieces_4 n rec1 L Pm i) n (0, g)) (Dspec_Pieces_5 n 0 0 g) := rfl
theorem sOutP (n : Nat) (hn : 2000 ≤ n) {L : List (List Pl)} (hL : L.length ≤ 1000) {Pm : List Pl} (hPm : Pm.length ≤ 1000) {M : Nat → Nat → Pl → Bool} (hM : ∀ i j p, i < L.length → j < L.length → p ∈ Pm → Dspec_l13Meet n (cl L i) (cl L j) p = some (M i j p)) : ∀ (d i m : Nat) (g : List Int), i + d = L.length → d < m → Grp L.length g →
    loopN (Dspec_Pieces_9 n L Pm) m ((i : Int), g) = Dspec_Pieces_5 n 0 0 ((List.range' i d).foldl (inG fun i j => Pm.any (M i j)) g) := by
  intro d
  induction d with
  | zero =>
    intro i m g hi hm hg
    obtain ⟨m, rfl⟩ : ∃ x, m = x + 1 := ⟨m - 1, by omega⟩
    rw [loop_suc, q9Step, decide_eq_false (by omega), frk_f]; rfl
  | succ d ih =>
    intro i m g hi hm hg
    obtain ⟨m, rfl⟩ : ∃ x, m = x + 1 := ⟨m - 1, by omega⟩
    rw [loop_suc, q9Step, decide_eq_true (by omega), frk_t, List.range'_succ, List.foldl_cons]
    have r := sIn4P n hn hL hPm hM (loopN (Dspec_Pieces_9 n L Pm) m) (i := i) (by omega) i 0 n g (by omega) (by omega) hg
    refine r.trans ?_
    exact ih (i + 1) m (inG (fun i j => Pm.any (M i j)) g i) (by omega) (by omega) (fold_grp (by omega) i 0 g (by omega) hg)
theorem q7Step (n : Nat) (rec2 : (Int × Int × List Int) → Option Int) (c i : Int) (g : List Int) (rec3 : (Bool × Int) → Option Int) (b : Bool) (k : Int) :
    Dspec_Pieces_7 n rec2 c i g rec3 (b, k) = frk (decide (k < i)) (frk b ((lget g k).bind fun v13 => (lget g i).bind fun v14 => rec3 (v13 != v14, w64 (k + 1))) (rec3 (false, w64 (k + 1)))) (frk b (rec2 (w64 (c + 1), w64 (i + 1), g)) (rec2 (c, w64 (i + 1), g))) := rfl
theorem sFst (n : Nat) (rec2 : (Int × Int × List Int) → Option Int) (c : Int) {g : List Int} (hg : g.length ≤ 1000) {i : Nat} (hi : i < g.length) : ∀ (d k m : Nat) (b : Bool), k + d = i → d < m →
    loopN (Dspec_Pieces_7 n rec2 c (i : Int) g) m (b, (k : Int)) = frk (b && (List.range' k d).all fun t => gi g t != gi g i) (rec2 (w64 (c + 1), ((i + 1 : Nat) : Int), g)) (rec2 (c, ((i + 1 : Nat) : Int), g)) := by
  intro d
  induction d with
  | zero =>
    intro k m b hk hm
    obtain ⟨m, rfl⟩ : ∃ x, m = x + 1 := ⟨m - 1, by omega⟩
    rw [loop_suc, q7Step, decide_eq_false (by omega), frk_f, ws (by omega)]
    simp
  | succ d ih =>
    intro k m b hk hm
    obtain ⟨m, rfl⟩ : ∃ x, m = x + 1 := ⟨m - 1, by omega⟩
    rw [loop_suc, q7Step, decide_eq_true (by omega), frk_t, lget_nat, gi_some (by omega), Option.bind_some, lget_nat, gi_some hi, Option.bind_some, ws (k := k) (by omega), ih (k + 1) m _ (by omega) (by omega), ih (k + 1) m _ (by omega) (by omega), List.range'_succ, List.all_cons]
    cases b
    · rw [frk_f, Bool.false_and, Bool.false_and]
    · rw [frk_t, Bool.true_and]
theorem q8Step (n : Nat) (rec2 : (Int × Int × List Int) → Option Int) (c i : Int) (g : List Int) : Dspec_Pieces_8 n rec2 (c, i, g) = frk (decide (i < (g.length : Int))) (loopN (Dspec_Pieces_7 n rec2 c i g) n (true, 0)) (some c) := rfl
theorem sCount (n : Nat) (hn : 2000 ≤ n) {N : Nat} (hN : N ≤ 1000) {g : List Int} (hg : Grp N g) : ∀ (d i m : Nat), i + d = g.length → d < m → loopN (Dspec_Pieces_8 n) m ((nd N (g.take i) : Int), (i : Int), g) = some (nd N g : Int) := by
  intro d
  have hl := hg.len
  induction d with
  | zero =>
    intro i m hi hm
    obtain ⟨m, rfl⟩ : ∃ x, m = x + 1 := ⟨m - 1, by omega⟩
    rw [loop_suc, q8Step, decide_eq_false (by omega), frk_f, List.take_of_length_le (by omega)]
  | succ d ih =>
    intro i m hi hm
    obtain ⟨m, rfl⟩ : ∃ x, m = x + 1 := ⟨m - 1, by omega⟩
    have hil : i < g.length := by omega
    have r := sFst n (loopN (Dspec_Pieces_8 n) m) (nd N (g.take i) : Int) (g := g) (by omega) hil i 0 n true (by omega) (by omega)
    rw [loop_suc, q8Step, decide_eq_true (by omega), frk_t]
    refine r.trans ?_
    obtain ⟨a, ha, e⟩ := hg.val _ (gi_mem hil)
    have ht : g.take (i + 1) = g.take i ++ [(a : Int)] := by rw [List.take_add_one, gi_some hil, e]; rfl
    have hs := nd_snoc (N := N) (g.take i) ha
    have hnd := nd_le N (g.take i)
    have ih' := ih (i + 1) m (by omega) (by omega)
    rw [ht, hs] at ih'
    have hall : (true && (List.range' 0 i).all fun t => gi g t != gi g i) = decide ((a : Int) ∉ g.take i) := by
      rw [Bool.true_and, Bool.eq_iff_iff, List.all_eq_true, decide_eq_true_iff]
      constructor
      · intro h hin
        obtain ⟨t, htl, et⟩ := List.getElem_of_mem hin
        rw [List.length_take] at htl
        have := h t (List.mem_range'_1.2 (by omega))
        rw [e, bne_iff_ne] at this
        apply this
        rw [List.getElem_take] at et
        unfold gi; rw [List.getElem?_eq_getElem (by omega)]; exact et
      · intro h t ht'
        rw [List.mem_range'_1] at ht'
        rw [bne_iff_ne]
        intro e'
        apply h
        rw [← e, ← e']
        have : (g.take i)[t]? = some (gi g t) := by rw [List.getElem?_take_of_lt (by omega)]; exact gi_some (by omega)
        exact List.mem_of_getElem? this
    rw [hall]
    by_cases hin : (a : Int) ∈ g.take i
    · rw [decide_eq_false (fun h => h hin), frk_f]
      rw [if_pos hin] at ih'
      exact ih'
    · rw [decide_eq_true hin, frk_t, ws (by omega)]
      rw [if_neg hin] at ih'
      exact ih'
theorem q10Step (n : Nat) (L : List (List Pl)) (Pm : List Pl) (rec0 : Q2 → Option Int) (k : Int) (g : List Int) : Dspec_Pieces_10 n L Pm rec0 (k, g) = frk (decide (k < (L.length : Int))) (chk (apB 8 (g.length + 1)) (rec0 (w64 (k + 1), (g ++ [k])))) (Dspec_Pieces_0 n L Pm 0 g) := rfl
theorem aQ8 {n : Nat} (h : n ≤ 1000000) : apB 8 n = true := by
  unfold apB; simp only [Bool.and_eq_true, decide_eq_true_eq]; omega
theorem sIni (n : Nat) {L : List (List Pl)} (hL : L.length ≤ 1000) (Pm : List Pl) : ∀ (d k m : Nat), k + d = L.length → d < m → loopN (Dspec_Pieces_10 n L Pm) m ((k : Int), g0 k) = Dspec_Pieces_0 n L Pm 0 (g0 L.length) := by
  intro d
  induction d with
  | zero =>
    intro k m hk hm
    obtain ⟨m, rfl⟩ : ∃ x, m = x + 1 := ⟨m - 1, by omega⟩
    obtain rfl : k = L.length := by omega
    rw [loop_suc, q10Step, decide_eq_false (by omega), frk_f]
  | succ d ih =>
    intro k m hk hm
    obtain ⟨m, rfl⟩ : ∃ x, m = x + 1 := ⟨m - 1, by omega⟩
    have hl := (g0_grp k).len
    rw [loop_suc, q10Step, decide_eq_true (by omega), frk_t, chk_eq (aQ8 (by omega)), ws (by omega), show g0 k ++ [(k : Int)] = g0 (k + 1) by unfold g0; rw [List.range_succ, List.map_append]; rfl]
    exact ih (k + 1) m (by omega) (by omega)
theorem sPieces (n : Nat) (hn : 2000 ≤ n) {L : List (List Pl)} (hL : L.length ≤ 1000) {Pm : List Pl} (hPm : Pm.length ≤ 1000) {M : Nat → Nat → Pl → Bool} (hM : ∀ i j p, i < L.length → j < L.length → p ∈ Pm → Dspec_l13Meet n (cl L i) (cl L j) p = some (M i j p)) :
    loopN (Dspec_Pieces_10 n L Pm) n (0, []) = some (nd L.length ((List.range' 0 L.length).foldl (inG fun i j => Pm.any (M i j)) (g0 L.length)) : Int) := by
  have h1 := sIni n hL Pm L.length 0 n (by omega) (by omega)
  refine h1.trans ?_
  unfold Dspec_Pieces_0
  have h2 := sOutP n hn hL hPm hM L.length 0 n (g0 L.length) (by omega) (by omega) (g0_grp _)
  refine h2.trans ?_
  unfold Dspec_Pieces_5
  have hgr : ∀ (d i : Nat) (g : List Int), i + d ≤ L.length → Grp L.length g → Grp L.length ((List.range' i d).foldl (inG fun i j => Pm.any (M i j)) g) := by
    intro d
    induction d with
    | zero => intro i g _ h; exact h
    | succ d ih =>
      intro i g hi h
      rw [List.range'_succ, List.foldl_cons]
      exact ih (i + 1) _ (by omega) (fold_grp (by omega) i 0 g (by omega) h)
  have hg := hgr L.length 0 (g0 L.length) (by omega) (g0_grp _)
  have h3 := sCount n hn hL hg ((List.range' 0 L.length).foldl (inG fun i j => Pm.any (M i j)) (g0 L.length)).length 0 n (by omega) (by rw [hg.len]; omega)
  rw [List.take_zero, nd_nil] at h3
  exact h3
end Evl.T

/-! Eej -/
namespace Evl.T
open Go Evl

/-! a tree's cells -/
structure CelB (c : List Pl) : Prop where
  ok : ∀ q ∈ c, pOk q = true
  len : c.length ≤ 24
theorem ok_flpB {p : Pl} (h : pOk p = true) : pOk (flp p) = true := by
  have hp := pOk_PB h
  unfold pOk at h ⊢
  revert h
  obtain ⟨a, b, c, d⟩ := p
  obtain ⟨h1, h2, h3, h4⟩ := hp
  unfold B at h1 h2 h3 h4
  simp only at h1 h2 h3 h4
  unfold flp
  simp only [Int.zero_sub, Int.natAbs_neg, Bool.and_eq_true, Bool.or_eq_true, decide_eq_true_eq, bne_iff_ne, ne_eq, beq_iff_eq, rIn_iff, Int.neg_eq_zero]
  omega
theorem CelB.snoc {c : List Pl} {p : Pl} (h : CelB c) (hl : c.length < 24) (hp : pOk p = true) : CelB (c ++ [p]) :=
  ⟨fun q hq => by
    rcases List.mem_append.1 hq with hq | hq
    · exact h.ok q hq
    · rw [List.mem_singleton.1 hq]; exact hp, by rw [List.length_append, List.length_singleton]; omega⟩
theorem sClStepB (n : Nat) (self : (Sol × Bool × (List Pl)) → Option (List (List Pl))) (s : Sol) (b : Bool) (path : List Pl) :
    Dspec_l8Cells_b n self (s, b, path) = (Dspec_l8Leaf s).bind fun v0 => frk v0 (frk (s.inn == b) (chk (apB 32 (0 + path.length)) (some [([] ++ path)])) (some [])) ((lget s.kids 0).bind fun v2 => (Dspec_l8Path path s.pl).bind fun v3 => (self (v2, b, v3)).bind fun v4 => (lget s.kids 1).bind fun v5 => (Dspec_l3Flip s.pl).bind fun v6 => (Dspec_l8Path path v6).bind fun v7 => (self (v5, b, v7)).bind fun v8 => chk (apB 24 (v4.length + v8.length)) (some (v4 ++ v8))) := rfl
theorem iClStepB (n : Nat) (self : (Sol × Bool × (List Pl)) → Option (List (List Pl))) (s : Sol) (b : Bool) (path : List Pl) :
    Dimpl_Solid_cells_b n self (s, b, path) = (Dimpl_Solid_isLeaf s).bind fun v0 => frk v0 (frk (s.inn == b) ((Dslices_Clone path).bind fun v1 => some [v1]) (some [])) ((lget s.kids 0).bind fun v2 => (Dimpl_with path s.pl).bind fun v3 => (self (v2, b, v3)).bind fun v4 => (lget s.kids 1).bind fun v5 => (Dimpl_flip s.pl).bind fun v6 => (Dimpl_with path v6).bind fun v7 => (self (v5, b, v7)).bind fun v8 => chk (apB 24 (v4.length + v8.length)) (some (v4 ++ v8))) := rfl
theorem aB24B {n : Nat} (h : n ≤ 1000000) : apB 24 n = true := by
  unfold apB; simp only [Bool.and_eq_true, decide_eq_true_eq]; omega
theorem aBig {n : Nat} (h : n ≤ 1000000000) : apB 32 n = true := by
  unfold apB; simp only [Bool.and_eq_true, decide_eq_true_eq]; omega
theorem clnB {l : List Pl} (h : l.length ≤ 1000) : Dslices_Clone l = some l := by
  unfold Dslices_Clone
  rw [chk_eq (aBig (by omega))]; rfl
theorem cellsB {s : Sol} {path : List Pl} (h : Rt s path) : CelB path → ∃ L : List (List Pl), (∀ c ∈ L, CelB c) ∧ L.length ≤ nod s + 1 ∧ E2 fun n m => nod s ≤ 1000 → loopN (Dspec_l8Cells_b n) m (s, true, path) = some L ∧ loopN (Dimpl_Solid_cells_b n) m (s, true, path) = some L := by
  induction h with
  | @leaf i p path hz =>
    intro hc
    have hl := hc.len
    cases i with
    | true =>
      refine ⟨[path], fun c h => by rw [List.mem_singleton.1 h]; exact hc, by simp, E2.suc (E2.of fun n m _ => ⟨?_, ?_⟩)⟩
      · rw [loop_suc, sClStepB]
        show frk true _ _ = _
        rw [frk_t]
        show frk true _ _ = _
        rw [frk_t, chk_eq (aBig (by omega))]; rfl
      · rw [loop_suc, iClStepB]
        show frk true _ _ = _
        rw [frk_t]
        show frk true _ _ = _
        rw [frk_t, clnB (by omega)]; rfl
    | false => exact ⟨[], by simp, by simp, E2.suc (E2.of fun n m _ => ⟨by rw [loop_suc, sClStepB]; rfl, by rw [loop_suc, iClStepB]; rfl⟩)⟩
  | @node p x y path hp hl h1 h2 _ _ ihx ihy =>
    intro hc
    have hpb := pOk_PB hp
    obtain ⟨L1, c1, l1, e1⟩ := ihx (hc.snoc hl hp)
    obtain ⟨L2, c2, l2, e2⟩ := ihy (hc.snoc hl (ok_flpB hp))
    refine ⟨L1 ++ L2, fun c h => (List.mem_append.1 h).elim (c1 c) (c2 c), by rw [List.length_append, nod2]; omega, E2.suc ((e1.and e2).mono fun n m ⟨g1, g2⟩ hn => ?_)⟩
    rw [nod2] at hn
    obtain ⟨p1, p2⟩ := g1 (by omega)
    obtain ⟨p3, p4⟩ := g2 (by omega)
    refine ⟨?_, ?_⟩
    · rw [loop_suc, sClStepB]
      show ((Dspec_l8Path path p).bind fun v3 => (loopN (Dspec_l8Cells_b n) m (x, true, v3)).bind fun v4 => (Dspec_l3Flip p).bind fun v6 => (Dspec_l8Path path v6).bind fun v7 => (loopN (Dspec_l8Cells_b n) m (y, true, v7)).bind fun v8 => chk (apB 24 (v4.length + v8.length)) (some (v4 ++ v8))) = _
      rw [sPath _ _ (by omega), Option.bind_some, p1, Option.bind_some, sFlip p hpb, Option.bind_some, sPath _ _ (by omega), Option.bind_some, p3, Option.bind_some, chk_eq (aB24B (by omega))]
    · rw [loop_suc, iClStepB]
      show ((Dimpl_with path p).bind fun v3 => (loopN (Dimpl_Solid_cells_b n) m (x, true, v3)).bind fun v4 => (Dimpl_flip p).bind fun v6 => (Dimpl_with path v6).bind fun v7 => (loopN (Dimpl_Solid_cells_b n) m (y, true, v7)).bind fun v8 => chk (apB 24 (v4.length + v8.length)) (some (v4 ++ v8))) = _
      rw [iPath _ _ (by omega), Option.bind_some, p2, Option.bind_some, iFlip p hpb, Option.bind_some, iPath _ _ (by omega), Option.bind_some, p4, Option.bind_some, chk_eq (aB24B (by omega))]
end Evl.T

/-! Eek -/
namespace Evl.T
open Go Evl

theorem cellsP {s : Sol} {path : List Pl} (h : Rt s path) : CelB path → ∃ L : List (List Pl), (∀ c ∈ L, CelB c ∧ ∀ q ∈ c, q ∈ path ∨ Gn s (gtr q)) ∧ L.length ≤ nod s + 1 ∧ E2 fun n m => nod s ≤ 1000 → loopN (Dspec_l8Cells_b n) m (s, true, path) = some L ∧ loopN (Dimpl_Solid_cells_b n) m (s, true, path) = some L := by
  induction h with
  | @leaf i p path hz =>
    intro hc
    have hl := hc.len
    cases i with
    | true =>
      refine ⟨[path], fun c h => by rw [List.mem_singleton.1 h]; exact ⟨hc, fun q hq => .inl hq⟩, by simp, E2.suc (E2.of fun n m _ => ⟨?_, ?_⟩)⟩
      · rw [loop_suc, sClStepB]
        show frk true _ _ = _
        rw [frk_t]
        show frk true _ _ = _
        rw [frk_t, chk_eq (aBig (by omega))]; rfl
      · rw [loop_suc, iClStepB]
        show frk true _ _ = _
        rw [frk_t]
        show frk true _ _ = _
        rw [frk_t, clnB (by omega)]; rfl
    | false => exact ⟨[], by simp, by simp, E2.suc (E2.of fun n m _ => ⟨by rw [loop_suc, sClStepB]; rfl, by rw [loop_suc, iClStepB]; rfl⟩)⟩
  | @node p x y path hp hl h1 h2 _ _ ihx ihy =>
    intro hc
    have hpb := pOk_PB hp
    obtain ⟨L1, c1, l1, e1⟩ := ihx (hc.snoc hl hp)
    obtain ⟨L2, c2, l2, e2⟩ := ihy (hc.snoc hl (ok_flpB hp))
    have k1 : ∀ c ∈ L1, CelB c ∧ ∀ q ∈ c, q ∈ path ∨ Gn (.mk false p [x, y]) (gtr q) := fun c h => ⟨(c1 c h).1, fun q hq => by
      rcases (c1 c h).2 q hq with hq | hq
      · rcases List.mem_append.1 hq with hq | hq
        · exact .inl hq
        · rw [List.mem_singleton.1 hq]; exact .inr .here
      · exact .inr (.left hq)⟩
    have k2 : ∀ c ∈ L2, CelB c ∧ ∀ q ∈ c, q ∈ path ∨ Gn (.mk false p [x, y]) (gtr q) := fun c h => ⟨(c2 c h).1, fun q hq => by
      rcases (c2 c h).2 q hq with hq | hq
      · rcases List.mem_append.1 hq with hq | hq
        · exact .inl hq
        · rw [List.mem_singleton.1 hq, gtr_flp (pOk_Nz hp)]; exact .inr .here
      · exact .inr (.right hq)⟩
    refine ⟨L1 ++ L2, fun c h => (List.mem_append.1 h).elim (k1 c) (k2 c), by rw [List.length_append, nod2]; omega, E2.suc ((e1.and e2).mono fun n m ⟨g1, g2⟩ hn => ?_)⟩
    rw [nod2] at hn
    obtain ⟨p1, p2⟩ := g1 (by omega)
    obtain ⟨p3, p4⟩ := g2 (by omega)
    refine ⟨?_, ?_⟩
    · rw [loop_suc, sClStepB]
      show ((Dspec_l8Path path p).bind fun v3 => (loopN (Dspec_l8Cells_b n) m (x, true, v3)).bind fun v4 => (Dspec_l3Flip p).bind fun v6 => (Dspec_l8Path path v6).bind fun v7 => (loopN (Dspec_l8Cells_b n) m (y, true, v7)).bind fun v8 => chk (apB 24 (v4.length + v8.length)) (some (v4 ++ v8))) = _
      rw [sPath _ _ (by omega), Option.bind_some, p1, Option.bind_some, sFlip p hpb, Option.bind_some, sPath _ _ (by omega), Option.bind_some, p3, Option.bind_some, chk_eq (aB24B (by omega))]
    · rw [loop_suc, iClStepB]
      show ((Dimpl_with path p).bind fun v3 => (loopN (Dimpl_Solid_cells_b n) m (x, true, v3)).bind fun v4 => (Dimpl_flip p).bind fun v6 => (Dimpl_with path v6).bind fun v7 => (loopN (Dimpl_Solid_cells_b n) m (y, true, v7)).bind fun v8 => chk (apB 24 (v4.length + v8.length)) (some (v4 ++ v8))) = _
      rw [iPath _ _ (by omega), Option.bind_some, p2, Option.bind_some, iFlip p hpb, Option.bind_some, iPath _ _ (by omega), Option.bind_some, p4, Option.bind_some, chk_eq (aB24B (by omega))]
open Classical in
theorem piecesEq (a : Sol) (ha : Lens a) : ∃ v : Int, Ev fun n => Dspec_Pieces n a = some v ∧ Dimpl_Pieces n a = some v := by
  have e1 := sSolidOk a ha
  have e2 := iSolidOk a
  by_cases hr : Right a
  · obtain ⟨L, c1, c2, hE⟩ := cellsP hr.1 ⟨by simp, by simp⟩
    have hn := hr.2
    obtain ⟨Pm, p1, p2, p3⟩ := sPls hr.1 [] (by simp; omega)
    simp only [List.not_mem_nil, false_or, List.length_nil, Nat.zero_add] at p1 p2
    have hP : ∀ m ∈ Pm, PB m ∧ Nz m ∧ gtr m = m := fun m hm => by
      obtain ⟨r, hr', e⟩ := ((p1 m).1 hm).of hr.1
      have hz := pOk_Nz hr'
      have hb := pOk_PB hr'
      subst e
      refine ⟨?_, ?_, gtr_gtr hz⟩
      · rcases gtr_or r with e | e <;> rw [e]
        · exact hb
        · exact flp_PB hb
      · rcases gtr_or r with e | e <;> rw [e]
        · exact hz
        · exact Nz_flpQ hz
    have hc : ∀ c ∈ L, (∀ q ∈ c, PB q ∧ Nz q) ∧ c.length ≤ 24 ∧ ∀ q ∈ c, gtr q ∈ Pm := fun c h => ⟨fun q hq => ⟨pOk_PB ((c1 c h).1.ok q hq), pOk_Nz ((c1 c h).1.ok q hq)⟩, (c1 c h).1.len, fun q hq => (p1 _).2 (((c1 c h).2 q hq).elim (fun h => by simp at h) id)⟩
    have hM : Ev fun n => ∀ c ∈ L, ∀ d ∈ L, ∀ p ∈ Pm, Dspec_l13Meet n c d p = some (meetB c d p) := Ev.all fun c hcL => Ev.all fun d hdL => Ev.all fun p hpm => sMeet13 (hc c hcL).1 (hc d hdL).1 (hc c hcL).2.1 (hc d hdL).2.1 (hP p hpm).1 (hP p hpm).2.2
    refine ⟨(nd L.length ((List.range' 0 L.length).foldl (inG fun i j => Pm.any fun p => meetB (cl L i) (cl L j) p) (g0 L.length)) : Int), (e1.and (e2.and (hE.ev.and (p3.ev.and (hM.and (e_ge 2000)))))).mono fun n ⟨g1, g2, g3, g4, g5, hn'⟩ => ?_⟩
    obtain ⟨g6, g7⟩ := g3 (by omega)
    rw [decide_eq_true hr] at g1 g2
    have s1 := sPieces n hn' (L := L) (by omega) (Pm := Pm) (by omega) (M := fun i j p => meetB (cl L i) (cl L j) p) (fun i j p hi hj hp => g5 _ (cl_mem hi) _ (cl_mem hj) p hp)
    have s2 := iPieces n hn' (L := L) (by omega) (T := fun i j => Pm.any fun p => meetB (cl L i) (cl L j) p) (fun i j hi hj => by
      have hi' := hc _ (cl_mem hi)
      have hj' := hc _ (cl_mem hj)
      rw [iTouch hi'.1 hj'.1 hi'.2.1 hj'.2.1 n hn', touch_eq (Pm := Pm) (fun q hq => (hi'.1 q hq).2) (fun m hm => (hP m hm).2) hi'.2.2])
    have hmk : mkB (L.length : Int) 8 = true := by simp only [mkB, Bool.and_eq_true, decide_eq_true_eq]; omega
    constructor
    · unfold Dspec_Pieces Dspec_Cells Dspec_PlanesOf Dspec_l8Cells Dspec_l8Planeso1
      rw [g1, Option.bind_some, Bool.not_true, frk_f, g6, Option.bind_some, Option.bind_some, Option.bind_some, Bool.not_true, frk_f, g4, Option.bind_some, Option.bind_some]
      exact s1
    · unfold Dimpl_Pieces Dimpl_Solid_cells
      rw [g2, Option.bind_some, Bool.not_true, frk_f, g7, Option.bind_some, chk_eq hmk]
      exact s2
  · refine ⟨0, (e1.and (e2.and (e_ge 2000))).mono fun n ⟨g1, g2, hn⟩ => ?_⟩
    rw [decide_eq_false hr] at g1 g2
    have s1 := sPieces n hn (L := []) (by simp) (Pm := []) (by simp) (M := fun _ _ _ => true) (fun i j p hi => by simp at hi)
    unfold Dspec_Pieces Dimpl_Pieces Dspec_Cells Dspec_PlanesOf
    rw [g1, g2]
    exact ⟨s1, rfl⟩
theorem oneSolC (a : Sol) (ha : Lens a) (L : Nat → Option Bool)
    (h1 : Ev fun n => Dlaws_szSolid n a 1048576 = some (-1) → L n = some true)
    (h2 : (tot a : Int) ≤ 1048576 → Ev fun n => Dlaws_szSolid n a 1048576 = some (1048576 - (tot a : Int)) → Dlaws_toSolid n a = some a → Dlaws_eqSolid n a a = some true → L n = some true) : ∃ n, L n = some true := by
  have e1 := sz a ha
  by_cases ht : (tot a : Int) ≤ 1048576
  · obtain ⟨N, hN⟩ := ((h2 ht).and (e1.and ((to a (by omega)).and (eqs a (by omega)))))
    obtain ⟨k0, k1, k2, k3⟩ := hN N (Nat.le_refl N)
    rw [szv_yes ht] at k1
    exact ⟨N, k0 k1 k2 k3⟩
  · obtain ⟨N, hN⟩ := (h1.and e1)
    obtain ⟨k0, k1⟩ := hN N (Nat.le_refl N)
    rw [szv_no ht] at k1
    exact ⟨N, k0 k1⟩
theorem plain_Pieces (a : Sol) (ha : Lens a) : ∃ n, Dlaws_FnExactPieces n a = some true := by
  obtain ⟨v, hv⟩ := piecesEq a ha
  refine oneSolC a ha (fun n => Dlaws_FnExactPieces n a) (Ev.of fun n k1 => ?_) (fun ht => hv.mono fun n ⟨f1, f2⟩ k1 k2 k3 => ?_)
  · simp only [Dlaws_FnExactPieces, k1, Option.bind_some]; rfl
  · simp only [Dlaws_FnExactPieces, k1, k2, k3, f1, f2, Option.bind_some, bne_self_eq_false, Bool.not_true, frk_f]
    rw [decide_eq_false (by omega), frk_f]
end Evl.T
