/- Texts that belong together, joined. No condition. -/
import Derived.Test.YtpjeibdllddkjaaJp
/-! Epl -/
namespace Evl.T
open Go Evl

theorem wth_iff (l : List Pl) (p : Pl) : wth l p = true ↔ ∃ i, i < l.length ∧ (cl2 (gt l i) p = true ∨ ∃ j, i < j ∧ j < l.length ∧ (cl3 (gt l i) (gt l j) p = true ∨ ∃ k, j < k ∧ k < l.length ∧ cl4 (gt l i) (gt l j) (gt l k) p = true)) := by
  unfold wth sAny3 sAny4
  simp only [List.any_eq_true, List.mem_range'_1, Bool.or_eq_true]
  constructor
  · rintro ⟨i, hi, h | ⟨j, hj, h | ⟨k, hk, h⟩⟩⟩
    · exact ⟨i, by omega, .inl h⟩
    · exact ⟨i, by omega, .inr ⟨j, by omega, by omega, .inl h⟩⟩
    · exact ⟨i, by omega, .inr ⟨j, by omega, by omega, .inr ⟨k, by omega, by omega, h⟩⟩⟩
  · rintro ⟨i, hi, h | ⟨j, hj, hj2, h | ⟨k, hk, hk2, h⟩⟩⟩
    · exact ⟨i, by omega, .inl h⟩
    · exact ⟨i, by omega, .inr ⟨j, by omega, .inl h⟩⟩
    · exact ⟨i, by omega, .inr ⟨j, by omega, .inr ⟨k, by omega, h⟩⟩⟩
/-- One plane less: no clash comes. -/
theorem wth_less {l1 l2 : List Pl} {x p : Pl} (h : wth (l1 ++ x :: l2) p = false) : wth (l1 ++ l2) p = false := by
  have key : ¬ wth (l1 ++ x :: l2) p = true := by simp [h]
  rw [← Bool.not_eq_true]
  intro h2
  apply key
  rw [wth_iff] at h2 ⊢
  let f : Nat → Nat := fun i => if i < l1.length then i else i + 1
  have fd : ∀ i, f i = if i < l1.length then i else i + 1 := fun _ => rfl
  have f1 : ∀ i j, i < j → f i < f j := fun i j hij => by
    rw [fd, fd]
    split <;> split <;> omega
  have f2 : ∀ i, i < (l1 ++ l2).length → f i < (l1 ++ x :: l2).length := fun i hi => by
    simp only [List.length_append, List.length_cons] at hi ⊢
    rw [fd]
    split <;> omega
  have f3 : ∀ i, gt (l1 ++ x :: l2) (f i) = gt (l1 ++ l2) i := fun i => by
    unfold gt
    show (((l1 ++ x :: l2)[if i < l1.length then i else i + 1]?).getD _) = _
    split
    · rename_i hi; rw [List.getElem?_append_left hi, List.getElem?_append_left hi]
    · rename_i hi
      rw [List.getElem?_append_right (by omega), List.getElem?_append_right (by omega), show i + 1 - l1.length = (i - l1.length) + 1 by omega, List.getElem?_cons_succ]
  obtain ⟨i, hi, h | ⟨j, hj, hj2, h | ⟨k, hk, hk2, h⟩⟩⟩ := h2
  · exact ⟨f i, f2 i hi, .inl (by rw [f3]; exact h)⟩
  · exact ⟨f i, f2 i hi, .inr ⟨f j, f1 _ _ hj, f2 j hj2, .inl (by rw [f3, f3]; exact h)⟩⟩
  · exact ⟨f i, f2 i hi, .inr ⟨f j, f1 _ _ hj, f2 j hj2, .inr ⟨f k, f1 _ _ hk, f2 k hk2, by rw [f3, f3, f3]; exact h⟩⟩⟩
theorem Rt.less {s : Sol} {path : List Pl} (h : Rt s path) : ∀ (l1 l2 : List Pl) (x : Pl), path = l1 ++ x :: l2 → Rt s (l1 ++ l2) := by
  induction h with
  | leaf hz => intro _ _ _ _; exact .leaf hz
  | @node p a b path h1 h2 h3 h4 _ _ iha ihb =>
    intro l1 l2 x e
    subst e
    refine .node h1 (by simp at h2 ⊢; omega) (wth_less h3) (wth_less h4) ?_ ?_
    · have := iha l1 (l2 ++ [p]) x (by simp)
      simpa using this
    · have := ihb l1 (l2 ++ [flp p]) x (by simp)
      simpa using this
theorem Rt.lens {s : Sol} {path : List Pl} (h : Rt s path) : Lens s := by
  induction h with
  | leaf hz => exact .mk (by simp [big]) (by simp)
  | node _ _ _ _ _ _ iha ihb =>
    refine .mk (by simp [big]) fun x hx => ?_
    simp only [List.mem_cons, List.not_mem_nil, or_false] at hx
    rcases hx with rfl | rfl
    · exact iha
    · exact ihb

/-! the same tree -/
def plEq (p q : Pl) : Bool := p.A == q.A && (p.B == q.B && (p.C == q.C && (p.D == q.D && true)))
theorem plEq_iff (p q : Pl) : plEq p q = true ↔ p = q := by
  cases p; cases q; simp [plEq]
theorem plEq_no {p q : Pl} (h : p ≠ q) : plEq p q = false := by
  rw [← Bool.not_eq_true, plEq_iff]; exact h
theorem sSameStep (n : Nat) (self : Sol × Sol → Option Bool) (i j : Bool) (p q : Pl) (k l : List Sol) : Dspec_SameTree_b n self (.mk i p k, .mk j q l) =
    frk (!(i == j)) (some false) (frk (!(plEq p q)) (some false) (frk ((k.length : Int) != (l.length : Int)) (some false) (loopN (Dspec_SameTree_1 n self i p.A p.B p.C p.D k j q.A q.B q.C q.D l) n 0))) := rfl
theorem iSameStep (n : Nat) (self : Sol × Sol → Option Bool) (i j : Bool) (p q : Pl) (k l : List Sol) : Dimpl_SameTree_b n self (.mk i p k, .mk j q l) =
    frk (i == j) (frk (plEq p q) ((frk ((k.length : Int) != (l.length : Int)) (some false) (loopN (Dslices_EqualFuncf80_in_0 n self l k (k.length : Int)) n 0)).bind fun v0 => some v0) (some false)) (some false) := rfl
open Classical in
theorem kidsLoop (self : Sol × Sol → Option Bool) (F : (Int → Option Bool) → Int → Option Bool) (k l : List Sol) (hl : k.length ≤ big) (hkl : k.length = l.length) (hs : ∀ x ∈ k, ∀ y, self (x, y) = some (decide (x = y)))
    (hF : ∀ rec (t : Int), F rec t = frk (decide (t < (k.length : Int))) ((lget k t).bind fun v0 => (lget l t).bind fun v1 => (self (v0, v1)).bind fun v2 => frk (!v2) (some false) (rec (w64 (t + 1)))) (some true)) (n : Nat) (hn : k.length < n) :
    loopN F n 0 = some (decide (k = l)) := by
  have := search (F := F) (len := k.length) (b := fun t => decide (k[t]? ≠ l[t]?)) (hit := some false) (miss := some true) hl ?_ ?_ k.length 0 n (by omega) hn
  · rw [show (0 : Int) = ((0 : Nat) : Int) from rfl, this]
    by_cases h : k = l
    · subst h
      have : (List.range' 0 k.length).any (fun t => decide (k[t]? ≠ k[t]?)) = false := by simp
      rw [this]; simp
    · have : (List.range' 0 k.length).any (fun t => decide (k[t]? ≠ l[t]?)) = true := by
        rw [List.any_eq_true]
        apply Classical.byContradiction
        intro hno
        apply h
        apply List.ext_getElem?
        intro t
        rcases Nat.lt_or_ge t k.length with ht | ht
        · apply Classical.byContradiction
          intro hne
          exact hno ⟨t, by simp; omega, by simpa using hne⟩
        · rw [List.getElem?_eq_none ht, List.getElem?_eq_none (by omega)]
      rw [this]; simp [h]
  · intro rec t ht
    obtain ⟨x, hx⟩ : ∃ x, k[t]? = some x := ⟨k[t], List.getElem?_eq_getElem ht⟩
    obtain ⟨y, hy⟩ : ∃ y, l[t]? = some y := ⟨l[t]'(by omega), List.getElem?_eq_getElem (by omega)⟩
    rw [hF, lt_dec ht, frk_t, lget_nat, lget_nat, hx, hy, Option.bind_some, Option.bind_some, hs x (List.mem_of_getElem? hx) y, Option.bind_some]
    by_cases h : x = y
    · subst h; simp [frk_f]
    · simp [h, frk_t]
  · intro rec
    rw [hF, lt_self, frk_f]
open Classical in
theorem sSame : ∀ a, Lens a → E2 fun n m => ∀ b, loopN (Dspec_SameTree_b n) m (a, b) = some (decide (a = b)) := by
  refine sol_ind fun i p k ih hl => ?_
  cases hl with
  | mk hk hx =>
    have h1 := E2.all fun x hxm => ih x hxm (hx x hxm)
    have h2 : E2 fun n _ => k.length < n := ⟨k.length + 1, fun n hn _ _ => by omega⟩
    refine E2.suc ((h1.and h2).mono fun n m ⟨h1, h2⟩ b => ?_)
    obtain ⟨j, q, l⟩ := b
    rw [loop_suc, sSameStep]
    by_cases e1 : i = j
    · subst e1
      rw [beq_self_eq_true, Bool.not_true, frk_f]
      by_cases e2 : p = q
      · subst e2
        rw [(plEq_iff p p).2 rfl, Bool.not_true, frk_f]
        by_cases e3 : k.length = l.length
        · rw [show ((k.length : Int) != (l.length : Int)) = false by simp [e3], frk_f, kidsLoop _ (Dspec_SameTree_1 n (loopN (Dspec_SameTree_b n) m) i p.A p.B p.C p.D k i p.A p.B p.C p.D l) k l hk e3 h1 (fun _ _ => rfl) n h2]
          simp
        · rw [show ((k.length : Int) != (l.length : Int)) = true by simp; omega, frk_t]
          have : k ≠ l := fun e => e3 (by rw [e])
          simp [this]
      · rw [plEq_no e2, Bool.not_false, frk_t]; simp [e2]
    · rw [show (i == j) = false by simp [e1], Bool.not_false, frk_t]; simp [e1]
open Classical in
theorem iSame : ∀ a, Lens a → E2 fun n m => ∀ b, loopN (Dimpl_SameTree_b n) m (a, b) = some (decide (a = b)) := by
  refine sol_ind fun i p k ih hl => ?_
  cases hl with
  | mk hk hx =>
    have h1 := E2.all fun x hxm => ih x hxm (hx x hxm)
    have h2 : E2 fun n _ => k.length < n := ⟨k.length + 1, fun n hn _ _ => by omega⟩
    refine E2.suc ((h1.and h2).mono fun n m ⟨h1, h2⟩ b => ?_)
    obtain ⟨j, q, l⟩ := b
    rw [loop_suc, iSameStep]
    by_cases e1 : i = j
    · subst e1
      rw [beq_self_eq_true, frk_t]
      by_cases e2 : p = q
      · subst e2
        rw [(plEq_iff p p).2 rfl, frk_t]
        by_cases e3 : k.length = l.length
        · rw [show ((k.length : Int) != (l.length : Int)) = false by simp [e3], frk_f, kidsLoop _ (Dslices_EqualFuncf80_in_0 n (loopN (Dimpl_SameTree_b n) m) l k (k.length : Int)) k l hk e3 h1 (fun _ _ => rfl) n h2]
          simp
        · rw [show ((k.length : Int) != (l.length : Int)) = true by simp; omega, frk_t]
          have : k ≠ l := fun e => e3 (by rw [e])
          simp [this]
      · rw [plEq_no e2, frk_f]; simp [e2]
    · rw [show (i == j) = false by simp [e1], frk_f]; simp [e1]

/-! tidying -/
theorem sTidyStep (n : Nat) (self : Sol → Option Sol) (i : Bool) (p : Pl) (k : List Sol) : Dspec_l12Tidy_b n self (.mk i p k) = frk ((k.length : Int) == 0) (some (.mk i ⟨0, 0, 0, 0⟩ [])) ((lget k 0).bind fun v2 => (self v2).bind fun v3 => (lget k 1).bind fun v4 => (self v4).bind fun v5 => (loopN (Dspec_SameTree_b n) n (v3, v5)).bind fun v6 => frk v6 (some v3) (some (.mk false p [v3, v5]))) := rfl
theorem iTidyStep (n : Nat) (self : Sol → Option Sol) (i : Bool) (p : Pl) (k : List Sol) : Dimpl_tidy_b n self (.mk i p k) = frk ((k.length : Int) == 0) (some (.mk i ⟨0, 0, 0, 0⟩ [])) ((lget k 0).bind fun v2 => (self v2).bind fun v3 => (lget k 1).bind fun v4 => (self v4).bind fun v5 => (loopN (Dimpl_SameTree_b n) n (v3, v5)).bind fun v6 => frk v6 (some v3) (some (.mk false p [v3, v5]))) := rfl
theorem iNodesStep (n : Nat) (self : Sol → Option Int) (i : Bool) (p : Pl) (k : List Sol) : Dimpl_Solid_nodes_b n self (.mk i p k) = frk ((k.length : Int) == 0) (some 0) ((lget k 0).bind fun v1 => (self v1).bind fun v2 => (lget k 1).bind fun v3 => (self v3).bind fun v4 => some (w64 ((w64 (1 + v2)) + v4))) := rfl
open Classical in
theorem tidied {s : Sol} {path : List Pl} (h : Rt s path) : ∃ t, Rt t path ∧ nod t ≤ nod s ∧ (E2 fun n m => loopN (Dspec_l12Tidy_b n) m s = some t) ∧ E2 fun n m => loopN (Dimpl_tidy_b n) m s = some t := by
  induction h with
  | @leaf i p path hz =>
    refine ⟨.mk i ⟨0, 0, 0, 0⟩ [], .leaf rfl, by rw [nod_leaf, nod_leaf]; omega, E2.suc (E2.of fun n m => ?_), E2.suc (E2.of fun n m => ?_)⟩
    · rw [loop_suc, sTidyStep]; rfl
    · rw [loop_suc, iTidyStep]; rfl
  | @node p a b path h1 h2 h3 h4 _ _ iha ihb =>
    obtain ⟨ta, ra, na, sa, ia⟩ := iha
    obtain ⟨tb, rb, nb, sb, ib⟩ := ihb
    have ss := (sSame ta ra.lens).ev.e2
    have is := (iSame ta ra.lens).ev.e2
    have S : E2 fun n m => loopN (Dspec_l12Tidy_b n) (m + 1) (.mk false p [a, b]) = if ta = tb then some ta else some (.mk false p [ta, tb]) := (sa.and (sb.and ss)).mono fun n m ⟨sa, sb, ss⟩ => by
      rw [loop_suc, sTidyStep, show ((([a, b] : List Sol).length : Int) == 0) = false from rfl, frk_f]
      show ((some a).bind _) = _
      rw [Option.bind_some, sa, Option.bind_some]
      show ((some b).bind _) = _
      rw [Option.bind_some, sb, Option.bind_some, ss tb, Option.bind_some]
      by_cases e : ta = tb
      · rw [if_pos e, decide_eq_true e, frk_t]
      · rw [if_neg e, decide_eq_false e, frk_f]
    have I : E2 fun n m => loopN (Dimpl_tidy_b n) (m + 1) (.mk false p [a, b]) = if ta = tb then some ta else some (.mk false p [ta, tb]) := (ia.and (ib.and is)).mono fun n m ⟨sa, sb, ss⟩ => by
      rw [loop_suc, iTidyStep, show ((([a, b] : List Sol).length : Int) == 0) = false from rfl, frk_f]
      show ((some a).bind _) = _
      rw [Option.bind_some, sa, Option.bind_some]
      show ((some b).bind _) = _
      rw [Option.bind_some, sb, Option.bind_some, ss tb, Option.bind_some]
      by_cases e : ta = tb
      · rw [if_pos e, decide_eq_true e, frk_t]
      · rw [if_neg e, decide_eq_false e, frk_f]
    by_cases e : ta = tb
    · refine ⟨ta, by simpa using ra.less path [] p rfl, by rw [nod2]; omega, E2.suc (S.mono fun n m h => by rw [h, if_pos e]), E2.suc (I.mono fun n m h => by rw [h, if_pos e])⟩
    · exact ⟨_, .node h1 h2 h3 h4 ra rb, by rw [nod2, nod2]; omega, E2.suc (S.mono fun n m h => by rw [h, if_neg e]), E2.suc (I.mono fun n m h => by rw [h, if_neg e])⟩
theorem iNodes {s : Sol} {path : List Pl} (h : Rt s path) : nod s ≤ 1000000 → E2 fun n m => loopN (Dimpl_Solid_nodes_b n) m s = some ((nod s : Nat) : Int) := by
  induction h with
  | @leaf i p path hz => intro _; exact E2.suc (E2.of fun n m => by rw [loop_suc, iNodesStep, nod_leaf]; rfl)
  | @node p a b path h1 h2 h3 h4 _ _ iha ihb =>
    intro hn
    rw [nod2] at hn
    refine E2.suc (((iha (by omega)).and (ihb (by omega))).mono fun n m ⟨h1, h2⟩ => ?_)
    rw [loop_suc, iNodesStep, show ((([a, b] : List Sol).length : Int) == 0) = false from rfl, frk_f]
    show ((some a).bind _) = _
    rw [Option.bind_some, h1, Option.bind_some]
    show ((some b).bind _) = _
    rw [Option.bind_some, h2, Option.bind_some, w64_id (x := 1 + ((nod a : Nat) : Int)) (by omega) (by omega), w64_id (by omega) (by omega), nod2]
    congr 1; omega
open Classical in
theorem sNodes {s : Sol} (h : Right s) : Ev fun n => Dspec_NodesOf n s = some ((nod s : Nat) : Int) := by
  refine ((cnt s h.1.lens).and (sSolidOk s h.1.lens)).mono fun n ⟨h1, h2⟩ => ?_
  unfold Dspec_NodesOf
  have := h.2
  rw [h2, Option.bind_some, decide_eq_true h, Bool.not_true, frk_f, h1, Option.bind_some, cnv_yes (by omega)]

open Classical in
theorem plain_Spare (s : Sol) (h : Lens s) : ∃ n, Dlaws_FnExactSpare n s = some true := by
  by_cases ht : (tot s : Int) ≤ 1048576
  · have e1 := sz s h
    have e2 := to s (by omega)
    have e3 := sSolidOk s h
    have e4 := iSolidOk s
    have e5 := eqs s (by omega)
    by_cases hr : Right s
    · obtain ⟨t, rt, nt, st, it⟩ := tidied hr.1
      have hn := hr.2
      have hrt : Right t := ⟨rt, by omega⟩
      obtain ⟨N, hN⟩ := (e1.and (e2.and (e3.and (e4.and (e5.and (st.ev.and (it.ev.and ((sNodes hr).and ((sNodes hrt).and (((iNodes hr.1) (by omega)).ev.and ((iNodes rt) (by omega)).ev))))))))))
      obtain ⟨a1, a2, a3, a4, a5, a6, a7, a8, a9, a10, a11⟩ := hN N (Nat.le_refl N)
      refine ⟨N, ?_⟩
      unfold Dlaws_FnExactSpare
      rw [a1, Option.bind_some, szv_yes ht, decide_eq_false (by omega), frk_f, a2, Option.bind_some]
      have b1 : Dimpl_Spare N s = some (w64 ((nod s : Int) - (nod t : Int))) := by
        unfold Dimpl_Spare Dimpl_tidy Dimpl_Solid_nodes
        rw [a4, Option.bind_some, decide_eq_true hr, Bool.not_true, frk_f, a7, Option.bind_some, a10, Option.bind_some, a11, Option.bind_some]
      have b2 : Dspec_Spare N s = some (w64 ((nod s : Int) - (nod t : Int))) := by
        unfold Dspec_Spare Dspec_Tidy Dspec_l12Tidy
        rw [a8, Option.bind_some, a3, Option.bind_some, decide_eq_true hr, Bool.not_true, frk_f, a6, Option.bind_some, Option.bind_some, a9, Option.bind_some]
      rw [b2, Option.bind_some, Option.bind_some, b1]
      simp only [Option.bind_some, bne_self_eq_false, frk_f, a5, Bool.not_true]
    · have e6 : Right (.mk false ⟨0, 0, 0, 0⟩ []) := ⟨.leaf rfl, by rw [nod_leaf]; omega⟩
      obtain ⟨N, hN⟩ := (e1.and (e2.and (e3.and (e4.and (e5.and (sNodes e6))))))
      obtain ⟨a1, a2, a3, a4, a5, a6⟩ := hN N (Nat.le_refl N)
      refine ⟨N, ?_⟩
      unfold Dlaws_FnExactSpare
      rw [a1, Option.bind_some, szv_yes ht, decide_eq_false (by omega), frk_f, a2, Option.bind_some]
      have b1 : Dimpl_Spare N s = some 0 := by
        unfold Dimpl_Spare
        rw [a4, Option.bind_some, decide_eq_false hr, Bool.not_false, frk_t]
      have b2 : Dspec_Spare N s = some 0 := by
        have c1 : Dspec_NodesOf N s = some 0 := by
          unfold Dspec_NodesOf
          rw [a3, Option.bind_some, decide_eq_false hr, Bool.not_false, frk_t]
        unfold Dspec_Spare Dspec_Tidy Dspec_Leaf
        rw [c1, Option.bind_some, a3, Option.bind_some, decide_eq_false hr, Bool.not_false, frk_t, Option.bind_some, Option.bind_some, a6, Option.bind_some, nod_leaf]
        rfl
      rw [b2, Option.bind_some, Option.bind_some, b1]
      simp only [Option.bind_some, bne_self_eq_false, frk_f, a5, Bool.not_true]
  · obtain ⟨N, hN⟩ := sz s h
    refine ⟨N, ?_⟩
    unfold Dlaws_FnExactSpare
    rw [hN N (Nat.le_refl N), Option.bind_some, szv_no ht]; rfl
end Evl.T
