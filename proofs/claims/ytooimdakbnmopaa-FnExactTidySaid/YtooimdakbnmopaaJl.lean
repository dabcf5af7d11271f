/- Texts that belong together, joined. No condition. -/
import Derived.Test.YtooimdakbnmopaaJp
/-! Eps -/
namespace Evl.T
open Go Evl

theorem wth_iff (l : List Pl) (p : Pl) : wth l p = true ↔ ∃ i, i < l.length ∧ (cl2 (gt l i) p = true ∨ ∃ j, i < j ∧ j < l.length ∧ (cl3 (gt l i) (gt l j) p = true ∨ ∃ k, j < k ∧ k < l.length ∧ cl4 (gt l i) (gt l j) (gt l k) p = true)) := by
  unfold wth sAny3 sAny4
  simp only [List.any_eq_true, List.mem_range'_1, Bool.or_eq_true]
  constructor
  · rintro ⟨i, hi, h | ⟨j, hj, h | ⟨k, hk, h⟩⟩⟩
    · exact ⟨i, by omega, .inl h⟩
    · exact ⟨i, by omega, .inr ⟨j, by omega, by omega, .inl h⟩⟩
    · exact ⟨i, by omega, .inr ⟨j, by omega, by omega, .inr ⟨k, by omega, by omega, h⟩⟩⟩
  · rintro ⟨i, hi, h | ⟨j, hj, hj2, h | ⟨k, hk, hk2, h⟩⟩⟩
    · exact ⟨i, by omega, .inl h⟩
    · exact ⟨i, by omega, .inr ⟨j, by omega, .inl h⟩⟩
    · exact ⟨i, by omega, .inr ⟨j, by omega, .inr ⟨k, by omega, h⟩⟩⟩
/-- One plane less: no clash comes. -/
theorem wth_less {l1 l2 : List Pl} {x p : Pl} (h : wth (l1 ++ x :: l2) p = false) : wth (l1 ++ l2) p = false := by
  have key : ¬ wth (l1 ++ x :: l2) p = true := by simp [h]
  rw [← Bool.not_eq_true]
  intro h2
  apply key
  rw [wth_iff] at h2 ⊢
  let f : Nat → Nat := fun i => if i < l1.length then i else i + 1
  have fd : ∀ i, f i = if i < l1.length then i else i + 1 := fun _ => rfl
  have f1 : ∀ i j, i < j → f i < f j := fun i j hij => by
    rw [fd, fd]
    split <;> split <;> omega
  have f2 : ∀ i, i < (l1 ++ l2).length → f i < (l1 ++ x :: l2).length := fun i hi => by
    simp only [List.length_append, List.length_cons] at hi ⊢
    rw [fd]
    split <;> omega
  have f3 : ∀ i, gt (l1 ++ x :: l2) (f i) = gt (l1 ++ l2) i := fun i => by
    unfold gt
    show (((l1 ++ x :: l2)[if i < l1.length then i else i + 1]?).getD _) = _
    split
    · rename_i hi; rw [List.getElem?_append_left hi, List.getElem?_append_left hi]
    · rename_i hi
      rw [List.getElem?_append_right (by omega), List.getElem?_append_right (by omega), show i + 1 - l1.length = (i - l1.length) + 1 by omega, List.getElem?_cons_succ]
  obtain ⟨i, hi, h | ⟨j, hj, hj2, h | ⟨k, hk, hk2, h⟩⟩⟩ := h2
  · exact ⟨f i, f2 i hi, .inl (by rw [f3]; exact h)⟩
  · exact ⟨f i, f2 i hi, .inr ⟨f j, f1 _ _ hj, f2 j hj2, .inl (by rw [f3, f3]; exact h)⟩⟩
  · exact ⟨f i, f2 i hi, .inr ⟨f j, f1 _ _ hj, f2 j hj2, .inr ⟨f k, f1 _ _ hk, f2 k hk2, by rw [f3, f3, f3]; exact h⟩⟩⟩
theorem Rt.less {s : Sol} {path : List Pl} (h : Rt s path) : ∀ (l1 l2 : List Pl) (x : Pl), path = l1 ++ x :: l2 → Rt s (l1 ++ l2) := by
  induction h with
  | leaf hz => intro _ _ _ _; exact .leaf hz
  | @node p a b path h1 h2 h3 h4 _ _ iha ihb =>
    intro l1 l2 x e
    subst e
    refine .node h1 (by simp at h2 ⊢; omega) (wth_less h3) (wth_less h4) ?_ ?_
    · have := iha l1 (l2 ++ [p]) x (by simp)
      simpa using this
    · have := ihb l1 (l2 ++ [flp p]) x (by simp)
      simpa using this
theorem Rt.lens {s : Sol} {path : List Pl} (h : Rt s path) : Lens s := by
  induction h with
  | leaf hz => exact .mk (by simp [big]) (by simp)
  | node _ _ _ _ _ _ iha ihb =>
    refine .mk (by simp [big]) fun x hx => ?_
    simp only [List.mem_cons, List.not_mem_nil, or_false] at hx
    rcases hx with rfl | rfl
    · exact iha
    · exact ihb
end Evl.T

/-! Epl -/
namespace Evl.T
open Go Evl

/-! the same tree -/
def plEq (p q : Pl) : Bool := p.A == q.A && (p.B == q.B && (p.C == q.C && (p.D == q.D && true)))
theorem plEq_iff (p q : Pl) : plEq p q = true ↔ p = q := by
  cases p; cases q; simp [plEq]
theorem plEq_no {p q : Pl} (h : p ≠ q) : plEq p q = false := by
  rw [← Bool.not_eq_true, plEq_iff]; exact h
theorem iSameStep (n : Nat) (self : Sol × Sol → Option Bool) (i j : Bool) (p q : Pl) (k l : List Sol) : Dimpl_SameTree_b n self (.mk i p k, .mk j q l) =
    frk (i == j) (frk (plEq p q) ((frk ((k.length : Int) != (l.length : Int)) (some false) (loopN (Dslices_EqualFuncfimpl_SameTree_in_0 n self l k (k.length : Int)) n 0)).bind fun v0 => some v0) (some false)) (some false) := rfl
open Classical in
theorem kidsLoop (self : Sol × Sol → Option Bool) (F : (Int → Option Bool) → Int → Option Bool) (k l : List Sol) (hl : k.length ≤ big) (hkl : k.length = l.length) (hs : ∀ x ∈ k, ∀ y, self (x, y) = some (decide (x = y)))
    (hF : ∀ rec (t : Int), F rec t = frk (decide (t < (k.length : Int))) ((lget k t).bind fun v0 => (lget l t).bind fun v1 => (self (v0, v1)).bind fun v2 => frk (!v2) (some false) (rec (w64 (t + 1)))) (some true)) (n : Nat) (hn : k.length < n) :
    loopN F n 0 = some (decide (k = l)) := by
  have := search (F := F) (len := k.length) (b := fun t => decide (k[t]? ≠ l[t]?)) (hit := some false) (miss := some true) hl ?_ ?_ k.length 0 n (by omega) hn
  · rw [show (0 : Int) = ((0 : Nat) : Int) from rfl, this]
    by_cases h : k = l
    · subst h
      have : (List.range' 0 k.length).any (fun t => decide (k[t]? ≠ k[t]?)) = false := by simp
      rw [this]; simp
    · have : (List.range' 0 k.length).any (fun t => decide (k[t]? ≠ l[t]?)) = true := by
        rw [List.any_eq_true]
        apply Classical.byContradiction
        intro hno
        apply h
        apply List.ext_getElem?
        intro t
        rcases Nat.lt_or_ge t k.length with ht | ht
        · apply Classical.byContradiction
          intro hne
          exact hno ⟨t, by simp; omega, by simpa using hne⟩
        · rw [List.getElem?_eq_none ht, List.getElem?_eq_none (by omega)]
      rw [this]; simp [h]
  · intro rec t ht
    obtain ⟨x, hx⟩ : ∃ x, k[t]? = some x := ⟨k[t], List.getElem?_eq_getElem ht⟩
    obtain ⟨y, hy⟩ : ∃ y, l[t]? = some y := ⟨l[t]'(by omega), List.getElem?_eq_getElem (by omega)⟩
    rw [hF, lt_dec ht, frk_t, lget_nat, lget_nat, hx, hy, Option.bind_some, Option.bind_some, hs x (List.mem_of_getElem? hx) y, Option.bind_some]
    by_cases h : x = y
    · subst h; simp [frk_f]
    · simp [h, frk_t]
  · intro rec
    rw [hF, lt_self, frk_f]
open Classical in
theorem iSame : ∀ a, Lens a → E2 fun n m => ∀ b, loopN (Dimpl_SameTree_b n) m (a, b) = some (decide (a = b)) := by
  refine sol_ind fun i p k ih hl => ?_
  cases hl with
  | mk hk hx =>
    have h1 := E2.all fun x hxm => ih x hxm (hx x hxm)
    have h2 : E2 fun n _ => k.length < n := ⟨k.length + 1, fun n hn _ _ => by omega⟩
    refine E2.suc ((h1.and h2).mono fun n m ⟨h1, h2⟩ b => ?_)
    obtain ⟨j, q, l⟩ := b
    rw [loop_suc, iSameStep]
    by_cases e1 : i = j
    · subst e1
      rw [beq_self_eq_true, frk_t]
      by_cases e2 : p = q
      · subst e2
        rw [(plEq_iff p p).2 rfl, frk_t]
        by_cases e3 : k.length = l.length
        · rw [show ((k.length : Int) != (l.length : Int)) = false by simp [e3], frk_f, kidsLoop _ (Dslices_EqualFuncfimpl_SameTree_in_0 n (loopN (Dimpl_SameTree_b n) m) l k (k.length : Int)) k l hk e3 h1 (fun _ _ => rfl) n h2]
          simp
        · rw [show ((k.length : Int) != (l.length : Int)) = true by simp; omega, frk_t]
          have : k ≠ l := fun e => e3 (by rw [e])
          simp [this]
      · rw [plEq_no e2, frk_f]; simp [e2]
    · rw [show (i == j) = false by simp [e1], frk_f]; simp [e1]
end Evl.T

/-! Epn -/
namespace Evl.T
open Go Evl

theorem sSameStep (n : Nat) (self : Sol × Sol → Option Bool) (i j : Bool) (p q : Pl) (k l : List Sol) : Dspec_SameTree_b n self (.mk i p k, .mk j q l) =
    frk (!(i == j)) (some false) (frk (!(plEq p q)) (some false) (frk ((k.length : Int) != (l.length : Int)) (some false) (loopN (Dspec_SameTree_1 n self i p.A p.B p.C p.D k j q.A q.B q.C q.D l) n 0))) := rfl
open Classical in
theorem sSame : ∀ a, Lens a → E2 fun n m => ∀ b, loopN (Dspec_SameTree_b n) m (a, b) = some (decide (a = b)) := by
  refine sol_ind fun i p k ih hl => ?_
  cases hl with
  | mk hk hx =>
    have h1 := E2.all fun x hxm => ih x hxm (hx x hxm)
    have h2 : E2 fun n _ => k.length < n := ⟨k.length + 1, fun n hn _ _ => by omega⟩
    refine E2.suc ((h1.and h2).mono fun n m ⟨h1, h2⟩ b => ?_)
    obtain ⟨j, q, l⟩ := b
    rw [loop_suc, sSameStep]
    by_cases e1 : i = j
    · subst e1
      rw [beq_self_eq_true, Bool.not_true, frk_f]
      by_cases e2 : p = q
      · subst e2
        rw [(plEq_iff p p).2 rfl, Bool.not_true, frk_f]
        by_cases e3 : k.length = l.length
        · rw [show ((k.length : Int) != (l.length : Int)) = false by simp [e3], frk_f, kidsLoop _ (Dspec_SameTree_1 n (loopN (Dspec_SameTree_b n) m) i p.A p.B p.C p.D k i p.A p.B p.C p.D l) k l hk e3 h1 (fun _ _ => rfl) n h2]
          simp
        · rw [show ((k.length : Int) != (l.length : Int)) = true by simp; omega, frk_t]
          have : k ≠ l := fun e => e3 (by rw [e])
          simp [this]
      · rw [plEq_no e2, Bool.not_false, frk_t]; simp [e2]
    · rw [show (i == j) = false by simp [e1], Bool.not_false, frk_t]; simp [e1]
theorem sTidyStep (n : Nat) (self : Sol → Option Sol) (i : Bool) (p : Pl) (k : List Sol) : Dspec_l12Tidy_b n self (.mk i p k) = frk ((k.length : Int) == 0) (some (.mk i ⟨0, 0, 0, 0⟩ [])) ((lget k 0).bind fun v2 => (self v2).bind fun v3 => (lget k 1).bind fun v4 => (self v4).bind fun v5 => (loopN (Dspec_SameTree_b n) n (v3, v5)).bind fun v6 => frk v6 (some v3) (some (.mk false p [v3, v5]))) := rfl
theorem iTidyStep (n : Nat) (self : Sol → Option Sol) (i : Bool) (p : Pl) (k : List Sol) : Dimpl_tidy_b n self (.mk i p k) = frk ((k.length : Int) == 0) (some (.mk i ⟨0, 0, 0, 0⟩ [])) ((lget k 0).bind fun v2 => (self v2).bind fun v3 => (lget k 1).bind fun v4 => (self v4).bind fun v5 => (loopN (Dimpl_SameTree_b n) n (v3, v5)).bind fun v6 => frk v6 (some v3) (some (.mk false p [v3, v5]))) := rfl
open Classical in
theorem tidied {s : Sol} {path : List Pl} (h : Rt s path) : ∃ t, Rt t path ∧ nod t ≤ nod s ∧ (E2 fun n m => loopN (Dspec_l12Tidy_b n) m s = some t) ∧ E2 fun n m => loopN (Dimpl_tidy_b n) m s = some t := by
  induction h with
  | @leaf i p path hz =>
    refine ⟨.mk i ⟨0, 0, 0, 0⟩ [], .leaf rfl, by rw [nod_leaf, nod_leaf]; omega, E2.suc (E2.of fun n m => ?_), E2.suc (E2.of fun n m => ?_)⟩
    · rw [loop_suc, sTidyStep]; rfl
    · rw [loop_suc, iTidyStep]; rfl
  | @node p a b path h1 h2 h3 h4 _ _ iha ihb =>
    obtain ⟨ta, ra, na, sa, ia⟩ := iha
    obtain ⟨tb, rb, nb, sb, ib⟩ := ihb
    have ss := (sSame ta ra.lens).ev.e2
    have is := (iSame ta ra.lens).ev.e2
    have S : E2 fun n m => loopN (Dspec_l12Tidy_b n) (m + 1) (.mk false p [a, b]) = if ta = tb then some ta else some (.mk false p [ta, tb]) := (sa.and (sb.and ss)).mono fun n m ⟨sa, sb, ss⟩ => by
      rw [loop_suc, sTidyStep, show ((([a, b] : List Sol).length : Int) == 0) = false from rfl, frk_f]
      show ((some a).bind _) = _
      rw [Option.bind_some, sa, Option.bind_some]
      show ((some b).bind _) = _
      rw [Option.bind_some, sb, Option.bind_some, ss tb, Option.bind_some]
      by_cases e : ta = tb
      · rw [if_pos e, decide_eq_true e, frk_t]
      · rw [if_neg e, decide_eq_false e, frk_f]
    have I : E2 fun n m => loopN (Dimpl_tidy_b n) (m + 1) (.mk false p [a, b]) = if ta = tb then some ta else some (.mk false p [ta, tb]) := (ia.and (ib.and is)).mono fun n m ⟨sa, sb, ss⟩ => by
      rw [loop_suc, iTidyStep, show ((([a, b] : List Sol).length : Int) == 0) = false from rfl, frk_f]
      show ((some a).bind _) = _
      rw [Option.bind_some, sa, Option.bind_some]
      show ((some b).bind _) = _
      rw [Option.bind_some, sb, Option.bind_some, ss tb, Option.bind_some]
      by_cases e : ta = tb
      · rw [if_pos e, decide_eq_true e, frk_t]
      · rw [if_neg e, decide_eq_false e, frk_f]
    by_cases e : ta = tb
    · refine ⟨ta, by simpa using ra.less path [] p rfl, by rw [nod2]; omega, E2.suc (S.mono fun n m h => by rw [h, if_pos e]), E2.suc (I.mono fun n m h => by rw [h, if_pos e])⟩
    · exact ⟨_, .node h1 h2 h3 h4 ra rb, by rw [nod2, nod2]; omega, E2.suc (S.mono fun n m h => by rw [h, if_neg e]), E2.suc (I.mono fun n m h => by rw [h, if_neg e])⟩
end Evl.T

/-! Eqa -/
namespace Evl.T
open Go Evl

mutual
def mk1 : Sol → Int → Int × Sol
  | .mk _ _ kids, k => ((mkL kids (k + 1 + 1 + 1 + 1 + 1)).1, .mk (Int.tmod k 3 == 0) ⟨k + 1, k + 1 + 1, k + 1 + 1 + 1, k + 1 + 1 + 1 + 1⟩ (mkL kids (k + 1 + 1 + 1 + 1 + 1)).2)
def mkL : List Sol → Int → Int × List Sol
  | [], k => (k, [])
  | x :: xs, k => ((mkL xs (mk1 x k).1).1, (mk1 x k).2 :: (mkL xs (mk1 x k).1).2)
end
theorem mkL_nil (k : Int) : mkL [] k = (k, []) := by rw [mkL]
theorem mkL_cons (x : Sol) (xs : List Sol) (k : Int) : mkL (x :: xs) k = ((mkL xs (mk1 x k).1).1, (mk1 x k).2 :: (mkL xs (mk1 x k).1).2) := by rw [mkL]
theorem mk1_eq (x : Sol) (k : Int) : mk1 x k = ((mkL x.kids (k + 1 + 1 + 1 + 1 + 1)).1, .mk (Int.tmod k 3 == 0) ⟨k + 1, k + 1 + 1, k + 1 + 1 + 1, k + 1 + 1 + 1 + 1⟩ (mkL x.kids (k + 1 + 1 + 1 + 1 + 1)).2) := by
  cases x; rw [mk1]; rfl
mutual
theorem mk1_fst : ∀ (x : Sol) (k : Int), (mk1 x k).1 = k + 5 + 5 * (tot x : Int)
  | .mk i p kids, k => by
    rw [mk1]
    have := mkL_fst kids (k + 1 + 1 + 1 + 1 + 1)
    rw [tot_mk]
    show (mkL kids (k + 1 + 1 + 1 + 1 + 1)).1 = _
    rw [this]; push_cast; omega
theorem mkL_fst : ∀ (l : List Sol) (k : Int), (mkL l k).1 = k + 5 * ((l.length : Int) + (totL l : Int))
  | [], k => by rw [mkL, totL]; simp
  | x :: xs, k => by
    rw [mkL]
    have h1 := mk1_fst x k
    have h2 := mkL_fst xs (mk1 x k).1
    show (mkL xs (mk1 x k).1).1 = _
    rw [h2, h1, totL, List.length_cons]; push_cast; omega
end
theorem mkL_len : ∀ (l : List Sol) (k : Int), (mkL l k).2.length = l.length
  | [], k => by rw [mkL]
  | x :: xs, k => by rw [mkL]; simp [mkL_len xs]

def gig : Int := 1000000000
theorem wk {k : Int} (h0 : 0 ≤ k) (h1 : k + 5 ≤ gig) : w64 (k + 1) = k + 1 ∧ w64 (k + 1 + 1) = k + 1 + 1 ∧ w64 (k + 1 + 1 + 1) = k + 1 + 1 + 1 ∧ w64 (k + 1 + 1 + 1 + 1) = k + 1 + 1 + 1 + 1 ∧ w64 (k + 1 + 1 + 1 + 1 + 1) = k + 1 + 1 + 1 + 1 + 1 := by
  unfold gig at h1
  refine ⟨?_, ?_, ?_, ?_, ?_⟩ <;> exact w64_id (by omega) (by omega)
theorem lget_mid (P : List Sol) (y : Sol) (r : List Sol) : lget (P ++ y :: r) ((P.length : Nat) : Int) = some y := by
  rw [lget_nat, List.getElem?_append_right (Nat.le_refl _)]; simp
theorem set_mid' (P : List Sol) (y z : Sol) (r : List Sol) : (P ++ y :: r).set (Int.toNat ((P.length : Nat) : Int)) z = P ++ z :: r := by
  rw [Int.toNat_natCast, List.set_append_right _ _ (Nat.le_refl _)]; simp
theorem markLoop (n : Nat) (self : List Sol × Int → Option (Int × List Sol)) : ∀ (r P : List Sol) (m : Nat) (k : Int), (∀ x ∈ r, ∀ k : Int, 0 ≤ k → k + 5 * (tot x : Int) ≤ gig → self (x.kids, k) = some (mkL x.kids k)) → r.length < m → P.length + r.length < big → 0 ≤ k → k + 5 * ((r.length : Int) + (totL r : Int)) ≤ gig →
    loopN (Dlaws_markSolidS_1 n self) m (k, ((P.length : Nat) : Int), P ++ r) = some ((mkL r k).1, P ++ (mkL r k).2) := by
  intro r
  induction r with
  | nil =>
    intro P m k hs hm hb h0 h1
    obtain ⟨m, rfl⟩ : ∃ q, m = q + 1 := ⟨m - 1, by omega⟩
    rw [loop_suc]
    simp only [Dlaws_markSolidS_1, List.append_nil, lt_self, frk_f, mkL_nil]
  | cons x r ih =>
    intro P m k hs hm hb h0 h1
    simp only [List.length_cons] at hm hb h1
    obtain ⟨m, rfl⟩ : ∃ q, m = q + 1 := ⟨m - 1, by omega⟩
    rw [totL] at h1
    push_cast at h1
    obtain ⟨w1, w2, w3, w4, w5⟩ := wk h0 (by omega)
    have hlt : ∀ y : Sol, decide (((P.length : Nat) : Int) < ((P ++ y :: r).length : Int)) = true := fun y => by simp; omega
    obtain ⟨xi, xp, xk⟩ := x
    have hself : self (xk, k + 1 + 1 + 1 + 1 + 1) = some (mkL xk (k + 1 + 1 + 1 + 1 + 1)) := hs _ List.mem_cons_self (k + 1 + 1 + 1 + 1 + 1) (by omega) (by omega)
    have hsuc : w64 (((P.length : Nat) : Int) + 1) = (((P ++ [(mk1 (.mk xi xp xk) k).2]).length : Nat) : Int) := by rw [w64_suc (by omega)]; simp
    rw [loop_suc]
    simp only [Dlaws_markSolidS_1, Dlaws_markSolidS_0, hlt, frk_t, lget_mid, set_mid', Option.bind_some, Sol.inn, Sol.pl, Sol.kids, w1, w2, w3, w4, w5]
    rw [hself, Option.bind_some, hsuc]
    have e : (Sol.mk (Int.tmod k 3 == 0) ⟨k + 1, k + 1 + 1, k + 1 + 1 + 1, k + 1 + 1 + 1 + 1⟩ (mkL xk (k + 1 + 1 + 1 + 1 + 1)).2) = (mk1 (.mk xi xp xk) k).2 := by rw [mk1]
    have e1 : (mkL xk (k + 1 + 1 + 1 + 1 + 1)).1 = (mk1 (.mk xi xp xk) k).1 := by rw [mk1]
    rw [e, e1, show P ++ (mk1 (.mk xi xp xk) k).2 :: r = (P ++ [(mk1 (.mk xi xp xk) k).2]) ++ r by simp]
    have hf := mk1_fst (.mk xi xp xk) k
    rw [ih (P ++ [(mk1 (.mk xi xp xk) k).2]) m (mk1 (.mk xi xp xk) k).1 (fun y hy => hs y (List.mem_cons_of_mem _ hy)) (by omega) (by simp; omega) (by omega) (by omega), mkL_cons]
    simp
theorem markOk : ∀ s, Lens s → tot s ≤ 1048576 → E2 fun n m => ∀ k : Int, 0 ≤ k → k + 5 * (tot s : Int) ≤ gig → loopN (Dlaws_markSolidS_b n) m (s.kids, k) = some (mkL s.kids k) := by
  refine sol_ind fun i p k ih hl ht => ?_
  rw [tot_mk] at ht
  cases hl with
  | mk hb hk =>
    have h1 := E2.all fun x hx => ih x hx (hk x hx) (by have := tot_le hx; omega)
    have h2 : E2 fun n _ => k.length < n := ⟨k.length + 1, fun n hn _ _ => by omega⟩
    refine E2.suc ((h1.and h2).mono fun n m ⟨h1, h2⟩ q hq0 hq1 => ?_)
    rw [tot_mk] at hq1
    push_cast at hq1
    rw [loop_suc]
    show loopN (Dlaws_markSolidS_1 n _) n (q, 0, k) = some (mkL k q)
    have := markLoop n (loopN (Dlaws_markSolidS_b n) m) k [] n q h1 h2 (by simp; unfold big; omega) hq0 hq1
    simpa using this
theorem markL (l : List Sol) (hl : ∀ x ∈ l, Lens x) (hlen : l.length ≤ big) (ht : l.length + totL l ≤ 1048576) : Ev fun n => Dlaws_markSolidS n l 1 = some (mkL l 1) :=
  (markOk (.mk false ⟨0, 0, 0, 0⟩ l) (.mk hlen hl) (by rw [tot_mk]; exact ht)).ev.mono fun n h => h 1 (by decide) (by rw [tot_mk]; unfold gig; omega)

theorem heldLoop (n : Nat) (self : List Sol × Int → Option Int) (L : List Sol) (hL : L.length ≤ big) : ∀ (r : List Sol) (i m : Nat) (k : Int), (∀ x ∈ r, ∀ k : Int, 0 ≤ k → k + 5 * (tot x : Int) ≤ gig → self ((mkL x.kids k).2, k) = some (mkL x.kids k).1) → L.drop i = (mkL r k).2 → i ≤ L.length → r.length < m → 0 ≤ k → k + 5 * ((r.length : Int) + (totL r : Int)) ≤ gig →
    loopN (Dlaws_heldSolidS_0 n self L) m (k, (i : Int)) = some (mkL r k).1 := by
  intro r
  induction r with
  | nil =>
    intro i m k hs hd hi hm h0 h1
    obtain ⟨m, rfl⟩ : ∃ q, m = q + 1 := ⟨m - 1, by omega⟩
    rw [mkL_nil] at hd
    have : i = L.length := by have := List.drop_eq_nil_iff.1 hd; omega
    subst this
    rw [loop_suc]
    simp only [Dlaws_heldSolidS_0, lt_self, frk_f, mkL_nil]
  | cons x r ih =>
    intro i m k hs hd hi hm h0 h1
    simp only [List.length_cons] at hm h1
    obtain ⟨m, rfl⟩ : ∃ q, m = q + 1 := ⟨m - 1, by omega⟩
    rw [totL] at h1
    push_cast at h1
    obtain ⟨w1, w2, w3, w4, w5⟩ := wk h0 (by omega)
    rw [mkL_cons] at hd
    obtain ⟨hil, hx, hd', -⟩ := drop_get hd
    obtain ⟨xi, xp, xk⟩ := x
    have hself : self ((mkL xk (k + 1 + 1 + 1 + 1 + 1)).2, k + 1 + 1 + 1 + 1 + 1) = some (mkL xk (k + 1 + 1 + 1 + 1 + 1)).1 := hs _ List.mem_cons_self (k + 1 + 1 + 1 + 1 + 1) (by omega) (by omega)
    have hf := mk1_fst (.mk xi xp xk) k
    have e1 : (mkL xk (k + 1 + 1 + 1 + 1 + 1)).1 = (mk1 (.mk xi xp xk) k).1 := by rw [mk1]
    have hnn : decide ((mkL xk (k + 1 + 1 + 1 + 1 + 1)).1 < 0) = false := decide_eq_false (by rw [e1]; omega)
    rw [loop_suc]
    simp only [Dlaws_heldSolidS_0, lt_dec hil, frk_t, lget_nat, hx, Option.bind_some, w1, w2, w3, w4, w5]
    simp only [mk1, Sol.inn, Sol.pl, Sol.kids, beq_self_eq_true, Bool.not_true, frk_f, bne_self_eq_false]
    rw [hself, Option.bind_some, hnn, frk_f, w64_suc (by omega), e1]
    rw [ih (i + 1) m (mk1 (.mk xi xp xk) k).1 (fun y hy => hs y (List.mem_cons_of_mem _ hy)) hd' (by omega) (by omega) (by omega) (by omega), mkL_cons]
theorem heldOk : ∀ s, Lens s → tot s ≤ 1048576 → E2 fun n m => ∀ k : Int, 0 ≤ k → k + 5 * (tot s : Int) ≤ gig → loopN (Dlaws_heldSolidS_b n) m ((mkL s.kids k).2, k) = some (mkL s.kids k).1 := by
  refine sol_ind fun i p k ih hl ht => ?_
  rw [tot_mk] at ht
  cases hl with
  | mk hb hk =>
    have h1 := E2.all fun x hx => ih x hx (hk x hx) (by have := tot_le hx; omega)
    have h2 : E2 fun n _ => k.length < n := ⟨k.length + 1, fun n hn _ _ => by omega⟩
    refine E2.suc ((h1.and h2).mono fun n m ⟨h1, h2⟩ q hq0 hq1 => ?_)
    rw [tot_mk] at hq1
    push_cast at hq1
    rw [loop_suc]
    show loopN (Dlaws_heldSolidS_0 n _ (mkL k q).2) n (q, 0) = some (mkL k q).1
    exact heldLoop n (loopN (Dlaws_heldSolidS_b n) m) (mkL k q).2 (by rw [mkL_len]; exact hb) k 0 n q h1 (by simp) (by omega) h2 hq0 hq1
theorem heldL (s : Sol) (l : List Sol) (hs : s.kids = (mkL l 1).2) (hl : ∀ x ∈ l, Lens x) (hlen : l.length ≤ big) (ht : l.length + totL l ≤ 1048576) : Ev fun n => Dlaws_heldSolid n s 1 = some (mkL l 1).1 :=
  (heldOk (.mk false ⟨0, 0, 0, 0⟩ l) (.mk hlen hl) (by rw [tot_mk]; exact ht)).ev.mono fun n h => by
    have := h 1 (by decide) (by rw [tot_mk]; unfold gig; omega)
    have h1 := mkL_fst l 1
    unfold Dlaws_heldSolid Dlaws_heldSolidS
    rw [hs]
    have e : loopN (Dlaws_heldSolidS_b n) n ((mkL l 1).2, 1) = some (mkL l 1).1 := this
    rw [e, Option.bind_some, decide_eq_false (by omega), frk_f]

theorem kidsOf {s : Sol} (h : Lens s) : s.kids.length ≤ big ∧ (∀ x ∈ s.kids, Lens x) ∧ tot s = s.kids.length + totL s.kids := by
  cases h with
  | mk hb hk => exact ⟨hb, hk, tot_mk _ _ _⟩
/-- A tree is marked: the number that comes back. -/
def mkN (s : Sol) : Int := (mkL s.kids 1).1
theorem mkN_ge (s : Sol) : 1 ≤ mkN s := by unfold mkN; rw [mkL_fst]; omega
theorem marks {s : Sol} (h : Lens s) (ht : tot s ≤ 1048576) : Ev fun n => Dlaws_markSolidS n s.kids 1 = some (mkL s.kids 1) := by
  obtain ⟨h1, h2, h3⟩ := kidsOf h
  exact markL s.kids h2 h1 (by omega)
theorem helds {s : Sol} (h : Lens s) (ht : tot s ≤ 1048576) : Ev fun n => Dlaws_heldSolid n (Sol.mk s.inn s.pl (mkL s.kids 1).2) 1 = some (mkN s) := by
  obtain ⟨h1, h2, h3⟩ := kidsOf h
  exact heldL _ s.kids rfl h2 h1 (by omega)
theorem mkN_lt (s : Sol) : decide ((mkL s.kids 1).1 < 0) = false := decide_eq_false (by have := mkN_ge s; unfold mkN at this; omega)
theorem mkN_lt' (s : Sol) : decide (mkN s < 0) = false := mkN_lt s

/-- A tree that forks in two. -/
inductive Tw : Sol → Prop
  | leaf {i p} : Tw (.mk i p [])
  | node {i p a b} : Tw a → Tw b → Tw (.mk i p [a, b])
theorem Tw.lens {s : Sol} (h : Tw s) : Lens s := by
  induction h with
  | leaf => exact .mk (by simp [big]) (by simp)
  | node _ _ iha ihb =>
    refine .mk (by simp [big]) fun x hx => ?_
    simp only [List.mem_cons, List.not_mem_nil, or_false] at hx
    rcases hx with rfl | rfl
    · exact iha
    · exact ihb
theorem Tw.tot {s : Sol} (h : Tw s) : Evl.T.tot s = 2 * nod s := by
  induction h with
  | leaf => rw [tot_mk, nod_leaf]; simp [totL]
  | node _ _ iha ihb => rw [tot_mk, nod2]; simp only [totL, List.length_cons, List.length_nil, iha, ihb]; omega
theorem Rt.tw {s : Sol} {l : List Pl} (h : Rt s l) : Tw s := by
  induction h with
  | leaf _ => exact .leaf
  | node _ _ _ _ _ _ iha ihb => exact .node iha ihb

/-- The same, from any number on. -/
theorem markAt {s : Sol} (h : Lens s) (ht : tot s ≤ 1048576) : Ev fun n => ∀ k : Int, 0 ≤ k → k ≤ 900000000 → Dlaws_markSolidS n s.kids k = some (mkL s.kids k) :=
  (markOk s h ht).ev.mono fun n hn k h0 h1 => hn k h0 (by unfold gig; omega)
theorem heldAt {s : Sol} (h : Lens s) (ht : tot s ≤ 1048576) : Ev fun n => ∀ k : Int, 0 ≤ k → k ≤ 900000000 → Dlaws_heldSolid n (Sol.mk s.inn s.pl (mkL s.kids k).2) k = some (mkL s.kids k).1 :=
  (heldOk s h ht).ev.mono fun n hn k h0 h1 => by
    have h2 := hn k h0 (by unfold gig; omega)
    have h3 := mkL_fst s.kids k
    unfold Dlaws_heldSolid Dlaws_heldSolidS
    have e : loopN (Dlaws_heldSolidS_b n) n ((mkL s.kids k).2, k) = some (mkL s.kids k).1 := h2
    show ((loopN (Dlaws_heldSolidS_b n) n ((mkL s.kids k).2, k)).bind _) = _
    rw [e, Option.bind_some, decide_eq_false (by omega), frk_f]
theorem mkL_tot {s : Sol} (k : Int) : (mkL s.kids k).1 = k + 5 * (tot s : Int) := by
  rw [mkL_fst]; cases s; rw [tot_mk]; push_cast; rfl
end Evl.T

/-! Eqg -/
namespace Evl.T
open Go Evl

open Classical in
theorem tidyEq (s : Sol) (h : Lens s) : ∃ x, Tw x ∧ nod x ≤ 300 ∧ Ev fun n => Dspec_Tidy n s = some x ∧ Dimpl_Tidy n s = some x := by
  have e1 := sSolidOk s h; have e2 := iSolidOk s
  by_cases hr : Right s
  · obtain ⟨x, hx, nx, hS, hI⟩ := tidied hr.1
    refine ⟨x, hx.tw, Nat.le_trans nx hr.2, (e1.and (e2.and (hS.ev.and hI.ev))).mono fun n ⟨h1, h2, h3, h4⟩ => ⟨?_, ?_⟩⟩
    · simp only [Dspec_Tidy, Dspec_l12Tidy, h1, decide_eq_true hr, Option.bind_some, Bool.not_true, frk_f, h3]
    · simp only [Dimpl_Tidy, Dimpl_tidy, h2, decide_eq_true hr, Option.bind_some, Bool.not_true, frk_f, h4]
  · refine ⟨.mk false ⟨0, 0, 0, 0⟩ [], .leaf, by rw [nod_leaf]; omega, (e1.and e2).mono fun n ⟨h1, h2⟩ => ⟨?_, ?_⟩⟩
    · simp only [Dspec_Tidy, h1, decide_eq_false hr, Option.bind_some, Bool.not_false, frk_t]; rfl
    · simp only [Dimpl_Tidy, h2, decide_eq_false hr, Option.bind_some, Bool.not_false, frk_t]; rfl
theorem plain_Tidy (a : Sol) (ha : Lens a) : ∃ n, Dlaws_FnExactTidy n a.kids a = some true := by
  obtain ⟨x, hx, nx, hv⟩ := tidyEq a ha
  have tx := hx.tot
  have hxm := marks hx.lens (by omega)
  have hxh := helds hx.lens (by omega)
  have hxe := eqs x (by omega)
  have e1 := sz a ha
  by_cases ht : (tot a : Int) ≤ 1048576
  · obtain ⟨n, hN⟩ := (e1.and ((to a (by omega)).and ((eqs a (by omega)).and ((marks ha (by omega)).and (hv.and (hxm.and (hxh.and hxe)))))))
    obtain ⟨k1, k2, k3, k4, ⟨f1, f2⟩, k5, k6, k7⟩ := hN n (Nat.le_refl n)
    rw [szv_yes ht] at k1
    have el := mkN_lt a
    have ex := mkN_lt x
    have ex' := mkN_lt' x
    refine ⟨n, ?_⟩
    have e0 : Sol.mk a.inn a.pl a.kids = a := Sol.eta a
    simp only [Dlaws_FnExactTidy, Dlaws_FnExactTidy_0, Dlaws_FnExactTidy_1, Dlaws_FnExactTidy_2, pl_eq, sol_eq, e0, k1, k2, k3, k4, f1, f2, k5, k6, k7, el, ex, ex', Option.bind_some, Bool.not_true, frk_f]
    rw [decide_eq_false (by omega), frk_f]
    have e1 : (mkN x != (mkL x.kids 1).1) = false := by unfold mkN; simp
    rw [e1, frk_f, frk_f]
  · obtain ⟨n, hN⟩ := e1
    refine ⟨n, ?_⟩
    have k1 := hN n (Nat.le_refl n)
    rw [szv_no ht] at k1
    have e0 : Sol.mk a.inn a.pl a.kids = a := Sol.eta a
    simp only [Dlaws_FnExactTidy, e0, k1, Option.bind_some]; rfl
end Evl.T
