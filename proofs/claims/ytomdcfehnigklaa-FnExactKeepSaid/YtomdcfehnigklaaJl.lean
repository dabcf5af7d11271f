/- Texts that belong together, joined. No condition. -/
import Derived.Test.YtomdcfehnigklaaJp
import Derived.Test.YtomdcfehnigklaaJm
/-! Eps -/
namespace Evl.T
open Go Evl

theorem wth_iff (l : List Pl) (p : Pl) : wth l p = true ↔ ∃ i, i < l.length ∧ (cl2 (gt l i) p = true ∨ ∃ j, i < j ∧ j < l.length ∧ (cl3 (gt l i) (gt l j) p = true ∨ ∃ k, j < k ∧ k < l.length ∧ cl4 (gt l i) (gt l j) (gt l k) p = true)) := by
  unfold wth sAny3 sAny4
  simp only [List.any_eq_true, List.mem_range'_1, Bool.or_eq_true]
  constructor
  · rintro ⟨i, hi, h | ⟨j, hj, h | ⟨k, hk, h⟩⟩⟩
    · exact ⟨i, by omega, .inl h⟩
    · exact ⟨i, by omega, .inr ⟨j, by omega, by omega, .inl h⟩⟩
    · exact ⟨i, by omega, .inr ⟨j, by omega, by omega, .inr ⟨k, by omega, by omega, h⟩⟩⟩
  · rintro ⟨i, hi, h | ⟨j, hj, hj2, h | ⟨k, hk, hk2, h⟩⟩⟩
    · exact ⟨i, by omega, .inl h⟩
    · exact ⟨i, by omega, .inr ⟨j, by omega, .inl h⟩⟩
    · exact ⟨i, by omega, .inr ⟨j, by omega, .inr ⟨k, by omega, h⟩⟩⟩
/-- One plane less: no clash comes. -/
theorem wth_less {l1 l2 : List Pl} {x p : Pl} (h : wth (l1 ++ x :: l2) p = false) : wth (l1 ++ l2) p = false := by
  have key : ¬ wth (l1 ++ x :: l2) p = true := by simp [h]
  rw [← Bool.not_eq_true]
  intro h2
  apply key
  rw [wth_iff] at h2 ⊢
  let f : Nat → Nat := fun i => if i < l1.length then i else i + 1
  have fd : ∀ i, f i = if i < l1.length then i else i + 1 := fun _ => rfl
  have f1 : ∀ i j, i < j → f i < f j := fun i j hij => by
    rw [fd, fd]
    split <;> split <;> omega
  have f2 : ∀ i, i < (l1 ++ l2).length → f i < (l1 ++ x :: l2).length := fun i hi => by
    simp only [List.length_append, List.length_cons] at hi ⊢
    rw [fd]
    split <;> omega
  have f3 : ∀ i, gt (l1 ++ x :: l2) (f i) = gt (l1 ++ l2) i := fun i => by
    unfold gt
    show (((l1 ++ x :: l2)[if i < l1.length then i else i + 1]?).getD _) = _
    split
    · rename_i hi; rw [List.getElem?_append_left hi, List.getElem?_append_left hi]
    · rename_i hi
      rw [List.getElem?_append_right (by omega), List.getElem?_append_right (by omega), show i + 1 - l1.length = (i - l1.length) + 1 by omega, List.getElem?_cons_succ]
  obtain ⟨i, hi, h | ⟨j, hj, hj2, h | ⟨k, hk, hk2, h⟩⟩⟩ := h2
  · exact ⟨f i, f2 i hi, .inl (by rw [f3]; exact h)⟩
  · exact ⟨f i, f2 i hi, .inr ⟨f j, f1 _ _ hj, f2 j hj2, .inl (by rw [f3, f3]; exact h)⟩⟩
  · exact ⟨f i, f2 i hi, .inr ⟨f j, f1 _ _ hj, f2 j hj2, .inr ⟨f k, f1 _ _ hk, f2 k hk2, by rw [f3, f3, f3]; exact h⟩⟩⟩
theorem Rt.less {s : Sol} {path : List Pl} (h : Rt s path) : ∀ (l1 l2 : List Pl) (x : Pl), path = l1 ++ x :: l2 → Rt s (l1 ++ l2) := by
  induction h with
  | leaf hz => intro _ _ _ _; exact .leaf hz
  | @node p a b path h1 h2 h3 h4 _ _ iha ihb =>
    intro l1 l2 x e
    subst e
    refine .node h1 (by simp at h2 ⊢; omega) (wth_less h3) (wth_less h4) ?_ ?_
    · have := iha l1 (l2 ++ [p]) x (by simp)
      simpa using this
    · have := ihb l1 (l2 ++ [flp p]) x (by simp)
      simpa using this
theorem Rt.lens {s : Sol} {path : List Pl} (h : Rt s path) : Lens s := by
  induction h with
  | leaf hz => exact .mk (by simp [big]) (by simp)
  | node _ _ _ _ _ _ iha ihb =>
    refine .mk (by simp [big]) fun x hx => ?_
    simp only [List.mem_cons, List.not_mem_nil, or_false] at hx
    rcases hx with rfl | rfl
    · exact iha
    · exact ihb
end Evl.T

/-! Epl -/
namespace Evl.T
open Go Evl

/-! the same tree -/
def plEq (p q : Pl) : Bool := p.A == q.A && (p.B == q.B && (p.C == q.C && (p.D == q.D && true)))
theorem plEq_iff (p q : Pl) : plEq p q = true ↔ p = q := by
  cases p; cases q; simp [plEq]
theorem plEq_no {p q : Pl} (h : p ≠ q) : plEq p q = false := by
  rw [← Bool.not_eq_true, plEq_iff]; exact h
theorem iSameStep (n : Nat) (self : Sol × Sol → Option Bool) (i j : Bool) (p q : Pl) (k l : List Sol) : Dimpl_SameTree_b n self (.mk i p k, .mk j q l) =
    frk (i == j) (frk (plEq p q) ((frk ((k.length : Int) != (l.length : Int)) (some false) (loopN (Dslices_EqualFuncfimpl_SameTree_in_0 n self l k (k.length : Int)) n 0)).bind fun v0 => some v0) (some false)) (some false) := rfl
open Classical in
theorem kidsLoop (self : Sol × Sol → Option Bool) (F : (Int → Option Bool) → Int → Option Bool) (k l : List Sol) (hl : k.length ≤ big) (hkl : k.length = l.length) (hs : ∀ x ∈ k, ∀ y, self (x, y) = some (decide (x = y)))
    (hF : ∀ rec (t : Int), F rec t = frk (decide (t < (k.length : Int))) ((lget k t).bind fun v0 => (lget l t).bind fun v1 => (self (v0, v1)).bind fun v2 => frk (!v2) (some false) (rec (w64 (t + 1)))) (some true)) (n : Nat) (hn : k.length < n) :
    loopN F n 0 = some (decide (k = l)) := by
  have := search (F := F) (len := k.length) (b := fun t => decide (k[t]? ≠ l[t]?)) (hit := some false) (miss := some true) hl ?_ ?_ k.length 0 n (by omega) hn
  · rw [show (0 : Int) = ((0 : Nat) : Int) from rfl, this]
    by_cases h : k = l
    · subst h
      have : (List.range' 0 k.length).any (fun t => decide (k[t]? ≠ k[t]?)) = false := by simp
      rw [this]; simp
    · have : (List.range' 0 k.length).any (fun t => decide (k[t]? ≠ l[t]?)) = true := by
        rw [List.any_eq_true]
        apply Classical.byContradiction
        intro hno
        apply h
        apply List.ext_getElem?
        intro t
        rcases Nat.lt_or_ge t k.length with ht | ht
        · apply Classical.byContradiction
          intro hne
          exact hno ⟨t, by simp; omega, by simpa using hne⟩
        · rw [List.getElem?_eq_none ht, List.getElem?_eq_none (by omega)]
      rw [this]; simp [h]
  · intro rec t ht
    obtain ⟨x, hx⟩ : ∃ x, k[t]? = some x := ⟨k[t], List.getElem?_eq_getElem ht⟩
    obtain ⟨y, hy⟩ : ∃ y, l[t]? = some y := ⟨l[t]'(by omega), List.getElem?_eq_getElem (by omega)⟩
    rw [hF, lt_dec ht, frk_t, lget_nat, lget_nat, hx, hy, Option.bind_some, Option.bind_some, hs x (List.mem_of_getElem? hx) y, Option.bind_some]
    by_cases h : x = y
    · subst h; simp [frk_f]
    · simp [h, frk_t]
  · intro rec
    rw [hF, lt_self, frk_f]
open Classical in
theorem iSame : ∀ a, Lens a → E2 fun n m => ∀ b, loopN (Dimpl_SameTree_b n) m (a, b) = some (decide (a = b)) := by
  refine sol_ind fun i p k ih hl => ?_
  cases hl with
  | mk hk hx =>
    have h1 := E2.all fun x hxm => ih x hxm (hx x hxm)
    have h2 : E2 fun n _ => k.length < n := ⟨k.length + 1, fun n hn _ _ => by omega⟩
    refine E2.suc ((h1.and h2).mono fun n m ⟨h1, h2⟩ b => ?_)
    obtain ⟨j, q, l⟩ := b
    rw [loop_suc, iSameStep]
    by_cases e1 : i = j
    · subst e1
      rw [beq_self_eq_true, frk_t]
      by_cases e2 : p = q
      · subst e2
        rw [(plEq_iff p p).2 rfl, frk_t]
        by_cases e3 : k.length = l.length
        · rw [show ((k.length : Int) != (l.length : Int)) = false by simp [e3], frk_f, kidsLoop _ (Dslices_EqualFuncfimpl_SameTree_in_0 n (loopN (Dimpl_SameTree_b n) m) l k (k.length : Int)) k l hk e3 h1 (fun _ _ => rfl) n h2]
          simp
        · rw [show ((k.length : Int) != (l.length : Int)) = true by simp; omega, frk_t]
          have : k ≠ l := fun e => e3 (by rw [e])
          simp [this]
      · rw [plEq_no e2, frk_f]; simp [e2]
    · rw [show (i == j) = false by simp [e1], frk_f]; simp [e1]
end Evl.T

/-! Eqa -/
namespace Evl.T
open Go Evl

mutual
def mk1 : Sol → Int → Int × Sol
  | .mk _ _ kids, k => ((mkL kids (k + 1 + 1 + 1 + 1 + 1)).1, .mk (Int.tmod k 3 == 0) ⟨k + 1, k + 1 + 1, k + 1 + 1 + 1, k + 1 + 1 + 1 + 1⟩ (mkL kids (k + 1 + 1 + 1 + 1 + 1)).2)
def mkL : List Sol → Int → Int × List Sol
  | [], k => (k, [])
  | x :: xs, k => ((mkL xs (mk1 x k).1).1, (mk1 x k).2 :: (mkL xs (mk1 x k).1).2)
end
theorem mkL_nil (k : Int) : mkL [] k = (k, []) := by rw [mkL]
theorem mkL_cons (x : Sol) (xs : List Sol) (k : Int) : mkL (x :: xs) k = ((mkL xs (mk1 x k).1).1, (mk1 x k).2 :: (mkL xs (mk1 x k).1).2) := by rw [mkL]
theorem mk1_eq (x : Sol) (k : Int) : mk1 x k = ((mkL x.kids (k + 1 + 1 + 1 + 1 + 1)).1, .mk (Int.tmod k 3 == 0) ⟨k + 1, k + 1 + 1, k + 1 + 1 + 1, k + 1 + 1 + 1 + 1⟩ (mkL x.kids (k + 1 + 1 + 1 + 1 + 1)).2) := by
  cases x; rw [mk1]; rfl
mutual
theorem mk1_fst : ∀ (x : Sol) (k : Int), (mk1 x k).1 = k + 5 + 5 * (tot x : Int)
  | .mk i p kids, k => by
    rw [mk1]
    have := mkL_fst kids (k + 1 + 1 + 1 + 1 + 1)
    rw [tot_mk]
    show (mkL kids (k + 1 + 1 + 1 + 1 + 1)).1 = _
    rw [this]; push_cast; omega
theorem mkL_fst : ∀ (l : List Sol) (k : Int), (mkL l k).1 = k + 5 * ((l.length : Int) + (totL l : Int))
  | [], k => by rw [mkL, totL]; simp
  | x :: xs, k => by
    rw [mkL]
    have h1 := mk1_fst x k
    have h2 := mkL_fst xs (mk1 x k).1
    show (mkL xs (mk1 x k).1).1 = _
    rw [h2, h1, totL, List.length_cons]; push_cast; omega
end
theorem mkL_len : ∀ (l : List Sol) (k : Int), (mkL l k).2.length = l.length
  | [], k => by rw [mkL]
  | x :: xs, k => by rw [mkL]; simp [mkL_len xs]

def gig : Int := 1000000000
theorem wk {k : Int} (h0 : 0 ≤ k) (h1 : k + 5 ≤ gig) : w64 (k + 1) = k + 1 ∧ w64 (k + 1 + 1) = k + 1 + 1 ∧ w64 (k + 1 + 1 + 1) = k + 1 + 1 + 1 ∧ w64 (k + 1 + 1 + 1 + 1) = k + 1 + 1 + 1 + 1 ∧ w64 (k + 1 + 1 + 1 + 1 + 1) = k + 1 + 1 + 1 + 1 + 1 := by
  unfold gig at h1
  refine ⟨?_, ?_, ?_, ?_, ?_⟩ <;> exact w64_id (by omega) (by omega)
theorem lget_mid (P : List Sol) (y : Sol) (r : List Sol) : lget (P ++ y :: r) ((P.length : Nat) : Int) = some y := by
  rw [lget_nat, List.getElem?_append_right (Nat.le_refl _)]; simp
theorem set_mid' (P : List Sol) (y z : Sol) (r : List Sol) : (P ++ y :: r).set (Int.toNat ((P.length : Nat) : Int)) z = P ++ z :: r := by
  rw [Int.toNat_natCast, List.set_append_right _ _ (Nat.le_refl _)]; simp
theorem markLoop (n : Nat) (self : List Sol × Int → Option (Int × List Sol)) : ∀ (r P : List Sol) (m : Nat) (k : Int), (∀ x ∈ r, ∀ k : Int, 0 ≤ k → k + 5 * (tot x : Int) ≤ gig → self (x.kids, k) = some (mkL x.kids k)) → r.length < m → P.length + r.length < big → 0 ≤ k → k + 5 * ((r.length : Int) + (totL r : Int)) ≤ gig →
    loopN (Dlaws_markSolidS_1 n self) m (k, ((P.length : Nat) : Int), P ++ r) = some ((mkL r k).1, P ++ (mkL r k).2) := by
  intro r
  induction r with
  | nil =>
    intro P m k hs hm hb h0 h1
    obtain ⟨m, rfl⟩ : ∃ q, m = q + 1 := ⟨m - 1, by omega⟩
    rw [loop_suc]
    simp only [Dlaws_markSolidS_1, List.append_nil, lt_self, frk_f, mkL_nil]
  | cons x r ih =>
    intro P m k hs hm hb h0 h1
    simp only [List.length_cons] at hm hb h1
    obtain ⟨m, rfl⟩ : ∃ q, m = q + 1 := ⟨m - 1, by omega⟩
    rw [totL] at h1
    push_cast at h1
    obtain ⟨w1, w2, w3, w4, w5⟩ := wk h0 (by omega)
    have hlt : ∀ y : Sol, decide (((P.length : Nat) : Int) < ((P ++ y :: r).length : Int)) = true := fun y => by simp; omega
    obtain ⟨xi, xp, xk⟩ := x
    have hself : self (xk, k + 1 + 1 + 1 + 1 + 1) = some (mkL xk (k + 1 + 1 + 1 + 1 + 1)) := hs _ List.mem_cons_self (k + 1 + 1 + 1 + 1 + 1) (by omega) (by omega)
    have hsuc : w64 (((P.length : Nat) : Int) + 1) = (((P ++ [(mk1 (.mk xi xp xk) k).2]).length : Nat) : Int) := by rw [w64_suc (by omega)]; simp
    rw [loop_suc]
    simp only [Dlaws_markSolidS_1, Dlaws_markSolidS_0, hlt, frk_t, lget_mid, set_mid', Option.bind_some, Sol.inn, Sol.pl, Sol.kids, w1, w2, w3, w4, w5]
    rw [hself, Option.bind_some, hsuc]
    have e : (Sol.mk (Int.tmod k 3 == 0) ⟨k + 1, k + 1 + 1, k + 1 + 1 + 1, k + 1 + 1 + 1 + 1⟩ (mkL xk (k + 1 + 1 + 1 + 1 + 1)).2) = (mk1 (.mk xi xp xk) k).2 := by rw [mk1]
    have e1 : (mkL xk (k + 1 + 1 + 1 + 1 + 1)).1 = (mk1 (.mk xi xp xk) k).1 := by rw [mk1]
    rw [e, e1, show P ++ (mk1 (.mk xi xp xk) k).2 :: r = (P ++ [(mk1 (.mk xi xp xk) k).2]) ++ r by simp]
    have hf := mk1_fst (.mk xi xp xk) k
    rw [ih (P ++ [(mk1 (.mk xi xp xk) k).2]) m (mk1 (.mk xi xp xk) k).1 (fun y hy => hs y (List.mem_cons_of_mem _ hy)) (by omega) (by simp; omega) (by omega) (by omega), mkL_cons]
    simp
theorem markOk : ∀ s, Lens s → tot s ≤ 1048576 → E2 fun n m => ∀ k : Int, 0 ≤ k → k + 5 * (tot s : Int) ≤ gig → loopN (Dlaws_markSolidS_b n) m (s.kids, k) = some (mkL s.kids k) := by
  refine sol_ind fun i p k ih hl ht => ?_
  rw [tot_mk] at ht
  cases hl with
  | mk hb hk =>
    have h1 := E2.all fun x hx => ih x hx (hk x hx) (by have := tot_le hx; omega)
    have h2 : E2 fun n _ => k.length < n := ⟨k.length + 1, fun n hn _ _ => by omega⟩
    refine E2.suc ((h1.and h2).mono fun n m ⟨h1, h2⟩ q hq0 hq1 => ?_)
    rw [tot_mk] at hq1
    push_cast at hq1
    rw [loop_suc]
    show loopN (Dlaws_markSolidS_1 n _) n (q, 0, k) = some (mkL k q)
    have := markLoop n (loopN (Dlaws_markSolidS_b n) m) k [] n q h1 h2 (by simp; unfold big; omega) hq0 hq1
    simpa using this
theorem markL (l : List Sol) (hl : ∀ x ∈ l, Lens x) (hlen : l.length ≤ big) (ht : l.length + totL l ≤ 1048576) : Ev fun n => Dlaws_markSolidS n l 1 = some (mkL l 1) :=
  (markOk (.mk false ⟨0, 0, 0, 0⟩ l) (.mk hlen hl) (by rw [tot_mk]; exact ht)).ev.mono fun n h => h 1 (by decide) (by rw [tot_mk]; unfold gig; omega)

theorem kidsOf {s : Sol} (h : Lens s) : s.kids.length ≤ big ∧ (∀ x ∈ s.kids, Lens x) ∧ tot s = s.kids.length + totL s.kids := by
  cases h with
  | mk hb hk => exact ⟨hb, hk, tot_mk _ _ _⟩
/-- A tree is marked: the number that comes back. -/
def mkN (s : Sol) : Int := (mkL s.kids 1).1
theorem mkN_ge (s : Sol) : 1 ≤ mkN s := by unfold mkN; rw [mkL_fst]; omega
theorem marks {s : Sol} (h : Lens s) (ht : tot s ≤ 1048576) : Ev fun n => Dlaws_markSolidS n s.kids 1 = some (mkL s.kids 1) := by
  obtain ⟨h1, h2, h3⟩ := kidsOf h
  exact markL s.kids h2 h1 (by omega)
theorem mkN_lt (s : Sol) : decide ((mkL s.kids 1).1 < 0) = false := decide_eq_false (by have := mkN_ge s; unfold mkN at this; omega)
theorem mkN_lt' (s : Sol) : decide (mkN s < 0) = false := mkN_lt s

/-- A tree that forks in two. -/
inductive Tw : Sol → Prop
  | leaf {i p} : Tw (.mk i p [])
  | node {i p a b} : Tw a → Tw b → Tw (.mk i p [a, b])
theorem Tw.lens {s : Sol} (h : Tw s) : Lens s := by
  induction h with
  | leaf => exact .mk (by simp [big]) (by simp)
  | node _ _ iha ihb =>
    refine .mk (by simp [big]) fun x hx => ?_
    simp only [List.mem_cons, List.not_mem_nil, or_false] at hx
    rcases hx with rfl | rfl
    · exact iha
    · exact ihb
theorem Tw.tot {s : Sol} (h : Tw s) : Evl.T.tot s = 2 * nod s := by
  induction h with
  | leaf => rw [tot_mk, nod_leaf]; simp [totL]
  | node _ _ iha ihb => rw [tot_mk, nod2]; simp only [totL, List.length_cons, List.length_nil, iha, ihb]; omega
theorem Rt.tw {s : Sol} {l : List Pl} (h : Rt s l) : Tw s := by
  induction h with
  | leaf _ => exact .leaf
  | node _ _ _ _ _ _ iha ihb => exact .node iha ihb

/-- The same, from any number on. -/
theorem markAt {s : Sol} (h : Lens s) (ht : tot s ≤ 1048576) : Ev fun n => ∀ k : Int, 0 ≤ k → k ≤ 900000000 → Dlaws_markSolidS n s.kids k = some (mkL s.kids k) :=
  (markOk s h ht).ev.mono fun n hn k h0 h1 => hn k h0 (by unfold gig; omega)
theorem mkL_tot {s : Sol} (k : Int) : (mkL s.kids k).1 = k + 5 * (tot s : Int) := by
  rw [mkL_fst]; cases s; rw [tot_mk]; push_cast; rfl
end Evl.T

/-! Eqo -/
namespace Evl.T
open Go Evl

theorem heldLoop (n : Nat) (self : List Sol × Int → Option Int) (L : List Sol) (hL : L.length ≤ big) : ∀ (r : List Sol) (i m : Nat) (k : Int), (∀ x ∈ r, ∀ k : Int, 0 ≤ k → k + 5 * (tot x : Int) ≤ gig → self ((mkL x.kids k).2, k) = some (mkL x.kids k).1) → L.drop i = (mkL r k).2 → i ≤ L.length → r.length < m → 0 ≤ k → k + 5 * ((r.length : Int) + (totL r : Int)) ≤ gig →
    loopN (Dlaws_heldSolidS_0 n self L) m (k, (i : Int)) = some (mkL r k).1 := by
  intro r
  induction r with
  | nil =>
    intro i m k hs hd hi hm h0 h1
    obtain ⟨m, rfl⟩ : ∃ q, m = q + 1 := ⟨m - 1, by omega⟩
    rw [mkL_nil] at hd
    have : i = L.length := by have := List.drop_eq_nil_iff.1 hd; omega
    subst this
    rw [loop_suc]
    simp only [Dlaws_heldSolidS_0, lt_self, frk_f, mkL_nil]
  | cons x r ih =>
    intro i m k hs hd hi hm h0 h1
    simp only [List.length_cons] at hm h1
    obtain ⟨m, rfl⟩ : ∃ q, m = q + 1 := ⟨m - 1, by omega⟩
    rw [totL] at h1
    push_cast at h1
    obtain ⟨w1, w2, w3, w4, w5⟩ := wk h0 (by omega)
    rw [mkL_cons] at hd
    obtain ⟨hil, hx, hd', -⟩ := drop_get hd
    obtain ⟨xi, xp, xk⟩ := x
    have hself : self ((mkL xk (k + 1 + 1 + 1 + 1 + 1)).2, k + 1 + 1 + 1 + 1 + 1) = some (mkL xk (k + 1 + 1 + 1 + 1 + 1)).1 := hs _ List.mem_cons_self (k + 1 + 1 + 1 + 1 + 1) (by omega) (by omega)
    have hf := mk1_fst (.mk xi xp xk) k
    have e1 : (mkL xk (k + 1 + 1 + 1 + 1 + 1)).1 = (mk1 (.mk xi xp xk) k).1 := by rw [mk1]
    have hnn : decide ((mkL xk (k + 1 + 1 + 1 + 1 + 1)).1 < 0) = false := decide_eq_false (by rw [e1]; omega)
    rw [loop_suc]
    simp only [Dlaws_heldSolidS_0, lt_dec hil, frk_t, lget_nat, hx, Option.bind_some, w1, w2, w3, w4, w5]
    simp only [mk1, Sol.inn, Sol.pl, Sol.kids, beq_self_eq_true, Bool.not_true, frk_f, bne_self_eq_false]
    rw [hself, Option.bind_some, hnn, frk_f, w64_suc (by omega), e1]
    rw [ih (i + 1) m (mk1 (.mk xi xp xk) k).1 (fun y hy => hs y (List.mem_cons_of_mem _ hy)) hd' (by omega) (by omega) (by omega) (by omega), mkL_cons]
theorem heldOk : ∀ s, Lens s → tot s ≤ 1048576 → E2 fun n m => ∀ k : Int, 0 ≤ k → k + 5 * (tot s : Int) ≤ gig → loopN (Dlaws_heldSolidS_b n) m ((mkL s.kids k).2, k) = some (mkL s.kids k).1 := by
  refine sol_ind fun i p k ih hl ht => ?_
  rw [tot_mk] at ht
  cases hl with
  | mk hb hk =>
    have h1 := E2.all fun x hx => ih x hx (hk x hx) (by have := tot_le hx; omega)
    have h2 : E2 fun n _ => k.length < n := ⟨k.length + 1, fun n hn _ _ => by omega⟩
    refine E2.suc ((h1.and h2).mono fun n m ⟨h1, h2⟩ q hq0 hq1 => ?_)
    rw [tot_mk] at hq1
    push_cast at hq1
    rw [loop_suc]
    show loopN (Dlaws_heldSolidS_0 n _ (mkL k q).2) n (q, 0) = some (mkL k q).1
    exact heldLoop n (loopN (Dlaws_heldSolidS_b n) m) (mkL k q).2 (by rw [mkL_len]; exact hb) k 0 n q h1 (by simp) (by omega) h2 hq0 hq1
theorem heldL (s : Sol) (l : List Sol) (hs : s.kids = (mkL l 1).2) (hl : ∀ x ∈ l, Lens x) (hlen : l.length ≤ big) (ht : l.length + totL l ≤ 1048576) : Ev fun n => Dlaws_heldSolid n s 1 = some (mkL l 1).1 :=
  (heldOk (.mk false ⟨0, 0, 0, 0⟩ l) (.mk hlen hl) (by rw [tot_mk]; exact ht)).ev.mono fun n h => by
    have := h 1 (by decide) (by rw [tot_mk]; unfold gig; omega)
    have h1 := mkL_fst l 1
    unfold Dlaws_heldSolid Dlaws_heldSolidS
    rw [hs]
    have e : loopN (Dlaws_heldSolidS_b n) n ((mkL l 1).2, 1) = some (mkL l 1).1 := this
    rw [e, Option.bind_some, decide_eq_false (by omega), frk_f]

theorem helds {s : Sol} (h : Lens s) (ht : tot s ≤ 1048576) : Ev fun n => Dlaws_heldSolid n (Sol.mk s.inn s.pl (mkL s.kids 1).2) 1 = some (mkN s) := by
  obtain ⟨h1, h2, h3⟩ := kidsOf h
  exact heldL _ s.kids rfl h2 h1 (by omega)
theorem heldAt {s : Sol} (h : Lens s) (ht : tot s ≤ 1048576) : Ev fun n => ∀ k : Int, 0 ≤ k → k ≤ 900000000 → Dlaws_heldSolid n (Sol.mk s.inn s.pl (mkL s.kids k).2) k = some (mkL s.kids k).1 :=
  (heldOk s h ht).ev.mono fun n hn k h0 h1 => by
    have h2 := hn k h0 (by unfold gig; omega)
    have h3 := mkL_fst s.kids k
    unfold Dlaws_heldSolid Dlaws_heldSolidS
    have e : loopN (Dlaws_heldSolidS_b n) n ((mkL s.kids k).2, k) = some (mkL s.kids k).1 := h2
    show ((loopN (Dlaws_heldSolidS_b n) n ((mkL s.kids k).2, k)).bind _) = _
    rw [e, Option.bind_some, decide_eq_false (by omega), frk_f]
end Evl.T

/-! Eso -/
namespace Evl.T
open Go Evl

/-- Each plane of a tree is another one. -/
inductive Mp (f : Pl → Pl) : Sol → Sol → Prop
  | leaf {i p} : Mp f (.mk i p []) (.mk i ⟨0, 0, 0, 0⟩ [])
  | node {i p a b x y} : Mp f a x → Mp f b y → Mp f (.mk i p [a, b]) (.mk false (f p) [x, y])
theorem Mp.out {f : Pl → Pl} {s x : Sol} (h : Mp f s x) : Tw x ∧ nod x = nod s := by
  induction h with
  | leaf => exact ⟨.leaf, by rw [nod_leaf, nod_leaf]⟩
  | node _ _ iha ihb => exact ⟨.node iha.1 ihb.1, by rw [nod2, nod2, iha.2, ihb.2]⟩
theorem Mp.comp {f g : Pl → Pl} {s x : Sol} (h : Mp f s x) : ∀ {y}, Mp g x y → Mp (fun p => g (f p)) s y := by
  induction h with
  | leaf => intro y h; cases h; exact .leaf
  | node _ _ iha ihb => intro y h; cases h with | node h1 h2 => exact .node (iha h1) (ihb h2)
theorem Mp.exists {s : Sol} (h : Tw s) (f : Pl → Pl) : ∃ x, Mp f s x := by
  induction h with
  | leaf => exact ⟨_, .leaf⟩
  | node _ _ iha ihb => obtain ⟨x, hx⟩ := iha; obtain ⟨y, hy⟩ := ihb; exact ⟨_, .node hx hy⟩
theorem Mp.self {s : Sol} {l : List Pl} (h : Rt s l) : Mp (fun p => p) s s := by
  induction h with
  | @leaf i p path hz =>
    have : p = ⟨0, 0, 0, 0⟩ := by
      unfold zPl at hz
      simp only [Bool.and_true, Bool.and_eq_true, beq_iff_eq] at hz
      cases p; simp_all
    subst this; exact .leaf
  | node _ _ _ _ _ _ iha ihb => exact .node iha ihb
end Evl.T

/-! Eqk -/
namespace Evl.T
open Go Evl

theorem ap64 {k : Nat} (h : k ≤ 1048576) : apB 64 k = true := by
  simp only [apB, Bool.and_eq_true, decide_eq_true_eq]; omega
/-- A list is copied one by one. -/
theorem copyLoop {F : (Int × List Sol → Option Sol) → Int × List Sol → Option Sol} {self : Sol → Option Sol} {l : List Sol} {R : List Sol → Option Sol} (hl : l.length ≤ 1048576) (hs : ∀ x ∈ l, self x = some x)
    (hF : ∀ rec (t : Int) (d : List Sol), F rec (t, d) = frk (decide (t < (l.length : Int))) ((lget l t).bind fun v0 => (self v0).bind fun v1 => chk (apB 64 (d.length + 1)) (rec (w64 (t + 1), d ++ [v1]))) (R d)) :
    ∀ (r : List Sol) (k m : Nat), l.drop k = r → k ≤ l.length → r.length < m → loopN F m ((k : Int), l.take k) = R l := by
  intro r
  induction r with
  | nil =>
    intro k m hr hk hm
    obtain ⟨m, rfl⟩ : ∃ j, m = j + 1 := ⟨m - 1, by omega⟩
    have hk : k = l.length := by have := List.drop_eq_nil_iff.1 hr; omega
    rw [loop_suc, hF, hk, lt_self, frk_f, List.take_length]
  | cons x r ih =>
    intro k m hr hk hm
    simp only [List.length_cons] at hm
    obtain ⟨m, rfl⟩ : ∃ j, m = j + 1 := ⟨m - 1, by omega⟩
    obtain ⟨hkl, hx, hr', hmem⟩ := drop_get hr
    have ht : (l.take k).length = k := by rw [List.length_take]; omega
    rw [loop_suc, hF, lt_dec hkl, frk_t, lget_nat, hx, Option.bind_some, hs x hmem, Option.bind_some, chk_eq (ap64 (by rw [ht]; omega)), w64_suc (by unfold big; omega)]
    have e : l.take k ++ [x] = l.take (k + 1) := by rw [List.take_add_one, hx]; simp
    rw [e]
    exact ih (k + 1) m hr' (by omega) (by omega)
theorem sCopy : ∀ s, tot s ≤ 1048576 → E2 fun n m => loopN (Dspec_l8Copy_b n) m s = some s := by
  refine sol_ind fun i p k ih hl => ?_
  rw [tot_mk] at hl
  have h1 := E2.all fun x hx => ih x hx (by have := tot_le hx; omega)
  have h2 : E2 fun n _ => k.length < n := ⟨k.length + 1, fun n hn _ _ => by omega⟩
  refine E2.suc ((h1.and h2).mono fun n m ⟨h1, h2⟩ => ?_)
  rw [loop_suc]
  exact copyLoop (F := Dspec_l8Copy_0 n (loopN (Dspec_l8Copy_b n) m) i p.A p.B p.C p.D k false 0 0 0 0 i p.A p.B p.C p.D) (l := k) (R := fun d => some (.mk i p d)) (by omega) h1 (fun _ _ _ => rfl) k 0 n (by simp) (by omega) h2
theorem iCopy : ∀ s, tot s ≤ 1048576 → E2 fun n m => loopN (Dimpl_copySolid_b n) m s = some s := by
  refine sol_ind fun i p k ih hl => ?_
  rw [tot_mk] at hl
  have h1 := E2.all fun x hx => ih x hx (by have := tot_le hx; omega)
  have h2 : E2 fun n _ => k.length < n := ⟨k.length + 1, fun n hn _ _ => by omega⟩
  refine E2.suc ((h1.and h2).mono fun n m ⟨h1, h2⟩ => ?_)
  rw [loop_suc]
  exact copyLoop (F := Dimpl_copySolid_0 n (loopN (Dimpl_copySolid_b n) m) k (k.length : Int) false 0 0 0 0 i p.A p.B p.C p.D) (l := k) (R := fun d => some (.mk i p d)) (by omega) h1 (fun _ _ _ => rfl) k 0 n (by simp) (by omega) h2
theorem sCopyE {s : Sol} (h : tot s ≤ 1048576) : Ev fun n => Dspec_l8Copy n s = some s := (sCopy s h).ev
theorem iCopyE {s : Sol} (h : tot s ≤ 1048576) : Ev fun n => Dimpl_copySolid n s = some s := (iCopy s h).ev

end Evl.T

/-! Eqe -/
namespace Evl.T
open Go Evl

theorem iNodesStep (n : Nat) (self : Sol → Option Int) (i : Bool) (p : Pl) (k : List Sol) : Dimpl_Solid_nodes_b n self (.mk i p k) = frk ((k.length : Int) == 0) (some 0) ((lget k 0).bind fun v1 => (self v1).bind fun v2 => (lget k 1).bind fun v3 => (self v3).bind fun v4 => some (w64 ((w64 (1 + v2)) + v4))) := rfl
theorem iNodes {s : Sol} {path : List Pl} (h : Rt s path) : nod s ≤ 1000000 → E2 fun n m => loopN (Dimpl_Solid_nodes_b n) m s = some ((nod s : Nat) : Int) := by
  induction h with
  | @leaf i p path hz => intro _; exact E2.suc (E2.of fun n m => by rw [loop_suc, iNodesStep, nod_leaf]; rfl)
  | @node p a b path h1 h2 h3 h4 _ _ iha ihb =>
    intro hn
    rw [nod2] at hn
    refine E2.suc (((iha (by omega)).and (ihb (by omega))).mono fun n m ⟨h1, h2⟩ => ?_)
    rw [loop_suc, iNodesStep, show ((([a, b] : List Sol).length : Int) == 0) = false from rfl, frk_f]
    show ((some a).bind _) = _
    rw [Option.bind_some, h1, Option.bind_some]
    show ((some b).bind _) = _
    rw [Option.bind_some, h2, Option.bind_some, w64_id (x := 1 + ((nod a : Nat) : Int)) (by omega) (by omega), w64_id (by omega) (by omega), nod2]
    congr 1; omega
end Evl.T

/-! Esm -/
namespace Evl.T
open Go Evl

def zs : Sol := .mk false ⟨0, 0, 0, 0⟩ []
abbrev S8 := Sol × Sol × Sol × Sol × Sol × Sol × Sol × Sol
abbrev B8 := Bool × Bool × Bool × Bool × Bool × Bool × Bool × Bool
theorem zs_right : Right zs := ⟨.leaf rfl, by unfold zs; rw [nod_leaf]; omega⟩
open Classical in
theorem none_iff (s : Sol) : Dspec_l20None s = some (decide (s = zs)) := by
  obtain ⟨i, p, k⟩ := s
  unfold zs
  show frk (!i) (frk (plEq p ⟨0, 0, 0, 0⟩) (some ((k.length : Int) == 0)) (some false)) (some false) = _
  cases i with
  | true => rw [Bool.not_true, frk_f]; simp
  | false =>
    rw [Bool.not_false, frk_t]
    by_cases hp : p = ⟨0, 0, 0, 0⟩
    · subst hp
      rw [(plEq_iff _ _).2 rfl, frk_t]
      cases k with
      | nil => simp
      | cons x k =>
        have : ((((x :: k) : List Sol).length : Int) == 0) = false := by simp; omega
        rw [this]; simp
    · rw [plEq_no hp, frk_f]; simp [hp]
def stI (ok z h : Bool) (rest : Option Bool) : Option Bool := frk (!ok) (some false) (frk (!h) (frk (!z) (some false) rest) rest)
def stS (ok z h : Bool) (rest : Option Bool) : Option Bool := frk h (frk (!ok) (some false) (frk (!h) (frk (!z) (some false) rest) rest)) (frk (!h) (frk (!z) (some false) rest) rest)
theorem stI_eq (ok z h : Bool) (rest : Option Bool) : stI ok z h rest = frk (ok && (h || z)) rest (some false) := by
  cases ok <;> cases z <;> cases h <;> rfl
theorem stS_eq (ok z h : Bool) (rest : Option Bool) (hz : z = true → ok = true) : stS ok z h rest = frk (ok && (h || z)) rest (some false) := by
  cases ok <;> cases z <;> cases h <;> first | rfl | (have := hz rfl; cases this)
theorem frk_congr {b : Bool} {x y z : Option Bool} (h : b = true → x = y) : frk b x z = frk b y z := by
  cases b
  · rfl
  · exact h rfl
theorem stepSz {f rest : Int → Option Int} {t : Nat} {Q : Prop} (hA : ∀ left, 0 ≤ left → left ≤ mil → f left = some (szv t left)) (hB : ∀ left, 0 ≤ left → left ≤ mil → ∃ v, rest left = some v ∧ (v < 0 ∨ Q)) :
    ∀ left, 0 ≤ left → left ≤ mil → ∃ v, ((f left).bind fun v0 => frk (decide (v0 < 0)) (some (-1)) (rest v0)) = some v ∧ (v < 0 ∨ (t ≤ 1048576 ∧ Q)) := by
  intro left h0 h1
  unfold mil at h1
  rw [hA left h0 h1, Option.bind_some]
  by_cases hc : (t : Int) ≤ left
  · rw [szv_yes hc, decide_eq_false (by omega), frk_f]
    obtain ⟨v, e, h⟩ := hB (left - t) (by omega) (by unfold mil; omega)
    exact ⟨v, e, h.imp id fun h => ⟨by omega, h⟩⟩
  · rw [szv_no hc]; exact ⟨-1, rfl, .inl (by omega)⟩
theorem szAll (s : Sol) (h : Lens s) : Ev fun n => ∀ left : Int, 0 ≤ left → left ≤ mil → Dlaws_szSolid n s left = some (szv (tot s) left) := (szOk s h).ev
open Classical in
theorem iNodesR (s : Sol) : Ev fun n => Right s → Dimpl_Solid_nodes n s = some ((nod s : Nat) : Int) := by
  by_cases h : Right s
  · exact ((iNodes h.1 (by have := h.2; omega)).ev).mono fun n e _ => e
  · exact Ev.of fun n h' => absurd h' h

open Classical in
/-- Right, as a Bool. -/
noncomputable def rt (s : Sol) : Bool := decide (Right s)
open Classical in
noncomputable def isz (s : Sol) : Bool := decide (s = zs)
theorem rt_iff {s : Sol} : rt s = true ↔ Right s := by unfold rt; simp
theorem isz_rt {s : Sol} (h : isz s = true) : rt s = true := by
  unfold isz at h; simp only [decide_eq_true_eq] at h; subst h; exact rt_iff.2 zs_right
theorem none_eq (s : Sol) : Dspec_l20None s = some (isz s) := none_iff s
def Desk8 (d : S8 × B8) : Prop := Lens d.1.1 ∧ Lens d.1.2.1 ∧ Lens d.1.2.2.1 ∧ Lens d.1.2.2.2.1 ∧ Lens d.1.2.2.2.2.1 ∧ Lens d.1.2.2.2.2.2.1 ∧ Lens d.1.2.2.2.2.2.2.1 ∧ Lens d.1.2.2.2.2.2.2.2
/-- What is known of the eight solids, with fuel enough. -/
structure DF (n : Nat) (d : S8 × B8) : Prop where
  sz1 : ∀ left : Int, 0 ≤ left → left ≤ mil → Dlaws_szSolid n d.1.1 left = some (szv (tot d.1.1) left)
  sok1 : Dspec_SolidOk n d.1.1 = some (rt d.1.1)
  iok1 : Dimpl_SolidOk n d.1.1 = some (rt d.1.1)
  cn1 : Dspec_l8Count n d.1.1 301 = some (cnv (nod d.1.1) 301)
  nd1 : Right d.1.1 → Dimpl_Solid_nodes n d.1.1 = some ((nod d.1.1 : Nat) : Int)
  sm1 : Dimpl_SameTree n d.1.1 zs = some (isz d.1.1)
  sz2 : ∀ left : Int, 0 ≤ left → left ≤ mil → Dlaws_szSolid n d.1.2.1 left = some (szv (tot d.1.2.1) left)
  sok2 : Dspec_SolidOk n d.1.2.1 = some (rt d.1.2.1)
  iok2 : Dimpl_SolidOk n d.1.2.1 = some (rt d.1.2.1)
  cn2 : Dspec_l8Count n d.1.2.1 301 = some (cnv (nod d.1.2.1) 301)
  nd2 : Right d.1.2.1 → Dimpl_Solid_nodes n d.1.2.1 = some ((nod d.1.2.1 : Nat) : Int)
  sm2 : Dimpl_SameTree n d.1.2.1 zs = some (isz d.1.2.1)
  sz3 : ∀ left : Int, 0 ≤ left → left ≤ mil → Dlaws_szSolid n d.1.2.2.1 left = some (szv (tot d.1.2.2.1) left)
  sok3 : Dspec_SolidOk n d.1.2.2.1 = some (rt d.1.2.2.1)
  iok3 : Dimpl_SolidOk n d.1.2.2.1 = some (rt d.1.2.2.1)
  cn3 : Dspec_l8Count n d.1.2.2.1 301 = some (cnv (nod d.1.2.2.1) 301)
  nd3 : Right d.1.2.2.1 → Dimpl_Solid_nodes n d.1.2.2.1 = some ((nod d.1.2.2.1 : Nat) : Int)
  sm3 : Dimpl_SameTree n d.1.2.2.1 zs = some (isz d.1.2.2.1)
  sz4 : ∀ left : Int, 0 ≤ left → left ≤ mil → Dlaws_szSolid n d.1.2.2.2.1 left = some (szv (tot d.1.2.2.2.1) left)
  sok4 : Dspec_SolidOk n d.1.2.2.2.1 = some (rt d.1.2.2.2.1)
  iok4 : Dimpl_SolidOk n d.1.2.2.2.1 = some (rt d.1.2.2.2.1)
  cn4 : Dspec_l8Count n d.1.2.2.2.1 301 = some (cnv (nod d.1.2.2.2.1) 301)
  nd4 : Right d.1.2.2.2.1 → Dimpl_Solid_nodes n d.1.2.2.2.1 = some ((nod d.1.2.2.2.1 : Nat) : Int)
  sm4 : Dimpl_SameTree n d.1.2.2.2.1 zs = some (isz d.1.2.2.2.1)
  sz5 : ∀ left : Int, 0 ≤ left → left ≤ mil → Dlaws_szSolid n d.1.2.2.2.2.1 left = some (szv (tot d.1.2.2.2.2.1) left)
  sok5 : Dspec_SolidOk n d.1.2.2.2.2.1 = some (rt d.1.2.2.2.2.1)
  iok5 : Dimpl_SolidOk n d.1.2.2.2.2.1 = some (rt d.1.2.2.2.2.1)
  cn5 : Dspec_l8Count n d.1.2.2.2.2.1 301 = some (cnv (nod d.1.2.2.2.2.1) 301)
  nd5 : Right d.1.2.2.2.2.1 → Dimpl_Solid_nodes n d.1.2.2.2.2.1 = some ((nod d.1.2.2.2.2.1 : Nat) : Int)
  sm5 : Dimpl_SameTree n d.1.2.2.2.2.1 zs = some (isz d.1.2.2.2.2.1)
  sz6 : ∀ left : Int, 0 ≤ left → left ≤ mil → Dlaws_szSolid n d.1.2.2.2.2.2.1 left = some (szv (tot d.1.2.2.2.2.2.1) left)
  sok6 : Dspec_SolidOk n d.1.2.2.2.2.2.1 = some (rt d.1.2.2.2.2.2.1)
  iok6 : Dimpl_SolidOk n d.1.2.2.2.2.2.1 = some (rt d.1.2.2.2.2.2.1)
  cn6 : Dspec_l8Count n d.1.2.2.2.2.2.1 301 = some (cnv (nod d.1.2.2.2.2.2.1) 301)
  nd6 : Right d.1.2.2.2.2.2.1 → Dimpl_Solid_nodes n d.1.2.2.2.2.2.1 = some ((nod d.1.2.2.2.2.2.1 : Nat) : Int)
  sm6 : Dimpl_SameTree n d.1.2.2.2.2.2.1 zs = some (isz d.1.2.2.2.2.2.1)
  sz7 : ∀ left : Int, 0 ≤ left → left ≤ mil → Dlaws_szSolid n d.1.2.2.2.2.2.2.1 left = some (szv (tot d.1.2.2.2.2.2.2.1) left)
  sok7 : Dspec_SolidOk n d.1.2.2.2.2.2.2.1 = some (rt d.1.2.2.2.2.2.2.1)
  iok7 : Dimpl_SolidOk n d.1.2.2.2.2.2.2.1 = some (rt d.1.2.2.2.2.2.2.1)
  cn7 : Dspec_l8Count n d.1.2.2.2.2.2.2.1 301 = some (cnv (nod d.1.2.2.2.2.2.2.1) 301)
  nd7 : Right d.1.2.2.2.2.2.2.1 → Dimpl_Solid_nodes n d.1.2.2.2.2.2.2.1 = some ((nod d.1.2.2.2.2.2.2.1 : Nat) : Int)
  sm7 : Dimpl_SameTree n d.1.2.2.2.2.2.2.1 zs = some (isz d.1.2.2.2.2.2.2.1)
  sz8 : ∀ left : Int, 0 ≤ left → left ≤ mil → Dlaws_szSolid n d.1.2.2.2.2.2.2.2 left = some (szv (tot d.1.2.2.2.2.2.2.2) left)
  sok8 : Dspec_SolidOk n d.1.2.2.2.2.2.2.2 = some (rt d.1.2.2.2.2.2.2.2)
  iok8 : Dimpl_SolidOk n d.1.2.2.2.2.2.2.2 = some (rt d.1.2.2.2.2.2.2.2)
  cn8 : Dspec_l8Count n d.1.2.2.2.2.2.2.2 301 = some (cnv (nod d.1.2.2.2.2.2.2.2) 301)
  nd8 : Right d.1.2.2.2.2.2.2.2 → Dimpl_Solid_nodes n d.1.2.2.2.2.2.2.2 = some ((nod d.1.2.2.2.2.2.2.2 : Nat) : Int)
  sm8 : Dimpl_SameTree n d.1.2.2.2.2.2.2.2 zs = some (isz d.1.2.2.2.2.2.2.2)
theorem DF.ev (d : S8 × B8) (h : Desk8 d) : Ev fun n => DF n d := by
  obtain ⟨h1, h2, h3, h4, h5, h6, h7, h8⟩ := h
  have q1 := (szAll _ h1).and ((sSolidOk _ h1).and ((iSolidOk d.1.1).and ((cnt _ h1).and ((iNodesR d.1.1).and ((iSame _ h1).ev)))))
  have q2 := (szAll _ h2).and ((sSolidOk _ h2).and ((iSolidOk d.1.2.1).and ((cnt _ h2).and ((iNodesR d.1.2.1).and ((iSame _ h2).ev)))))
  have q3 := (szAll _ h3).and ((sSolidOk _ h3).and ((iSolidOk d.1.2.2.1).and ((cnt _ h3).and ((iNodesR d.1.2.2.1).and ((iSame _ h3).ev)))))
  have q4 := (szAll _ h4).and ((sSolidOk _ h4).and ((iSolidOk d.1.2.2.2.1).and ((cnt _ h4).and ((iNodesR d.1.2.2.2.1).and ((iSame _ h4).ev)))))
  have q5 := (szAll _ h5).and ((sSolidOk _ h5).and ((iSolidOk d.1.2.2.2.2.1).and ((cnt _ h5).and ((iNodesR d.1.2.2.2.2.1).and ((iSame _ h5).ev)))))
  have q6 := (szAll _ h6).and ((sSolidOk _ h6).and ((iSolidOk d.1.2.2.2.2.2.1).and ((cnt _ h6).and ((iNodesR d.1.2.2.2.2.2.1).and ((iSame _ h6).ev)))))
  have q7 := (szAll _ h7).and ((sSolidOk _ h7).and ((iSolidOk d.1.2.2.2.2.2.2.1).and ((cnt _ h7).and ((iNodesR d.1.2.2.2.2.2.2.1).and ((iSame _ h7).ev)))))
  have q8 := (szAll _ h8).and ((sSolidOk _ h8).and ((iSolidOk d.1.2.2.2.2.2.2.2).and ((cnt _ h8).and ((iNodesR d.1.2.2.2.2.2.2.2).and ((iSame _ h8).ev)))))
  refine (q1.and (q2.and (q3.and (q4.and (q5.and (q6.and (q7.and (q8)))))))).mono fun n ⟨e1, e2, e3, e4, e5, e6, e7, e8⟩ => ?_
  exact ⟨e1.1, e1.2.1, e1.2.2.1, e1.2.2.2.1, e1.2.2.2.2.1, e1.2.2.2.2.2 zs, e2.1, e2.2.1, e2.2.2.1, e2.2.2.2.1, e2.2.2.2.2.1, e2.2.2.2.2.2 zs, e3.1, e3.2.1, e3.2.2.1, e3.2.2.2.1, e3.2.2.2.2.1, e3.2.2.2.2.2 zs, e4.1, e4.2.1, e4.2.2.1, e4.2.2.2.1, e4.2.2.2.2.1, e4.2.2.2.2.2 zs, e5.1, e5.2.1, e5.2.2.1, e5.2.2.2.1, e5.2.2.2.2.1, e5.2.2.2.2.2 zs, e6.1, e6.2.1, e6.2.2.1, e6.2.2.2.1, e6.2.2.2.2.1, e6.2.2.2.2.2 zs, e7.1, e7.2.1, e7.2.2.1, e7.2.2.2.1, e7.2.2.2.2.1, e7.2.2.2.2.2 zs, e8.1, e8.2.1, e8.2.2.1, e8.2.2.2.1, e8.2.2.2.2.1, e8.2.2.2.2.2 zs⟩
theorem szDesk {n : Nat} {d : S8 × B8} (F : DF n d) : ∃ v, Dlaws_szDesk n d 1048576 = some v ∧ (v < 0 ∨ (tot d.1.1 ≤ 1048576 ∧ tot d.1.2.1 ≤ 1048576 ∧ tot d.1.2.2.1 ≤ 1048576 ∧ tot d.1.2.2.2.1 ≤ 1048576 ∧ tot d.1.2.2.2.2.1 ≤ 1048576 ∧ tot d.1.2.2.2.2.2.1 ≤ 1048576 ∧ tot d.1.2.2.2.2.2.2.1 ≤ 1048576 ∧ tot d.1.2.2.2.2.2.2.2 ≤ 1048576 ∧ True)) := by
  have h : ∃ v, Dlaws_szSolidA8 n d.1 1048576 = some v ∧ (v < 0 ∨ (tot d.1.1 ≤ 1048576 ∧ tot d.1.2.1 ≤ 1048576 ∧ tot d.1.2.2.1 ≤ 1048576 ∧ tot d.1.2.2.2.1 ≤ 1048576 ∧ tot d.1.2.2.2.2.1 ≤ 1048576 ∧ tot d.1.2.2.2.2.2.1 ≤ 1048576 ∧ tot d.1.2.2.2.2.2.2.1 ≤ 1048576 ∧ tot d.1.2.2.2.2.2.2.2 ≤ 1048576 ∧ True)) := by
    exact (stepSz F.sz1 (stepSz F.sz2 (stepSz F.sz3 (stepSz F.sz4 (stepSz F.sz5 (stepSz F.sz6 (stepSz F.sz7 (stepSz F.sz8 (fun left _ _ => ⟨left, rfl, .inr trivial⟩))))))))) 1048576 (by decide) (by decide)
  obtain ⟨v, e, hv⟩ := h
  unfold Dlaws_szDesk
  rw [e, Option.bind_some]
  by_cases hc : v < 0
  · rw [decide_eq_true hc, frk_t]; exact ⟨-1, rfl, .inl (by omega)⟩
  · rw [decide_eq_false hc, frk_f]; exact ⟨v, rfl, hv⟩
theorem iChain {n : Nat} {d : S8 × B8} (F : DF n d) : Dimpl_DeskOk n d = frk (rt d.1.1 && (d.2.1 || isz d.1.1)) (frk (rt d.1.2.1 && (d.2.2.1 || isz d.1.2.1)) (frk (rt d.1.2.2.1 && (d.2.2.2.1 || isz d.1.2.2.1)) (frk (rt d.1.2.2.2.1 && (d.2.2.2.2.1 || isz d.1.2.2.2.1)) (frk (rt d.1.2.2.2.2.1 && (d.2.2.2.2.2.1 || isz d.1.2.2.2.2.1)) (frk (rt d.1.2.2.2.2.2.1 && (d.2.2.2.2.2.2.1 || isz d.1.2.2.2.2.2.1)) (frk (rt d.1.2.2.2.2.2.2.1 && (d.2.2.2.2.2.2.2.1 || isz d.1.2.2.2.2.2.2.1)) (frk (rt d.1.2.2.2.2.2.2.2 && (d.2.2.2.2.2.2.2.2 || isz d.1.2.2.2.2.2.2.2)) ((Dimpl_Desk_held n d).bind fun v => some (decide (v ≤ 900))) (some false)) (some false)) (some false)) (some false)) (some false)) (some false)) (some false)) (some false) := by
  have e8 : Dimpl_DeskOk_9 n d = frk (rt d.1.2.2.2.2.2.2.2 && (d.2.2.2.2.2.2.2.2 || isz d.1.2.2.2.2.2.2.2)) (Dimpl_DeskOk_8 n d) (some false) := by
    rw [← stI_eq]
    unfold Dimpl_DeskOk_9
    show (Dimpl_SolidOk n d.1.2.2.2.2.2.2.2).bind _ = _
    rw [F.iok8, Option.bind_some]
    show frk _ _ (frk _ ((Dimpl_SameTree n d.1.2.2.2.2.2.2.2 zs).bind _) _) = _
    rw [F.sm8, Option.bind_some]
    rfl
  have e7 : Dimpl_DeskOk_10 n d = frk (rt d.1.2.2.2.2.2.2.1 && (d.2.2.2.2.2.2.2.1 || isz d.1.2.2.2.2.2.2.1)) (Dimpl_DeskOk_9 n d) (some false) := by
    rw [← stI_eq]
    unfold Dimpl_DeskOk_10
    show (Dimpl_SolidOk n d.1.2.2.2.2.2.2.1).bind _ = _
    rw [F.iok7, Option.bind_some]
    show frk _ _ (frk _ ((Dimpl_SameTree n d.1.2.2.2.2.2.2.1 zs).bind _) _) = _
    rw [F.sm7, Option.bind_some]
    rfl
  have e6 : Dimpl_DeskOk_11 n d = frk (rt d.1.2.2.2.2.2.1 && (d.2.2.2.2.2.2.1 || isz d.1.2.2.2.2.2.1)) (Dimpl_DeskOk_10 n d) (some false) := by
    rw [← stI_eq]
    unfold Dimpl_DeskOk_11
    show (Dimpl_SolidOk n d.1.2.2.2.2.2.1).bind _ = _
    rw [F.iok6, Option.bind_some]
    show frk _ _ (frk _ ((Dimpl_SameTree n d.1.2.2.2.2.2.1 zs).bind _) _) = _
    rw [F.sm6, Option.bind_some]
    rfl
  have e5 : Dimpl_DeskOk_12 n d = frk (rt d.1.2.2.2.2.1 && (d.2.2.2.2.2.1 || isz d.1.2.2.2.2.1)) (Dimpl_DeskOk_11 n d) (some false) := by
    rw [← stI_eq]
    unfold Dimpl_DeskOk_12
    show (Dimpl_SolidOk n d.1.2.2.2.2.1).bind _ = _
    rw [F.iok5, Option.bind_some]
    show frk _ _ (frk _ ((Dimpl_SameTree n d.1.2.2.2.2.1 zs).bind _) _) = _
    rw [F.sm5, Option.bind_some]
    rfl
  have e4 : Dimpl_DeskOk_13 n d = frk (rt d.1.2.2.2.1 && (d.2.2.2.2.1 || isz d.1.2.2.2.1)) (Dimpl_DeskOk_12 n d) (some false) := by
    rw [← stI_eq]
    unfold Dimpl_DeskOk_13
    show (Dimpl_SolidOk n d.1.2.2.2.1).bind _ = _
    rw [F.iok4, Option.bind_some]
    show frk _ _ (frk _ ((Dimpl_SameTree n d.1.2.2.2.1 zs).bind _) _) = _
    rw [F.sm4, Option.bind_some]
    rfl
  have e3 : Dimpl_DeskOk_14 n d = frk (rt d.1.2.2.1 && (d.2.2.2.1 || isz d.1.2.2.1)) (Dimpl_DeskOk_13 n d) (some false) := by
    rw [← stI_eq]
    unfold Dimpl_DeskOk_14
    show (Dimpl_SolidOk n d.1.2.2.1).bind _ = _
    rw [F.iok3, Option.bind_some]
    show frk _ _ (frk _ ((Dimpl_SameTree n d.1.2.2.1 zs).bind _) _) = _
    rw [F.sm3, Option.bind_some]
    rfl
  have e2 : Dimpl_DeskOk_15 n d = frk (rt d.1.2.1 && (d.2.2.1 || isz d.1.2.1)) (Dimpl_DeskOk_14 n d) (some false) := by
    rw [← stI_eq]
    unfold Dimpl_DeskOk_15
    show (Dimpl_SolidOk n d.1.2.1).bind _ = _
    rw [F.iok2, Option.bind_some]
    show frk _ _ (frk _ ((Dimpl_SameTree n d.1.2.1 zs).bind _) _) = _
    rw [F.sm2, Option.bind_some]
    rfl
  have e1 : Dimpl_DeskOk n d = frk (rt d.1.1 && (d.2.1 || isz d.1.1)) (Dimpl_DeskOk_15 n d) (some false) := by
    rw [← stI_eq]
    unfold Dimpl_DeskOk
    show (Dimpl_SolidOk n d.1.1).bind _ = _
    rw [F.iok1, Option.bind_some]
    show frk _ _ (frk _ ((Dimpl_SameTree n d.1.1 zs).bind _) _) = _
    rw [F.sm1, Option.bind_some]
    rfl
  rw [e1, e2, e3, e4, e5, e6, e7, e8]
  rfl
theorem sChain {n : Nat} {d : S8 × B8} (F : DF n d) : Dspec_DeskOk n d = frk (rt d.1.1 && (d.2.1 || isz d.1.1)) (frk (rt d.1.2.1 && (d.2.2.1 || isz d.1.2.1)) (frk (rt d.1.2.2.1 && (d.2.2.2.1 || isz d.1.2.2.1)) (frk (rt d.1.2.2.2.1 && (d.2.2.2.2.1 || isz d.1.2.2.2.1)) (frk (rt d.1.2.2.2.2.1 && (d.2.2.2.2.2.1 || isz d.1.2.2.2.2.1)) (frk (rt d.1.2.2.2.2.2.1 && (d.2.2.2.2.2.2.1 || isz d.1.2.2.2.2.2.1)) (frk (rt d.1.2.2.2.2.2.2.1 && (d.2.2.2.2.2.2.2.1 || isz d.1.2.2.2.2.2.2.1)) (frk (rt d.1.2.2.2.2.2.2.2 && (d.2.2.2.2.2.2.2.2 || isz d.1.2.2.2.2.2.2.2)) (some (decide ((w64 ((w64 ((w64 ((w64 ((w64 ((w64 ((w64 ((w64 (0 + cnv (nod d.1.1) 301)) + cnv (nod d.1.2.1) 301)) + cnv (nod d.1.2.2.1) 301)) + cnv (nod d.1.2.2.2.1) 301)) + cnv (nod d.1.2.2.2.2.1) 301)) + cnv (nod d.1.2.2.2.2.2.1) 301)) + cnv (nod d.1.2.2.2.2.2.2.1) 301)) + cnv (nod d.1.2.2.2.2.2.2.2) 301)) ≤ 900))) (some false)) (some false)) (some false)) (some false)) (some false)) (some false)) (some false)) (some false) := by
  have e9 : Dspec_DeskOk_8 n (w64 ((w64 ((w64 ((w64 ((w64 ((w64 ((w64 (0 + cnv (nod d.1.1) 301)) + cnv (nod d.1.2.1) 301)) + cnv (nod d.1.2.2.1) 301)) + cnv (nod d.1.2.2.2.1) 301)) + cnv (nod d.1.2.2.2.2.1) 301)) + cnv (nod d.1.2.2.2.2.2.1) 301)) + cnv (nod d.1.2.2.2.2.2.2.1) 301)) d = some (decide ((w64 ((w64 ((w64 ((w64 ((w64 ((w64 ((w64 ((w64 (0 + cnv (nod d.1.1) 301)) + cnv (nod d.1.2.1) 301)) + cnv (nod d.1.2.2.1) 301)) + cnv (nod d.1.2.2.2.1) 301)) + cnv (nod d.1.2.2.2.2.1) 301)) + cnv (nod d.1.2.2.2.2.2.1) 301)) + cnv (nod d.1.2.2.2.2.2.2.1) 301)) + cnv (nod d.1.2.2.2.2.2.2.2) 301)) ≤ 900)) := by
    unfold Dspec_DeskOk_8
    rw [F.cn8, Option.bind_some]
  have e8 : Dspec_DeskOk_9 n (w64 ((w64 ((w64 ((w64 ((w64 ((w64 (0 + cnv (nod d.1.1) 301)) + cnv (nod d.1.2.1) 301)) + cnv (nod d.1.2.2.1) 301)) + cnv (nod d.1.2.2.2.1) 301)) + cnv (nod d.1.2.2.2.2.1) 301)) + cnv (nod d.1.2.2.2.2.2.1) 301)) d = frk (rt d.1.2.2.2.2.2.2.2 && (d.2.2.2.2.2.2.2.2 || isz d.1.2.2.2.2.2.2.2)) (Dspec_DeskOk_8 n (w64 ((w64 ((w64 ((w64 ((w64 ((w64 ((w64 (0 + cnv (nod d.1.1) 301)) + cnv (nod d.1.2.1) 301)) + cnv (nod d.1.2.2.1) 301)) + cnv (nod d.1.2.2.2.1) 301)) + cnv (nod d.1.2.2.2.2.1) 301)) + cnv (nod d.1.2.2.2.2.2.1) 301)) + cnv (nod d.1.2.2.2.2.2.2.1) 301)) d) (some false) := by
    rw [← stS_eq _ _ _ _ isz_rt]
    unfold Dspec_DeskOk_9
    rw [F.cn7, Option.bind_some]
    rw [F.sok8, none_eq]
    simp only [Option.bind_some]
    rfl
  have e7 : Dspec_DeskOk_10 n (w64 ((w64 ((w64 ((w64 ((w64 (0 + cnv (nod d.1.1) 301)) + cnv (nod d.1.2.1) 301)) + cnv (nod d.1.2.2.1) 301)) + cnv (nod d.1.2.2.2.1) 301)) + cnv (nod d.1.2.2.2.2.1) 301)) d = frk (rt d.1.2.2.2.2.2.2.1 && (d.2.2.2.2.2.2.2.1 || isz d.1.2.2.2.2.2.2.1)) (Dspec_DeskOk_9 n (w64 ((w64 ((w64 ((w64 ((w64 ((w64 (0 + cnv (nod d.1.1) 301)) + cnv (nod d.1.2.1) 301)) + cnv (nod d.1.2.2.1) 301)) + cnv (nod d.1.2.2.2.1) 301)) + cnv (nod d.1.2.2.2.2.1) 301)) + cnv (nod d.1.2.2.2.2.2.1) 301)) d) (some false) := by
    rw [← stS_eq _ _ _ _ isz_rt]
    unfold Dspec_DeskOk_10
    rw [F.cn6, Option.bind_some]
    rw [F.sok7, none_eq]
    simp only [Option.bind_some]
    rfl
  have e6 : Dspec_DeskOk_11 n (w64 ((w64 ((w64 ((w64 (0 + cnv (nod d.1.1) 301)) + cnv (nod d.1.2.1) 301)) + cnv (nod d.1.2.2.1) 301)) + cnv (nod d.1.2.2.2.1) 301)) d = frk (rt d.1.2.2.2.2.2.1 && (d.2.2.2.2.2.2.1 || isz d.1.2.2.2.2.2.1)) (Dspec_DeskOk_10 n (w64 ((w64 ((w64 ((w64 ((w64 (0 + cnv (nod d.1.1) 301)) + cnv (nod d.1.2.1) 301)) + cnv (nod d.1.2.2.1) 301)) + cnv (nod d.1.2.2.2.1) 301)) + cnv (nod d.1.2.2.2.2.1) 301)) d) (some false) := by
    rw [← stS_eq _ _ _ _ isz_rt]
    unfold Dspec_DeskOk_11
    rw [F.cn5, Option.bind_some]
    rw [F.sok6, none_eq]
    simp only [Option.bind_some]
    rfl
  have e5 : Dspec_DeskOk_12 n (w64 ((w64 ((w64 (0 + cnv (nod d.1.1) 301)) + cnv (nod d.1.2.1) 301)) + cnv (nod d.1.2.2.1) 301)) d = frk (rt d.1.2.2.2.2.1 && (d.2.2.2.2.2.1 || isz d.1.2.2.2.2.1)) (Dspec_DeskOk_11 n (w64 ((w64 ((w64 ((w64 (0 + cnv (nod d.1.1) 301)) + cnv (nod d.1.2.1) 301)) + cnv (nod d.1.2.2.1) 301)) + cnv (nod d.1.2.2.2.1) 301)) d) (some false) := by
    rw [← stS_eq _ _ _ _ isz_rt]
    unfold Dspec_DeskOk_12
    rw [F.cn4, Option.bind_some]
    rw [F.sok5, none_eq]
    simp only [Option.bind_some]
    rfl
  have e4 : Dspec_DeskOk_13 n (w64 ((w64 (0 + cnv (nod d.1.1) 301)) + cnv (nod d.1.2.1) 301)) d = frk (rt d.1.2.2.2.1 && (d.2.2.2.2.1 || isz d.1.2.2.2.1)) (Dspec_DeskOk_12 n (w64 ((w64 ((w64 (0 + cnv (nod d.1.1) 301)) + cnv (nod d.1.2.1) 301)) + cnv (nod d.1.2.2.1) 301)) d) (some false) := by
    rw [← stS_eq _ _ _ _ isz_rt]
    unfold Dspec_DeskOk_13
    rw [F.cn3, Option.bind_some]
    rw [F.sok4, none_eq]
    simp only [Option.bind_some]
    rfl
  have e3 : Dspec_DeskOk_14 n (w64 (0 + cnv (nod d.1.1) 301)) d = frk (rt d.1.2.2.1 && (d.2.2.2.1 || isz d.1.2.2.1)) (Dspec_DeskOk_13 n (w64 ((w64 (0 + cnv (nod d.1.1) 301)) + cnv (nod d.1.2.1) 301)) d) (some false) := by
    rw [← stS_eq _ _ _ _ isz_rt]
    unfold Dspec_DeskOk_14
    rw [F.cn2, Option.bind_some]
    rw [F.sok3, none_eq]
    simp only [Option.bind_some]
    rfl
  have e2 : Dspec_DeskOk_15 n d = frk (rt d.1.2.1 && (d.2.2.1 || isz d.1.2.1)) (Dspec_DeskOk_14 n (w64 (0 + cnv (nod d.1.1) 301)) d) (some false) := by
    rw [← stS_eq _ _ _ _ isz_rt]
    unfold Dspec_DeskOk_15
    rw [F.cn1, Option.bind_some]
    rw [F.sok2, none_eq]
    simp only [Option.bind_some]
    rfl
  have e1 : Dspec_DeskOk n d = frk (rt d.1.1 && (d.2.1 || isz d.1.1)) (Dspec_DeskOk_15 n d) (some false) := by
    rw [← stS_eq _ _ _ _ isz_rt]
    unfold Dspec_DeskOk
    rw [F.sok1, none_eq]
    simp only [Option.bind_some]
    rfl
  rw [e1, e2, e3, e4, e5, e6, e7, e8, e9]
theorem deskHeldOk {n : Nat} {d : S8 × B8} (F : DF n d) (h1 : Right d.1.1) (h2 : Right d.1.2.1) (h3 : Right d.1.2.2.1) (h4 : Right d.1.2.2.2.1) (h5 : Right d.1.2.2.2.2.1) (h6 : Right d.1.2.2.2.2.2.1) (h7 : Right d.1.2.2.2.2.2.2.1) (h8 : Right d.1.2.2.2.2.2.2.2) : Dimpl_Desk_held n d = some (w64 ((w64 ((w64 ((w64 ((w64 ((w64 ((w64 ((w64 (0 + cnv (nod d.1.1) 301)) + cnv (nod d.1.2.1) 301)) + cnv (nod d.1.2.2.1) 301)) + cnv (nod d.1.2.2.2.1) 301)) + cnv (nod d.1.2.2.2.2.1) 301)) + cnv (nod d.1.2.2.2.2.2.1) 301)) + cnv (nod d.1.2.2.2.2.2.2.1) 301)) + cnv (nod d.1.2.2.2.2.2.2.2) 301)) := by
  unfold Dimpl_Desk_held
  rw [F.nd1 h1, Option.bind_some, F.nd2 h2, Option.bind_some, F.nd3 h3, Option.bind_some, F.nd4 h4, Option.bind_some, F.nd5 h5, Option.bind_some, F.nd6 h6, Option.bind_some, F.nd7 h7, Option.bind_some, F.nd8 h8, Option.bind_some]
  have c1 := h1.2
  have c2 := h2.2
  have c3 := h3.2
  have c4 := h4.2
  have c5 := h5.2
  have c6 := h6.2
  have c7 := h7.2
  have c8 := h8.2
  rw [cnv_yes (t := nod d.1.1) (left := 301) (by omega), cnv_yes (t := nod d.1.2.1) (left := 301) (by omega), cnv_yes (t := nod d.1.2.2.1) (left := 301) (by omega), cnv_yes (t := nod d.1.2.2.2.1) (left := 301) (by omega), cnv_yes (t := nod d.1.2.2.2.2.1) (left := 301) (by omega), cnv_yes (t := nod d.1.2.2.2.2.2.1) (left := 301) (by omega), cnv_yes (t := nod d.1.2.2.2.2.2.2.1) (left := 301) (by omega), cnv_yes (t := nod d.1.2.2.2.2.2.2.2) (left := 301) (by omega)]
theorem good {s : Sol} {h : Bool} (g : (rt s && (h || isz s)) = true) : Right s := by
  simp only [Bool.and_eq_true] at g; exact rt_iff.1 g.1
theorem deskEq {n : Nat} {d : S8 × B8} (F : DF n d) : Dimpl_DeskOk n d = Dspec_DeskOk n d := by
  rw [iChain F, sChain F]
  refine frk_congr fun g1 => frk_congr fun g2 => frk_congr fun g3 => frk_congr fun g4 => frk_congr fun g5 => frk_congr fun g6 => frk_congr fun g7 => frk_congr fun g8 => ?_
  rw [deskHeldOk F (good g1) (good g2) (good g3) (good g4) (good g5) (good g6) (good g7) (good g8), Option.bind_some]
theorem deskSome {n : Nat} {d : S8 × B8} (F : DF n d) : ∃ r, Dspec_DeskOk n d = some r ∧ (r = true → Right d.1.1 ∧ Right d.1.2.1 ∧ Right d.1.2.2.1 ∧ Right d.1.2.2.2.1 ∧ Right d.1.2.2.2.2.1 ∧ Right d.1.2.2.2.2.2.1 ∧ Right d.1.2.2.2.2.2.2.1 ∧ Right d.1.2.2.2.2.2.2.2) := by
  rw [sChain F]
  cases g1 : (rt d.1.1 && (d.2.1 || isz d.1.1)) with
  | false => exact ⟨false, rfl, fun h => by cases h⟩
  | true =>
    cases g2 : (rt d.1.2.1 && (d.2.2.1 || isz d.1.2.1)) with
    | false => exact ⟨false, rfl, fun h => by cases h⟩
    | true =>
      cases g3 : (rt d.1.2.2.1 && (d.2.2.2.1 || isz d.1.2.2.1)) with
      | false => exact ⟨false, rfl, fun h => by cases h⟩
      | true =>
        cases g4 : (rt d.1.2.2.2.1 && (d.2.2.2.2.1 || isz d.1.2.2.2.1)) with
        | false => exact ⟨false, rfl, fun h => by cases h⟩
        | true =>
          cases g5 : (rt d.1.2.2.2.2.1 && (d.2.2.2.2.2.1 || isz d.1.2.2.2.2.1)) with
          | false => exact ⟨false, rfl, fun h => by cases h⟩
          | true =>
            cases g6 : (rt d.1.2.2.2.2.2.1 && (d.2.2.2.2.2.2.1 || isz d.1.2.2.2.2.2.1)) with
            | false => exact ⟨false, rfl, fun h => by cases h⟩
            | true =>
              cases g7 : (rt d.1.2.2.2.2.2.2.1 && (d.2.2.2.2.2.2.2.1 || isz d.1.2.2.2.2.2.2.1)) with
              | false => exact ⟨false, rfl, fun h => by cases h⟩
              | true =>
                cases g8 : (rt d.1.2.2.2.2.2.2.2 && (d.2.2.2.2.2.2.2.2 || isz d.1.2.2.2.2.2.2.2)) with
                | false => exact ⟨false, rfl, fun h => by cases h⟩
                | true =>
                  exact ⟨_, rfl, fun _ => ⟨good g1, good g2, good g3, good g4, good g5, good g6, good g7, good g8⟩⟩
structure DG (n : Nat) (d : S8 × B8) : Prop where
  to1 : Dlaws_toSolid n d.1.1 = some d.1.1
  eq1 : Dlaws_eqSolid n d.1.1 d.1.1 = some true
  to2 : Dlaws_toSolid n d.1.2.1 = some d.1.2.1
  eq2 : Dlaws_eqSolid n d.1.2.1 d.1.2.1 = some true
  to3 : Dlaws_toSolid n d.1.2.2.1 = some d.1.2.2.1
  eq3 : Dlaws_eqSolid n d.1.2.2.1 d.1.2.2.1 = some true
  to4 : Dlaws_toSolid n d.1.2.2.2.1 = some d.1.2.2.2.1
  eq4 : Dlaws_eqSolid n d.1.2.2.2.1 d.1.2.2.2.1 = some true
  to5 : Dlaws_toSolid n d.1.2.2.2.2.1 = some d.1.2.2.2.2.1
  eq5 : Dlaws_eqSolid n d.1.2.2.2.2.1 d.1.2.2.2.2.1 = some true
  to6 : Dlaws_toSolid n d.1.2.2.2.2.2.1 = some d.1.2.2.2.2.2.1
  eq6 : Dlaws_eqSolid n d.1.2.2.2.2.2.1 d.1.2.2.2.2.2.1 = some true
  to7 : Dlaws_toSolid n d.1.2.2.2.2.2.2.1 = some d.1.2.2.2.2.2.2.1
  eq7 : Dlaws_eqSolid n d.1.2.2.2.2.2.2.1 d.1.2.2.2.2.2.2.1 = some true
  to8 : Dlaws_toSolid n d.1.2.2.2.2.2.2.2 = some d.1.2.2.2.2.2.2.2
  eq8 : Dlaws_eqSolid n d.1.2.2.2.2.2.2.2 d.1.2.2.2.2.2.2.2 = some true
theorem DG.ev (d : S8 × B8) (h1 : tot d.1.1 ≤ 1048576) (h2 : tot d.1.2.1 ≤ 1048576) (h3 : tot d.1.2.2.1 ≤ 1048576) (h4 : tot d.1.2.2.2.1 ≤ 1048576) (h5 : tot d.1.2.2.2.2.1 ≤ 1048576) (h6 : tot d.1.2.2.2.2.2.1 ≤ 1048576) (h7 : tot d.1.2.2.2.2.2.2.1 ≤ 1048576) (h8 : tot d.1.2.2.2.2.2.2.2 ≤ 1048576) : Ev fun n => DG n d := by
  have q1 := (to _ h1).and (eqs _ h1)
  have q2 := (to _ h2).and (eqs _ h2)
  have q3 := (to _ h3).and (eqs _ h3)
  have q4 := (to _ h4).and (eqs _ h4)
  have q5 := (to _ h5).and (eqs _ h5)
  have q6 := (to _ h6).and (eqs _ h6)
  have q7 := (to _ h7).and (eqs _ h7)
  have q8 := (to _ h8).and (eqs _ h8)
  refine (q1.and (q2.and (q3.and (q4.and (q5.and (q6.and (q7.and (q8)))))))).mono fun n ⟨e1, e2, e3, e4, e5, e6, e7, e8⟩ => ?_
  exact ⟨e1.1, e1.2, e2.1, e2.2, e3.1, e3.2, e4.1, e4.2, e5.1, e5.2, e6.1, e6.2, e7.1, e7.2, e8.1, e8.2⟩
theorem toDesk {n : Nat} {d : S8 × B8} (G : DG n d) : Dlaws_toDesk n d = some d := by
  unfold Dlaws_toDesk Dlaws_toSolidA8 Dlaws_toBoolA8
  rw [G.to1, Option.bind_some, G.to2, Option.bind_some, G.to3, Option.bind_some, G.to4, Option.bind_some, G.to5, Option.bind_some, G.to6, Option.bind_some, G.to7, Option.bind_some, G.to8, Option.bind_some]
  rfl
theorem eqDesk {n : Nat} {d : S8 × B8} (G : DG n d) : Dlaws_eqDesk n d d = some true := by
  unfold Dlaws_eqDesk Dlaws_eqSolidA8 Dlaws_eqBoolA8
  simp only [G.eq1, G.eq2, G.eq3, G.eq4, G.eq5, G.eq6, G.eq7, G.eq8, Option.bind_some, Bool.not_true, frk_f, beq_self_eq_true]
end Evl.T

/-! Esn -/
namespace Evl.T
open Go Evl

/-- What is known of one solid's marks, with fuel enough. -/
structure MF (n : Nat) (s : Sol) : Prop where
  ma : ∀ k : Int, 0 ≤ k → k ≤ 900000000 → Dlaws_markSolidS n s.kids k = some (mkL s.kids k)
  hd : ∀ k : Int, 0 ≤ k → k ≤ 900000000 → Dlaws_heldSolid n (Sol.mk s.inn s.pl (mkL s.kids k).2) k = some (mkL s.kids k).1
  up : ∀ k : Int, k ≤ (mkL s.kids k).1 ∧ (mkL s.kids k).1 ≤ k + 6000000
theorem MF.ev {s : Sol} (h : Lens s) (ht : tot s ≤ 1048576) : Ev fun n => MF n s :=
  ((markAt h ht).and (heldAt h ht)).mono fun n ⟨h1, h2⟩ => ⟨h1, h2, fun k => by have := mkL_tot (s := s) k; omega⟩

structure DM (n : Nat) (d : Dsk) : Prop where
  m1 : MF n d.1.1
  m2 : MF n d.1.2.1
  m3 : MF n d.1.2.2.1
  m4 : MF n d.1.2.2.2.1
  m5 : MF n d.1.2.2.2.2.1
  m6 : MF n d.1.2.2.2.2.2.1
  m7 : MF n d.1.2.2.2.2.2.2.1
  m8 : MF n d.1.2.2.2.2.2.2.2
def TotD (d : Dsk) : Prop := tot d.1.1 ≤ 1048576 ∧ tot d.1.2.1 ≤ 1048576 ∧ tot d.1.2.2.1 ≤ 1048576 ∧ tot d.1.2.2.2.1 ≤ 1048576 ∧ tot d.1.2.2.2.2.1 ≤ 1048576 ∧ tot d.1.2.2.2.2.2.1 ≤ 1048576 ∧ tot d.1.2.2.2.2.2.2.1 ≤ 1048576 ∧ tot d.1.2.2.2.2.2.2.2 ≤ 1048576
def LenD (d : Dsk) : Prop := Lens d.1.1 ∧ Lens d.1.2.1 ∧ Lens d.1.2.2.1 ∧ Lens d.1.2.2.2.1 ∧ Lens d.1.2.2.2.2.1 ∧ Lens d.1.2.2.2.2.2.1 ∧ Lens d.1.2.2.2.2.2.2.1 ∧ Lens d.1.2.2.2.2.2.2.2
theorem DM.ev {d : Dsk} (h : LenD d) (t : TotD d) : Ev fun n => DM n d := by
  obtain ⟨h1, h2, h3, h4, h5, h6, h7, h8⟩ := h
  obtain ⟨t1, t2, t3, t4, t5, t6, t7, t8⟩ := t
  exact ((MF.ev h1 t1).and ( (MF.ev h2 t2).and ( (MF.ev h3 t3).and ( (MF.ev h4 t4).and ( (MF.ev h5 t5).and ( (MF.ev h6 t6).and ( (MF.ev h7 t7).and (MF.ev h8 t8)))))))).mono fun n ⟨e1, e2, e3, e4, e5, e6, e7, e8⟩ => ⟨e1, e2, e3, e4, e5, e6, e7, e8⟩
def dk0 (_ : Dsk) (k : Int) : Int := k
def dk1 (d : Dsk) (k : Int) : Int := (mkL d.1.1.kids (dk0 d k)).1
def dk2 (d : Dsk) (k : Int) : Int := (mkL d.1.2.1.kids (dk1 d k)).1
def dk3 (d : Dsk) (k : Int) : Int := (mkL d.1.2.2.1.kids (dk2 d k)).1
def dk4 (d : Dsk) (k : Int) : Int := (mkL d.1.2.2.2.1.kids (dk3 d k)).1
def dk5 (d : Dsk) (k : Int) : Int := (mkL d.1.2.2.2.2.1.kids (dk4 d k)).1
def dk6 (d : Dsk) (k : Int) : Int := (mkL d.1.2.2.2.2.2.1.kids (dk5 d k)).1
def dk7 (d : Dsk) (k : Int) : Int := (mkL d.1.2.2.2.2.2.2.1.kids (dk6 d k)).1
def dk8 (d : Dsk) (k : Int) : Int := (mkL d.1.2.2.2.2.2.2.2.kids (dk7 d k)).1
/-- A desk, marked. -/
def mkD (d : Dsk) (k : Int) : Dsk := ((.mk d.1.1.inn d.1.1.pl (mkL d.1.1.kids (dk0 d k)).2, .mk d.1.2.1.inn d.1.2.1.pl (mkL d.1.2.1.kids (dk1 d k)).2, .mk d.1.2.2.1.inn d.1.2.2.1.pl (mkL d.1.2.2.1.kids (dk2 d k)).2, .mk d.1.2.2.2.1.inn d.1.2.2.2.1.pl (mkL d.1.2.2.2.1.kids (dk3 d k)).2, .mk d.1.2.2.2.2.1.inn d.1.2.2.2.2.1.pl (mkL d.1.2.2.2.2.1.kids (dk4 d k)).2, .mk d.1.2.2.2.2.2.1.inn d.1.2.2.2.2.2.1.pl (mkL d.1.2.2.2.2.2.1.kids (dk5 d k)).2, .mk d.1.2.2.2.2.2.2.1.inn d.1.2.2.2.2.2.2.1.pl (mkL d.1.2.2.2.2.2.2.1.kids (dk6 d k)).2, .mk d.1.2.2.2.2.2.2.2.inn d.1.2.2.2.2.2.2.2.pl (mkL d.1.2.2.2.2.2.2.2.kids (dk7 d k)).2), d.2)
theorem dk_le {n : Nat} {d : Dsk} (M : DM n d) (k : Int) : (k ≤ dk0 d k ∧ dk0 d k ≤ k + 0) ∧ (k ≤ dk1 d k ∧ dk1 d k ≤ k + 6000000) ∧ (k ≤ dk2 d k ∧ dk2 d k ≤ k + 12000000) ∧ (k ≤ dk3 d k ∧ dk3 d k ≤ k + 18000000) ∧ (k ≤ dk4 d k ∧ dk4 d k ≤ k + 24000000) ∧ (k ≤ dk5 d k ∧ dk5 d k ≤ k + 30000000) ∧ (k ≤ dk6 d k ∧ dk6 d k ≤ k + 36000000) ∧ (k ≤ dk7 d k ∧ dk7 d k ≤ k + 42000000) ∧ (k ≤ dk8 d k ∧ dk8 d k ≤ k + 48000000) := by
  have q0 : k ≤ dk0 d k ∧ dk0 d k ≤ k + 0 := ⟨Int.le_refl _, by unfold dk0; omega⟩
  have q1 : k ≤ dk1 d k ∧ dk1 d k ≤ k + 6000000 := by have := M.m1.up (dk0 d k); unfold dk1; omega
  have q2 : k ≤ dk2 d k ∧ dk2 d k ≤ k + 12000000 := by have := M.m2.up (dk1 d k); unfold dk2; omega
  have q3 : k ≤ dk3 d k ∧ dk3 d k ≤ k + 18000000 := by have := M.m3.up (dk2 d k); unfold dk3; omega
  have q4 : k ≤ dk4 d k ∧ dk4 d k ≤ k + 24000000 := by have := M.m4.up (dk3 d k); unfold dk4; omega
  have q5 : k ≤ dk5 d k ∧ dk5 d k ≤ k + 30000000 := by have := M.m5.up (dk4 d k); unfold dk5; omega
  have q6 : k ≤ dk6 d k ∧ dk6 d k ≤ k + 36000000 := by have := M.m6.up (dk5 d k); unfold dk6; omega
  have q7 : k ≤ dk7 d k ∧ dk7 d k ≤ k + 42000000 := by have := M.m7.up (dk6 d k); unfold dk7; omega
  have q8 : k ≤ dk8 d k ∧ dk8 d k ≤ k + 48000000 := by have := M.m8.up (dk7 d k); unfold dk8; omega
  exact ⟨q0, q1, q2, q3, q4, q5, q6, q7, q8⟩
theorem markDk_eq {n : Nat} {d : Dsk} (M : DM n d) (k : Int) (h0 : 0 ≤ k) (h1 : k ≤ 100000000) : markDk (fun l k => Dlaws_markSolidS n l k) d k = some (dk8 d k, mkD d k) := by
  obtain ⟨q0, q1, q2, q3, q4, q5, q6, q7, q8⟩ := dk_le M k
  have e1 : Dlaws_markSolidS n d.1.1.kids (dk0 d k) = some (mkL d.1.1.kids (dk0 d k)) := M.m1.ma _ (by omega) (by omega)
  have e2 : Dlaws_markSolidS n d.1.2.1.kids (dk1 d k) = some (mkL d.1.2.1.kids (dk1 d k)) := M.m2.ma _ (by omega) (by omega)
  have e3 : Dlaws_markSolidS n d.1.2.2.1.kids (dk2 d k) = some (mkL d.1.2.2.1.kids (dk2 d k)) := M.m3.ma _ (by omega) (by omega)
  have e4 : Dlaws_markSolidS n d.1.2.2.2.1.kids (dk3 d k) = some (mkL d.1.2.2.2.1.kids (dk3 d k)) := M.m4.ma _ (by omega) (by omega)
  have e5 : Dlaws_markSolidS n d.1.2.2.2.2.1.kids (dk4 d k) = some (mkL d.1.2.2.2.2.1.kids (dk4 d k)) := M.m5.ma _ (by omega) (by omega)
  have e6 : Dlaws_markSolidS n d.1.2.2.2.2.2.1.kids (dk5 d k) = some (mkL d.1.2.2.2.2.2.1.kids (dk5 d k)) := M.m6.ma _ (by omega) (by omega)
  have e7 : Dlaws_markSolidS n d.1.2.2.2.2.2.2.1.kids (dk6 d k) = some (mkL d.1.2.2.2.2.2.2.1.kids (dk6 d k)) := M.m7.ma _ (by omega) (by omega)
  have e8 : Dlaws_markSolidS n d.1.2.2.2.2.2.2.2.kids (dk7 d k) = some (mkL d.1.2.2.2.2.2.2.2.kids (dk7 d k)) := M.m8.ma _ (by omega) (by omega)
  unfold markDk
  show ((Dlaws_markSolidS n d.1.1.kids (dk0 d k)).bind _) = _
  rw [e1, Option.bind_some]
  show ((Dlaws_markSolidS n d.1.2.1.kids (dk1 d k)).bind _) = _
  rw [e2, Option.bind_some]
  show ((Dlaws_markSolidS n d.1.2.2.1.kids (dk2 d k)).bind _) = _
  rw [e3, Option.bind_some]
  show ((Dlaws_markSolidS n d.1.2.2.2.1.kids (dk3 d k)).bind _) = _
  rw [e4, Option.bind_some]
  show ((Dlaws_markSolidS n d.1.2.2.2.2.1.kids (dk4 d k)).bind _) = _
  rw [e5, Option.bind_some]
  show ((Dlaws_markSolidS n d.1.2.2.2.2.2.1.kids (dk5 d k)).bind _) = _
  rw [e6, Option.bind_some]
  show ((Dlaws_markSolidS n d.1.2.2.2.2.2.2.1.kids (dk6 d k)).bind _) = _
  rw [e7, Option.bind_some]
  show ((Dlaws_markSolidS n d.1.2.2.2.2.2.2.2.kids (dk7 d k)).bind _) = _
  rw [e8, Option.bind_some]
  rfl
theorem heldDk_eq {n : Nat} {d : Dsk} (M : DM n d) (k : Int) (h0 : 0 ≤ k) (h1 : k ≤ 100000000) : Dlaws_heldDesk n (mkD d k) k = some (dk8 d k) := by
  obtain ⟨q0, q1, q2, q3, q4, q5, q6, q7, q8⟩ := dk_le M k
  have e1 : Dlaws_heldSolid n (.mk d.1.1.inn d.1.1.pl (mkL d.1.1.kids (dk0 d k)).2) (dk0 d k) = some (dk1 d k) := M.m1.hd _ (by omega) (by omega)
  have e2 : Dlaws_heldSolid n (.mk d.1.2.1.inn d.1.2.1.pl (mkL d.1.2.1.kids (dk1 d k)).2) (dk1 d k) = some (dk2 d k) := M.m2.hd _ (by omega) (by omega)
  have e3 : Dlaws_heldSolid n (.mk d.1.2.2.1.inn d.1.2.2.1.pl (mkL d.1.2.2.1.kids (dk2 d k)).2) (dk2 d k) = some (dk3 d k) := M.m3.hd _ (by omega) (by omega)
  have e4 : Dlaws_heldSolid n (.mk d.1.2.2.2.1.inn d.1.2.2.2.1.pl (mkL d.1.2.2.2.1.kids (dk3 d k)).2) (dk3 d k) = some (dk4 d k) := M.m4.hd _ (by omega) (by omega)
  have e5 : Dlaws_heldSolid n (.mk d.1.2.2.2.2.1.inn d.1.2.2.2.2.1.pl (mkL d.1.2.2.2.2.1.kids (dk4 d k)).2) (dk4 d k) = some (dk5 d k) := M.m5.hd _ (by omega) (by omega)
  have e6 : Dlaws_heldSolid n (.mk d.1.2.2.2.2.2.1.inn d.1.2.2.2.2.2.1.pl (mkL d.1.2.2.2.2.2.1.kids (dk5 d k)).2) (dk5 d k) = some (dk6 d k) := M.m6.hd _ (by omega) (by omega)
  have e7 : Dlaws_heldSolid n (.mk d.1.2.2.2.2.2.2.1.inn d.1.2.2.2.2.2.2.1.pl (mkL d.1.2.2.2.2.2.2.1.kids (dk6 d k)).2) (dk6 d k) = some (dk7 d k) := M.m7.hd _ (by omega) (by omega)
  have e8 : Dlaws_heldSolid n (.mk d.1.2.2.2.2.2.2.2.inn d.1.2.2.2.2.2.2.2.pl (mkL d.1.2.2.2.2.2.2.2.kids (dk7 d k)).2) (dk7 d k) = some (dk8 d k) := M.m8.hd _ (by omega) (by omega)
  have l1 : decide (dk1 d k < 0) = false := decide_eq_false (by omega)
  have l2 : decide (dk2 d k < 0) = false := decide_eq_false (by omega)
  have l3 : decide (dk3 d k < 0) = false := decide_eq_false (by omega)
  have l4 : decide (dk4 d k < 0) = false := decide_eq_false (by omega)
  have l5 : decide (dk5 d k < 0) = false := decide_eq_false (by omega)
  have l6 : decide (dk6 d k < 0) = false := decide_eq_false (by omega)
  have l7 : decide (dk7 d k < 0) = false := decide_eq_false (by omega)
  have l8 : decide (dk8 d k < 0) = false := decide_eq_false (by omega)
  have e : Dlaws_heldSolidA8 n (mkD d k).1 k = some (dk8 d k) := by
    unfold Dlaws_heldSolidA8
    show ((Dlaws_heldSolid n (.mk d.1.1.inn d.1.1.pl (mkL d.1.1.kids (dk0 d k)).2) (dk0 d k)).bind _) = _
    rw [e1, Option.bind_some, l1, frk_f]
    show ((Dlaws_heldSolid n (.mk d.1.2.1.inn d.1.2.1.pl (mkL d.1.2.1.kids (dk1 d k)).2) (dk1 d k)).bind _) = _
    rw [e2, Option.bind_some, l2, frk_f]
    show ((Dlaws_heldSolid n (.mk d.1.2.2.1.inn d.1.2.2.1.pl (mkL d.1.2.2.1.kids (dk2 d k)).2) (dk2 d k)).bind _) = _
    rw [e3, Option.bind_some, l3, frk_f]
    show ((Dlaws_heldSolid n (.mk d.1.2.2.2.1.inn d.1.2.2.2.1.pl (mkL d.1.2.2.2.1.kids (dk3 d k)).2) (dk3 d k)).bind _) = _
    rw [e4, Option.bind_some, l4, frk_f]
    show ((Dlaws_heldSolid n (.mk d.1.2.2.2.2.1.inn d.1.2.2.2.2.1.pl (mkL d.1.2.2.2.2.1.kids (dk4 d k)).2) (dk4 d k)).bind _) = _
    rw [e5, Option.bind_some, l5, frk_f]
    show ((Dlaws_heldSolid n (.mk d.1.2.2.2.2.2.1.inn d.1.2.2.2.2.2.1.pl (mkL d.1.2.2.2.2.2.1.kids (dk5 d k)).2) (dk5 d k)).bind _) = _
    rw [e6, Option.bind_some, l6, frk_f]
    show ((Dlaws_heldSolid n (.mk d.1.2.2.2.2.2.2.1.inn d.1.2.2.2.2.2.2.1.pl (mkL d.1.2.2.2.2.2.2.1.kids (dk6 d k)).2) (dk6 d k)).bind _) = _
    rw [e7, Option.bind_some, l7, frk_f]
    show ((Dlaws_heldSolid n (.mk d.1.2.2.2.2.2.2.2.inn d.1.2.2.2.2.2.2.2.pl (mkL d.1.2.2.2.2.2.2.2.kids (dk7 d k)).2) (dk7 d k)).bind _) = _
    rw [e8, Option.bind_some, l8, frk_f]
  unfold Dlaws_heldDesk
  rw [e, Option.bind_some, l8, frk_f]
theorem dk8_nn {n : Nat} {d : Dsk} (M : DM n d) {k : Int} (h : 0 ≤ k) : decide (dk8 d k < 0) = false := decide_eq_false (by have := (dk_le M k).2.2.2.2.2.2.2.2; omega)

theorem dsk_eta (d : Dsk) : (((d.1.1, d.1.2.1, d.1.2.2.1, d.1.2.2.2.1, d.1.2.2.2.2.1, d.1.2.2.2.2.2.1, d.1.2.2.2.2.2.2.1, d.1.2.2.2.2.2.2.2), (d.2.1, d.2.2.1, d.2.2.2.1, d.2.2.2.2.1, d.2.2.2.2.2.1, d.2.2.2.2.2.2.1, d.2.2.2.2.2.2.2.1, d.2.2.2.2.2.2.2.2)) : Dsk) = d := rfl
theorem dsk_eta2 (d : Dsk) : (((d.1.1, d.1.2.1, d.1.2.2.1, d.1.2.2.2.1, d.1.2.2.2.2.1, d.1.2.2.2.2.2.1, d.1.2.2.2.2.2.2.1, d.1.2.2.2.2.2.2.2), d.2) : Dsk) = d := rfl
theorem TotD.dg {d : Dsk} (t : TotD d) : Ev fun n => DG n d := DG.ev d t.1 t.2.1 t.2.2.1 t.2.2.2.1 t.2.2.2.2.1 t.2.2.2.2.2.1 t.2.2.2.2.2.2.1 t.2.2.2.2.2.2.2
theorem sCopyD {d : Dsk} (t : TotD d) : Ev fun n => Dspec_l20Copy n d = some d := by
  obtain ⟨t1, t2, t3, t4, t5, t6, t7, t8⟩ := t
  refine ((sCopyE t1).and ( (sCopyE t2).and ( (sCopyE t3).and ( (sCopyE t4).and ( (sCopyE t5).and ( (sCopyE t6).and ( (sCopyE t7).and (sCopyE t8)))))))).mono fun n ⟨e1, e2, e3, e4, e5, e6, e7, e8⟩ => ?_
  unfold Dspec_l20Copy
  rw [e1, Option.bind_some, e2, Option.bind_some, e3, Option.bind_some, e4, Option.bind_some, e5, Option.bind_some, e6, Option.bind_some, e7, Option.bind_some, e8, Option.bind_some]
theorem iCopyD {d : Dsk} (t : TotD d) : Ev fun n => Dimpl_copyDesk n d = some d := by
  obtain ⟨t1, t2, t3, t4, t5, t6, t7, t8⟩ := t
  refine ((iCopyE t1).and ( (iCopyE t2).and ( (iCopyE t3).and ( (iCopyE t4).and ( (iCopyE t5).and ( (iCopyE t6).and ( (iCopyE t7).and (iCopyE t8)))))))).mono fun n ⟨e1, e2, e3, e4, e5, e6, e7, e8⟩ => ?_
  unfold Dimpl_copyDesk
  rw [e1, Option.bind_some, e2, Option.bind_some, e3, Option.bind_some, e4, Option.bind_some, e5, Option.bind_some, e6, Option.bind_some, e7, Option.bind_some, e8, Option.bind_some]
def isPl (i : Int) : Bool := rIn i 0 7
theorem sPlace (i : Int) : Dspec_l20At i = some (isPl i) := by unfold Dspec_l20At; rw [sIn]; rfl
theorem iPlace (i : Int) : Dimpl_isPlace i = some (isPl i) := by unfold Dimpl_isPlace; rw [iIn]; rfl
theorem isPl_cases {i : Int} (h : isPl i = true) : i = 0 ∨ i = 1 ∨ i = 2 ∨ i = 3 ∨ i = 4 ∨ i = 5 ∨ i = 6 ∨ i = 7 := by have := rIn_iff.1 h; omega
theorem tot_zs : tot zs ≤ 1048576 := by unfold zs; rw [tot_mk]; decide
theorem lens_zs : Lens zs := .mk (by simp [big]) (by simp)
/-- A desk with another solid and mark at a place. -/
def putD (d : Dsk) (i : Int) (s : Sol) (b : Bool) : Dsk :=
  if i = 0 then ((s, d.1.2.1, d.1.2.2.1, d.1.2.2.2.1, d.1.2.2.2.2.1, d.1.2.2.2.2.2.1, d.1.2.2.2.2.2.2.1, d.1.2.2.2.2.2.2.2), (b, d.2.2.1, d.2.2.2.1, d.2.2.2.2.1, d.2.2.2.2.2.1, d.2.2.2.2.2.2.1, d.2.2.2.2.2.2.2.1, d.2.2.2.2.2.2.2.2)) else if i = 1 then ((d.1.1, s, d.1.2.2.1, d.1.2.2.2.1, d.1.2.2.2.2.1, d.1.2.2.2.2.2.1, d.1.2.2.2.2.2.2.1, d.1.2.2.2.2.2.2.2), (d.2.1, b, d.2.2.2.1, d.2.2.2.2.1, d.2.2.2.2.2.1, d.2.2.2.2.2.2.1, d.2.2.2.2.2.2.2.1, d.2.2.2.2.2.2.2.2)) else if i = 2 then ((d.1.1, d.1.2.1, s, d.1.2.2.2.1, d.1.2.2.2.2.1, d.1.2.2.2.2.2.1, d.1.2.2.2.2.2.2.1, d.1.2.2.2.2.2.2.2), (d.2.1, d.2.2.1, b, d.2.2.2.2.1, d.2.2.2.2.2.1, d.2.2.2.2.2.2.1, d.2.2.2.2.2.2.2.1, d.2.2.2.2.2.2.2.2)) else if i = 3 then ((d.1.1, d.1.2.1, d.1.2.2.1, s, d.1.2.2.2.2.1, d.1.2.2.2.2.2.1, d.1.2.2.2.2.2.2.1, d.1.2.2.2.2.2.2.2), (d.2.1, d.2.2.1, d.2.2.2.1, b, d.2.2.2.2.2.1, d.2.2.2.2.2.2.1, d.2.2.2.2.2.2.2.1, d.2.2.2.2.2.2.2.2)) else if i = 4 then ((d.1.1, d.1.2.1, d.1.2.2.1, d.1.2.2.2.1, s, d.1.2.2.2.2.2.1, d.1.2.2.2.2.2.2.1, d.1.2.2.2.2.2.2.2), (d.2.1, d.2.2.1, d.2.2.2.1, d.2.2.2.2.1, b, d.2.2.2.2.2.2.1, d.2.2.2.2.2.2.2.1, d.2.2.2.2.2.2.2.2)) else if i = 5 then ((d.1.1, d.1.2.1, d.1.2.2.1, d.1.2.2.2.1, d.1.2.2.2.2.1, s, d.1.2.2.2.2.2.2.1, d.1.2.2.2.2.2.2.2), (d.2.1, d.2.2.1, d.2.2.2.1, d.2.2.2.2.1, d.2.2.2.2.2.1, b, d.2.2.2.2.2.2.2.1, d.2.2.2.2.2.2.2.2)) else if i = 6 then ((d.1.1, d.1.2.1, d.1.2.2.1, d.1.2.2.2.1, d.1.2.2.2.2.1, d.1.2.2.2.2.2.1, s, d.1.2.2.2.2.2.2.2), (d.2.1, d.2.2.1, d.2.2.2.1, d.2.2.2.2.1, d.2.2.2.2.2.1, d.2.2.2.2.2.2.1, b, d.2.2.2.2.2.2.2.2)) else if i = 7 then ((d.1.1, d.1.2.1, d.1.2.2.1, d.1.2.2.2.1, d.1.2.2.2.2.1, d.1.2.2.2.2.2.1, d.1.2.2.2.2.2.2.1, s), (d.2.1, d.2.2.1, d.2.2.2.1, d.2.2.2.2.1, d.2.2.2.2.2.1, d.2.2.2.2.2.2.1, d.2.2.2.2.2.2.2.1, b)) else d
def heldAtD (d : Dsk) (i : Int) : Bool := if i = 0 then d.2.1 else if i = 1 then d.2.2.1 else if i = 2 then d.2.2.2.1 else if i = 3 then d.2.2.2.2.1 else if i = 4 then d.2.2.2.2.2.1 else if i = 5 then d.2.2.2.2.2.2.1 else if i = 6 then d.2.2.2.2.2.2.2.1 else if i = 7 then d.2.2.2.2.2.2.2.2 else false
def solAtD (d : Dsk) (i : Int) : Sol := if i = 0 then d.1.1 else if i = 1 then d.1.2.1 else if i = 2 then d.1.2.2.1 else if i = 3 then d.1.2.2.2.1 else if i = 4 then d.1.2.2.2.2.1 else if i = 5 then d.1.2.2.2.2.2.1 else if i = 6 then d.1.2.2.2.2.2.2.1 else if i = 7 then d.1.2.2.2.2.2.2.2 else zs
theorem TotD.put {d : Dsk} (h : TotD d) (i : Int) {s : Sol} (hs : tot s ≤ 1048576) (b : Bool) : TotD (putD d i s b) := by
  obtain ⟨h1, h2, h3, h4, h5, h6, h7, h8⟩ := h
  unfold putD
  by_cases c0 : i = 0
  · rw [if_pos c0]; exact ⟨hs, h2, h3, h4, h5, h6, h7, h8⟩
  rw [if_neg c0]
  by_cases c1 : i = 1
  · rw [if_pos c1]; exact ⟨h1, hs, h3, h4, h5, h6, h7, h8⟩
  rw [if_neg c1]
  by_cases c2 : i = 2
  · rw [if_pos c2]; exact ⟨h1, h2, hs, h4, h5, h6, h7, h8⟩
  rw [if_neg c2]
  by_cases c3 : i = 3
  · rw [if_pos c3]; exact ⟨h1, h2, h3, hs, h5, h6, h7, h8⟩
  rw [if_neg c3]
  by_cases c4 : i = 4
  · rw [if_pos c4]; exact ⟨h1, h2, h3, h4, hs, h6, h7, h8⟩
  rw [if_neg c4]
  by_cases c5 : i = 5
  · rw [if_pos c5]; exact ⟨h1, h2, h3, h4, h5, hs, h7, h8⟩
  rw [if_neg c5]
  by_cases c6 : i = 6
  · rw [if_pos c6]; exact ⟨h1, h2, h3, h4, h5, h6, hs, h8⟩
  rw [if_neg c6]
  by_cases c7 : i = 7
  · rw [if_pos c7]; exact ⟨h1, h2, h3, h4, h5, h6, h7, hs⟩
  rw [if_neg c7]
  exact ⟨h1, h2, h3, h4, h5, h6, h7, h8⟩
theorem LenD.put {d : Dsk} (h : LenD d) (i : Int) {s : Sol} (hs : Lens s) (b : Bool) : LenD (putD d i s b) := by
  obtain ⟨h1, h2, h3, h4, h5, h6, h7, h8⟩ := h
  unfold putD
  by_cases c0 : i = 0
  · rw [if_pos c0]; exact ⟨hs, h2, h3, h4, h5, h6, h7, h8⟩
  rw [if_neg c0]
  by_cases c1 : i = 1
  · rw [if_pos c1]; exact ⟨h1, hs, h3, h4, h5, h6, h7, h8⟩
  rw [if_neg c1]
  by_cases c2 : i = 2
  · rw [if_pos c2]; exact ⟨h1, h2, hs, h4, h5, h6, h7, h8⟩
  rw [if_neg c2]
  by_cases c3 : i = 3
  · rw [if_pos c3]; exact ⟨h1, h2, h3, hs, h5, h6, h7, h8⟩
  rw [if_neg c3]
  by_cases c4 : i = 4
  · rw [if_pos c4]; exact ⟨h1, h2, h3, h4, hs, h6, h7, h8⟩
  rw [if_neg c4]
  by_cases c5 : i = 5
  · rw [if_pos c5]; exact ⟨h1, h2, h3, h4, h5, hs, h7, h8⟩
  rw [if_neg c5]
  by_cases c6 : i = 6
  · rw [if_pos c6]; exact ⟨h1, h2, h3, h4, h5, h6, hs, h8⟩
  rw [if_neg c6]
  by_cases c7 : i = 7
  · rw [if_pos c7]; exact ⟨h1, h2, h3, h4, h5, h6, h7, hs⟩
  rw [if_neg c7]
  exact ⟨h1, h2, h3, h4, h5, h6, h7, h8⟩
end Evl.T

/-! Esr -/
namespace Evl.T
open Go Evl

theorem stepSz2 {f rest : Int → Option Int} {t : Nat} {Q : Int → Prop} (hA : ∀ left, 0 ≤ left → left ≤ mil → f left = some (szv t left)) (hB : ∀ left, 0 ≤ left → left ≤ mil → ∃ v, rest left = some v ∧ (v < 0 ∨ Q v)) :
    ∀ left, 0 ≤ left → left ≤ mil → ∃ v, ((f left).bind fun v0 => frk (decide (v0 < 0)) (some (-1)) (rest v0)) = some v ∧ (v < 0 ∨ (t ≤ 1048576 ∧ Q v)) := by
  intro left h0 h1
  unfold mil at h1
  rw [hA left h0 h1, Option.bind_some]
  by_cases hc : (t : Int) ≤ left
  · rw [szv_yes hc, decide_eq_false (by omega), frk_f]
    obtain ⟨v, e, h⟩ := hB (left - t) (by omega) (by unfold mil; omega)
    exact ⟨v, e, h.imp id fun h => ⟨by omega, h⟩⟩
  · rw [szv_no hc]; exact ⟨-1, rfl, .inl (by omega)⟩
theorem szDesk2 {n : Nat} {d : Dsk} (F : DF n d) : ∃ v, Dlaws_szDesk n d 1048576 = some v ∧ (v < 0 ∨ (TotD d ∧ 0 ≤ v ∧ v ≤ mil)) := by
  have h : ∃ v, Dlaws_szSolidA8 n d.1 1048576 = some v ∧ (v < 0 ∨ (tot d.1.1 ≤ 1048576 ∧ tot d.1.2.1 ≤ 1048576 ∧ tot d.1.2.2.1 ≤ 1048576 ∧ tot d.1.2.2.2.1 ≤ 1048576 ∧ tot d.1.2.2.2.2.1 ≤ 1048576 ∧ tot d.1.2.2.2.2.2.1 ≤ 1048576 ∧ tot d.1.2.2.2.2.2.2.1 ≤ 1048576 ∧ tot d.1.2.2.2.2.2.2.2 ≤ 1048576 ∧ 0 ≤ v ∧ v ≤ mil)) :=
    (stepSz2 F.sz1 (stepSz2 F.sz2 (stepSz2 F.sz3 (stepSz2 F.sz4 (stepSz2 F.sz5 (stepSz2 F.sz6 (stepSz2 F.sz7 (stepSz2 F.sz8 (fun left h0 h1 => ⟨left, rfl, .inr ⟨h0, h1⟩⟩))))))))) 1048576 (by decide) (by decide)
  obtain ⟨v, e, hv⟩ := h
  unfold Dlaws_szDesk
  rw [e, Option.bind_some]
  by_cases hc : v < 0
  · rw [decide_eq_true hc, frk_t]; exact ⟨-1, rfl, .inl (by omega)⟩
  · rw [decide_eq_false hc, frk_f]
    exact ⟨v, rfl, hv.imp id fun ⟨t1, t2, t3, t4, t5, t6, t7, t8, h0, h1⟩ => ⟨⟨t1, t2, t3, t4, t5, t6, t7, t8⟩, h0, h1⟩⟩
/-- Each place is right. -/
def GD (d : Dsk) : Prop := ((rt d.1.1 && (d.2.1 || isz d.1.1)) = true) ∧ ((rt d.1.2.1 && (d.2.2.1 || isz d.1.2.1)) = true) ∧ ((rt d.1.2.2.1 && (d.2.2.2.1 || isz d.1.2.2.1)) = true) ∧ ((rt d.1.2.2.2.1 && (d.2.2.2.2.1 || isz d.1.2.2.2.1)) = true) ∧ ((rt d.1.2.2.2.2.1 && (d.2.2.2.2.2.1 || isz d.1.2.2.2.2.1)) = true) ∧ ((rt d.1.2.2.2.2.2.1 && (d.2.2.2.2.2.2.1 || isz d.1.2.2.2.2.2.1)) = true) ∧ ((rt d.1.2.2.2.2.2.2.1 && (d.2.2.2.2.2.2.2.1 || isz d.1.2.2.2.2.2.2.1)) = true) ∧ ((rt d.1.2.2.2.2.2.2.2 && (d.2.2.2.2.2.2.2.2 || isz d.1.2.2.2.2.2.2.2)) = true)
def hsD (d : Dsk) : Int := w64 ((w64 ((w64 ((w64 ((w64 ((w64 ((w64 ((w64 (0 + cnv (nod d.1.1) 301)) + cnv (nod d.1.2.1) 301)) + cnv (nod d.1.2.2.1) 301)) + cnv (nod d.1.2.2.2.1) 301)) + cnv (nod d.1.2.2.2.2.1) 301)) + cnv (nod d.1.2.2.2.2.2.1) 301)) + cnv (nod d.1.2.2.2.2.2.2.1) 301)) + cnv (nod d.1.2.2.2.2.2.2.2) 301)
theorem deskChain {n : Nat} {d : Dsk} (F : DF n d) : Dspec_DeskOk n d = frk (rt d.1.1 && (d.2.1 || isz d.1.1)) (frk (rt d.1.2.1 && (d.2.2.1 || isz d.1.2.1)) (frk (rt d.1.2.2.1 && (d.2.2.2.1 || isz d.1.2.2.1)) (frk (rt d.1.2.2.2.1 && (d.2.2.2.2.1 || isz d.1.2.2.2.1)) (frk (rt d.1.2.2.2.2.1 && (d.2.2.2.2.2.1 || isz d.1.2.2.2.2.1)) (frk (rt d.1.2.2.2.2.2.1 && (d.2.2.2.2.2.2.1 || isz d.1.2.2.2.2.2.1)) (frk (rt d.1.2.2.2.2.2.2.1 && (d.2.2.2.2.2.2.2.1 || isz d.1.2.2.2.2.2.2.1)) (frk (rt d.1.2.2.2.2.2.2.2 && (d.2.2.2.2.2.2.2.2 || isz d.1.2.2.2.2.2.2.2)) (some (decide (hsD d ≤ 900))) (some false)) (some false)) (some false)) (some false)) (some false)) (some false)) (some false)) (some false) := sChain F
theorem deskT {n : Nat} {d : Dsk} (F : DF n d) (h : Dspec_DeskOk n d = some true) : GD d := by
  rw [deskChain F] at h
  cases g0 : (rt d.1.1 && (d.2.1 || isz d.1.1)) with
  | false => rw [g0, frk_f] at h; cases h
  | true =>
  rw [g0, frk_t] at h
  cases g1 : (rt d.1.2.1 && (d.2.2.1 || isz d.1.2.1)) with
  | false => rw [g1, frk_f] at h; cases h
  | true =>
  rw [g1, frk_t] at h
  cases g2 : (rt d.1.2.2.1 && (d.2.2.2.1 || isz d.1.2.2.1)) with
  | false => rw [g2, frk_f] at h; cases h
  | true =>
  rw [g2, frk_t] at h
  cases g3 : (rt d.1.2.2.2.1 && (d.2.2.2.2.1 || isz d.1.2.2.2.1)) with
  | false => rw [g3, frk_f] at h; cases h
  | true =>
  rw [g3, frk_t] at h
  cases g4 : (rt d.1.2.2.2.2.1 && (d.2.2.2.2.2.1 || isz d.1.2.2.2.2.1)) with
  | false => rw [g4, frk_f] at h; cases h
  | true =>
  rw [g4, frk_t] at h
  cases g5 : (rt d.1.2.2.2.2.2.1 && (d.2.2.2.2.2.2.1 || isz d.1.2.2.2.2.2.1)) with
  | false => rw [g5, frk_f] at h; cases h
  | true =>
  rw [g5, frk_t] at h
  cases g6 : (rt d.1.2.2.2.2.2.2.1 && (d.2.2.2.2.2.2.2.1 || isz d.1.2.2.2.2.2.2.1)) with
  | false => rw [g6, frk_f] at h; cases h
  | true =>
  rw [g6, frk_t] at h
  cases g7 : (rt d.1.2.2.2.2.2.2.2 && (d.2.2.2.2.2.2.2.2 || isz d.1.2.2.2.2.2.2.2)) with
  | false => rw [g7, frk_f] at h; cases h
  | true =>
  rw [g7, frk_t] at h
  exact ⟨g0, g1, g2, g3, g4, g5, g6, g7⟩
theorem GD.ok {n : Nat} {d : Dsk} (F : DF n d) (g : GD d) : Dspec_DeskOk n d = some (decide (hsD d ≤ 900)) ∧ Dimpl_Desk_held n d = some (hsD d) := by
  obtain ⟨g0, g1, g2, g3, g4, g5, g6, g7⟩ := g
  refine ⟨?_, deskHeldOk F (good g0) (good g1) (good g2) (good g3) (good g4) (good g5) (good g6) (good g7)⟩
  rw [deskChain F, g0, frk_t, g1, frk_t, g2, frk_t, g3, frk_t, g4, frk_t, g5, frk_t, g6, frk_t, g7, frk_t]
theorem GD.put {d : Dsk} (h : GD d) (i : Int) {s : Sol} (hs : Right s) : GD (putD d i s true) := by
  obtain ⟨h1, h2, h3, h4, h5, h6, h7, h8⟩ := h
  have hg : (rt s && (true || isz s)) = true := by rw [rt_iff.2 hs]; rfl
  unfold putD
  by_cases c0 : i = 0
  · rw [if_pos c0]; exact ⟨hg, h2, h3, h4, h5, h6, h7, h8⟩
  rw [if_neg c0]
  by_cases c1 : i = 1
  · rw [if_pos c1]; exact ⟨h1, hg, h3, h4, h5, h6, h7, h8⟩
  rw [if_neg c1]
  by_cases c2 : i = 2
  · rw [if_pos c2]; exact ⟨h1, h2, hg, h4, h5, h6, h7, h8⟩
  rw [if_neg c2]
  by_cases c3 : i = 3
  · rw [if_pos c3]; exact ⟨h1, h2, h3, hg, h5, h6, h7, h8⟩
  rw [if_neg c3]
  by_cases c4 : i = 4
  · rw [if_pos c4]; exact ⟨h1, h2, h3, h4, hg, h6, h7, h8⟩
  rw [if_neg c4]
  by_cases c5 : i = 5
  · rw [if_pos c5]; exact ⟨h1, h2, h3, h4, h5, hg, h7, h8⟩
  rw [if_neg c5]
  by_cases c6 : i = 6
  · rw [if_pos c6]; exact ⟨h1, h2, h3, h4, h5, h6, hg, h8⟩
  rw [if_neg c6]
  by_cases c7 : i = 7
  · rw [if_pos c7]; exact ⟨h1, h2, h3, h4, h5, h6, h7, hg⟩
  rw [if_neg c7]
  exact ⟨h1, h2, h3, h4, h5, h6, h7, h8⟩
end Evl.T

/-! Esq -/
namespace Evl.T
open Go Evl

theorem sKeeps {n : Nat} {d : Dsk} {s : Sol} {i : Int} (hp : isPl i = true) (hc : Dspec_l20Copy n d = some d) (hs : Dspec_l8Copy n s = some s) :
    Dspec_l20Keeps n d i s = (Dspec_DeskOk n (putD d i s true)).bind fun v2 => frk (!v2) ((Dspec_l20Copy n d).bind fun v3 => some (v3, 3)) (some (putD d i s true, 0)) := by
  unfold Dspec_l20Keeps
  rw [hc, Option.bind_some, hs, Option.bind_some]
  unfold Dspec_l20Keeps_0
  rw [hc]
  obtain ⟨⟨⟨i0, p0, k0⟩, ⟨i1, p1, k1⟩, ⟨i2, p2, k2⟩, ⟨i3, p3, k3⟩, ⟨i4, p4, k4⟩, ⟨i5, p5, k5⟩, ⟨i6, p6, k6⟩, ⟨i7, p7, k7⟩⟩, b0, b1, b2, b3, b4, b5, b6, b7⟩ := d
  obtain ⟨i8, p8, k8⟩ := s
  rcases isPl_cases hp with rfl | rfl | rfl | rfl | rfl | rfl | rfl | rfl <;> rfl
theorem iKeeps {n : Nat} {d : Dsk} {s : Sol} {i : Int} (hp : isPl i = true) (hc : Dimpl_copyDesk n d = some d) (hs : Dimpl_copySolid n s = some s) :
    Dimpl_keep n d i s = (Dimpl_Desk_held n (putD d i s true)).bind fun v2 => frk (decide (v2 > 900)) ((Dimpl_copyDesk n d).bind fun v3 => some (v3, 3)) (some (putD d i s true, 0)) := by
  unfold Dimpl_keep
  rw [hc, Option.bind_some, hs, Option.bind_some]
  unfold Dimpl_keep_0
  rw [hc]
  obtain ⟨⟨⟨i0, p0, k0⟩, ⟨i1, p1, k1⟩, ⟨i2, p2, k2⟩, ⟨i3, p3, k3⟩, ⟨i4, p4, k4⟩, ⟨i5, p5, k5⟩, ⟨i6, p6, k6⟩, ⟨i7, p7, k7⟩⟩, b0, b1, b2, b3, b4, b5, b6, b7⟩ := d
  obtain ⟨i8, p8, k8⟩ := s
  rcases isPl_cases hp with rfl | rfl | rfl | rfl | rfl | rfl | rfl | rfl <;> rfl
open Classical in
theorem keepEq {n : Nat} {d : Dsk} {s : Sol} {i : Int} (F : DF n d) (F' : DF n (putD d i s true)) (hc : Dspec_l20Copy n d = some d) (hc' : Dimpl_copyDesk n d = some d)
    (ks : Dspec_l8Copy n s = some s) (ks' : Dimpl_copySolid n s = some s) (o1 : Dspec_SolidOk n s = some (decide (Right s))) (o2 : Dimpl_SolidOk n s = some (decide (Right s))) :
    (∃ c, Dspec_Keep n d i s = some (d, c) ∧ Dimpl_Keep n d i s = some (d, c)) ∨ (Dspec_Keep n d i s = some (putD d i s true, 0) ∧ Dimpl_Keep n d i s = some (putD d i s true, 0)) := by
  obtain ⟨r, h1, -⟩ := deskSome F
  have h2 := deskEq F
  rw [h1] at h2
  unfold Dspec_Keep Dimpl_Keep Dspec_Keep_0 Dimpl_Keep_0 Dspec_Keep_1 Dimpl_Keep_1
  rw [h1, h2, hc, hc', sPlace, iPlace, o1, o2]
  simp only [Option.bind_some, sol_eq']
  cases r with
  | false =>
    left
    refine ⟨1, rfl, ?_⟩
    cases isPl i <;> cases decide (Right s) <;> rfl
  | true =>
    cases hp : isPl i with
    | false => exact .inl ⟨1, rfl, rfl⟩
    | true =>
      by_cases hr : Right s
      · rw [decide_eq_true hr]
        simp only [Bool.not_true, frk_f]
        have g := (deskT F h1).put i hr
        obtain ⟨q1, q2⟩ := GD.ok F' g
        rw [sKeeps hp hc ks, iKeeps hp hc' ks', q1, q2, hc, hc']
        simp only [Option.bind_some]
        by_cases h9 : hsD (putD d i s true) ≤ 900
        · rw [decide_eq_true h9, decide_eq_false (by omega)]; exact .inr ⟨rfl, rfl⟩
        · rw [decide_eq_false h9, decide_eq_true (by omega)]; exact .inl ⟨3, rfl, rfl⟩
      · rw [decide_eq_false hr]; exact .inl ⟨1, rfl, rfl⟩
theorem finKeep {n : Nat} {d r : Dsk} {s : Sol} {i c v : Int} (hsz : Dlaws_szDesk n d 1048576 = some v) (hv : ¬ v < 0) (hss : Dlaws_szSolid n s v = some (v - (tot s : Int))) (hvs : ¬ v - (tot s : Int) < 0) (hS : Dspec_Keep n d i s = some (r, c)) (hI : Dimpl_Keep n d i s = some (r, c)) (G : DG n d) (Gr : DG n r) (M : DM n d) (Mr : DM n r)
    (ts : Dlaws_toSolid n s = some s) (es : Dlaws_eqSolid n s s = some true) (ms : MF n s) :
    Dlaws_FnExactKeep n d.1.1.kids d.1.2.1.kids d.1.2.2.1.kids d.1.2.2.2.1.kids d.1.2.2.2.2.1.kids d.1.2.2.2.2.2.1.kids d.1.2.2.2.2.2.2.1.kids d.1.2.2.2.2.2.2.2.kids s.kids d i s = some true := by
  have e1 : Dlaws_toDesk n d = some d := toDesk G
  have e2 : Dlaws_eqDesk n d d = some true := eqDesk G
  have e3 : Dlaws_eqDesk n r r = some true := eqDesk Gr
  have m1 := markDk_eq M 1 (by decide) (by decide)
  have m2 := markDk_eq Mr 1 (by decide) (by decide)
  have m3 := heldDk_eq Mr 1 (by decide) (by decide)
  have q8 := (dk_le M 1).2.2.2.2.2.2.2.2
  have m4 := ms.ma (dk8 d 1) (by omega) (by omega)
  have m5 := ms.up (dk8 d 1)
  have d0 : decide (v < 0) = false := decide_eq_false hv
  have d0' : decide (v - (tot s : Int) < 0) = false := decide_eq_false hvs
  have d1 := dk8_nn M (k := 1) (by decide)
  have d2 := dk8_nn Mr (k := 1) (by decide)
  have d3 : decide ((mkL s.kids (dk8 d 1)).1 < 0) = false := decide_eq_false (by omega)
  simp only [Dlaws_FnExactKeep, Dlaws_FnExactKeep_0, Dlaws_FnExactKeep_1, Dlaws_FnExactKeep_2, Dlaws_FnExactKeep_3, Dlaws_FnExactKeep_4, Dlaws_FnExactKeep_5, sol_eq, sol_eq', pl_eq, dsk_eta, dsk_eta2, hsz, hss, hS, hI, ts, es, e1, e2, e3, m1, m2, m3, m4, d0, d0', d1, d2, d3, Option.bind_some, Bool.not_true, frk_f, bne_self_eq_false]
theorem plain_Keep {G : Int → Prop} (d : Dsk) (h : LenD d) (i : Int) (_ : G i) (s : Sol) (hs : Lens s) : ∃ n, Dlaws_FnExactKeep n d.1.1.kids d.1.2.1.kids d.1.2.2.1.kids d.1.2.2.2.1.kids d.1.2.2.2.2.1.kids d.1.2.2.2.2.2.1.kids d.1.2.2.2.2.2.2.1.kids d.1.2.2.2.2.2.2.2.kids s.kids d i s = some true := by
  obtain ⟨N, hN⟩ := (DF.ev d h).and (szAll s hs)
  obtain ⟨hF, hA⟩ := hN N (Nat.le_refl N)
  obtain ⟨v, hv, hT⟩ := szDesk2 hF
  by_cases hc : v < 0
  · refine ⟨N, ?_⟩
    have d0 : decide (v < 0) = true := decide_eq_true hc
    simp only [Dlaws_FnExactKeep, sol_eq, dsk_eta2, hv, d0, Option.bind_some, frk_t]
  · obtain ⟨ht, v0, v1⟩ := hT.resolve_left hc
    have hA1 := hA v v0 v1
    by_cases hk : (tot s : Int) ≤ v
    · have tsl : tot s ≤ 1048576 := by unfold mil at v1; omega
      have tz : TotD (putD d i s true) := ht.put i tsl true
      have hz : LenD (putD d i s true) := h.put i hs true
      obtain ⟨m, hm⟩ := ((DF.ev d h).and ((DF.ev _ hz).and ((sCopyD ht).and ((iCopyD ht).and (ht.dg.and (tz.dg.and ((DM.ev h ht).and (DM.ev hz tz)))))))).and ((szAll s hs).and ((sCopyE tsl).and ((iCopyE tsl).and ((sSolidOk s hs).and ((iSolidOk s).and ((to s tsl).and ((eqs s tsl).and (MF.ev hs tsl))))))))
      obtain ⟨⟨F, F', c1, c2, g1, g2, m1, m2⟩, a1, k1, k2, o1, o2, t1, t2, ms⟩ := hm m (Nat.le_refl m)
      obtain ⟨w, hw, hT2⟩ := szDesk2 F
      refine ⟨m, ?_⟩
      by_cases hc2 : w < 0
      · have d0 : decide (w < 0) = true := decide_eq_true hc2
        simp only [Dlaws_FnExactKeep, sol_eq, dsk_eta2, hw, d0, Option.bind_some, frk_t]
      · obtain ⟨-, w0, w1⟩ := hT2.resolve_left hc2
        have hA2 := a1 w w0 w1
        by_cases hk2 : (tot s : Int) ≤ w
        · rw [szv_yes hk2] at hA2
          rcases keepEq F F' c1 c2 k1 k2 o1 o2 with ⟨c, hS, hI⟩ | ⟨hS, hI⟩
          · exact finKeep hw hc2 hA2 (by omega) hS hI g1 g1 m1 m1 t1 t2 ms
          · exact finKeep hw hc2 hA2 (by omega) hS hI g1 g2 m1 m2 t1 t2 ms
        · rw [szv_no hk2] at hA2
          have d0 : decide (w < 0) = false := decide_eq_false hc2
          simp only [Dlaws_FnExactKeep, sol_eq, dsk_eta2, hw, hA2, d0, Option.bind_some, frk_f]; rfl
    · rw [szv_no hk] at hA1
      have d0 : decide (v < 0) = false := decide_eq_false hc
      refine ⟨N, ?_⟩
      simp only [Dlaws_FnExactKeep, sol_eq, dsk_eta2, hv, hA1, d0, Option.bind_some, frk_f]; rfl
end Evl.T
