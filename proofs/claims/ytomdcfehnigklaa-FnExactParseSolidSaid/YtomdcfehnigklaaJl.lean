/- Texts that belong together, joined. No condition. -/
import Derived.Test.YtomdcfehnigklaaJp
/-! Eqa -/
namespace Evl.T
open Go Evl

mutual
def mk1 : Sol → Int → Int × Sol
  | .mk _ _ kids, k => ((mkL kids (k + 1 + 1 + 1 + 1 + 1)).1, .mk (Int.tmod k 3 == 0) ⟨k + 1, k + 1 + 1, k + 1 + 1 + 1, k + 1 + 1 + 1 + 1⟩ (mkL kids (k + 1 + 1 + 1 + 1 + 1)).2)
def mkL : List Sol → Int → Int × List Sol
  | [], k => (k, [])
  | x :: xs, k => ((mkL xs (mk1 x k).1).1, (mk1 x k).2 :: (mkL xs (mk1 x k).1).2)
end
theorem mkL_nil (k : Int) : mkL [] k = (k, []) := by rw [mkL]
theorem mkL_cons (x : Sol) (xs : List Sol) (k : Int) : mkL (x :: xs) k = ((mkL xs (mk1 x k).1).1, (mk1 x k).2 :: (mkL xs (mk1 x k).1).2) := by rw [mkL]
theorem mk1_eq (x : Sol) (k : Int) : mk1 x k = ((mkL x.kids (k + 1 + 1 + 1 + 1 + 1)).1, .mk (Int.tmod k 3 == 0) ⟨k + 1, k + 1 + 1, k + 1 + 1 + 1, k + 1 + 1 + 1 + 1⟩ (mkL x.kids (k + 1 + 1 + 1 + 1 + 1)).2) := by
  cases x; rw [mk1]; rfl
mutual
theorem mk1_fst : ∀ (x : Sol) (k : Int), (mk1 x k).1 = k + 5 + 5 * (tot x : Int)
  | .mk i p kids, k => by
    rw [mk1]
    have := mkL_fst kids (k + 1 + 1 + 1 + 1 + 1)
    rw [tot_mk]
    show (mkL kids (k + 1 + 1 + 1 + 1 + 1)).1 = _
    rw [this]; push_cast; omega
theorem mkL_fst : ∀ (l : List Sol) (k : Int), (mkL l k).1 = k + 5 * ((l.length : Int) + (totL l : Int))
  | [], k => by rw [mkL, totL]; simp
  | x :: xs, k => by
    rw [mkL]
    have h1 := mk1_fst x k
    have h2 := mkL_fst xs (mk1 x k).1
    show (mkL xs (mk1 x k).1).1 = _
    rw [h2, h1, totL, List.length_cons]; push_cast; omega
end
theorem mkL_len : ∀ (l : List Sol) (k : Int), (mkL l k).2.length = l.length
  | [], k => by rw [mkL]
  | x :: xs, k => by rw [mkL]; simp [mkL_len xs]

def gig : Int := 1000000000
theorem wk {k : Int} (h0 : 0 ≤ k) (h1 : k + 5 ≤ gig) : w64 (k + 1) = k + 1 ∧ w64 (k + 1 + 1) = k + 1 + 1 ∧ w64 (k + 1 + 1 + 1) = k + 1 + 1 + 1 ∧ w64 (k + 1 + 1 + 1 + 1) = k + 1 + 1 + 1 + 1 ∧ w64 (k + 1 + 1 + 1 + 1 + 1) = k + 1 + 1 + 1 + 1 + 1 := by
  unfold gig at h1
  refine ⟨?_, ?_, ?_, ?_, ?_⟩ <;> exact w64_id (by omega) (by omega)
theorem lget_mid (P : List Sol) (y : Sol) (r : List Sol) : lget (P ++ y :: r) ((P.length : Nat) : Int) = some y := by
  rw [lget_nat, List.getElem?_append_right (Nat.le_refl _)]; simp
theorem set_mid' (P : List Sol) (y z : Sol) (r : List Sol) : (P ++ y :: r).set (Int.toNat ((P.length : Nat) : Int)) z = P ++ z :: r := by
  rw [Int.toNat_natCast, List.set_append_right _ _ (Nat.le_refl _)]; simp
theorem markLoop (n : Nat) (self : List Sol × Int → Option (Int × List Sol)) : ∀ (r P : List Sol) (m : Nat) (k : Int), (∀ x ∈ r, ∀ k : Int, 0 ≤ k → k + 5 * (tot x : Int) ≤ gig → self (x.kids, k) = some (mkL x.kids k)) → r.length < m → P.length + r.length < big → 0 ≤ k → k + 5 * ((r.length : Int) + (totL r : Int)) ≤ gig →
    loopN (Dlaws_markSolidS_1 n self) m (k, ((P.length : Nat) : Int), P ++ r) = some ((mkL r k).1, P ++ (mkL r k).2) := by
  intro r
  induction r with
  | nil =>
    intro P m k hs hm hb h0 h1
    obtain ⟨m, rfl⟩ : ∃ q, m = q + 1 := ⟨m - 1, by omega⟩
    rw [loop_suc]
    simp only [Dlaws_markSolidS_1, List.append_nil, lt_self, frk_f, mkL_nil]
  | cons x r ih =>
    intro P m k hs hm hb h0 h1
    simp only [List.length_cons] at hm hb h1
    obtain ⟨m, rfl⟩ : ∃ q, m = q + 1 := ⟨m - 1, by omega⟩
    rw [totL] at h1
    push_cast at h1
    obtain ⟨w1, w2, w3, w4, w5⟩ := wk h0 (by omega)
    have hlt : ∀ y : Sol, decide (((P.length : Nat) : Int) < ((P ++ y :: r).length : Int)) = true := fun y => by simp; omega
    obtain ⟨xi, xp, xk⟩ := x
    have hself : self (xk, k + 1 + 1 + 1 + 1 + 1) = some (mkL xk (k + 1 + 1 + 1 + 1 + 1)) := hs _ List.mem_cons_self (k + 1 + 1 + 1 + 1 + 1) (by omega) (by omega)
    have hsuc : w64 (((P.length : Nat) : Int) + 1) = (((P ++ [(mk1 (.mk xi xp xk) k).2]).length : Nat) : Int) := by rw [w64_suc (by omega)]; simp
    rw [loop_suc]
    simp only [Dlaws_markSolidS_1, Dlaws_markSolidS_0, hlt, frk_t, lget_mid, set_mid', Option.bind_some, Sol.inn, Sol.pl, Sol.kids, w1, w2, w3, w4, w5]
    rw [hself, Option.bind_some, hsuc]
    have e : (Sol.mk (Int.tmod k 3 == 0) ⟨k + 1, k + 1 + 1, k + 1 + 1 + 1, k + 1 + 1 + 1 + 1⟩ (mkL xk (k + 1 + 1 + 1 + 1 + 1)).2) = (mk1 (.mk xi xp xk) k).2 := by rw [mk1]
    have e1 : (mkL xk (k + 1 + 1 + 1 + 1 + 1)).1 = (mk1 (.mk xi xp xk) k).1 := by rw [mk1]
    rw [e, e1, show P ++ (mk1 (.mk xi xp xk) k).2 :: r = (P ++ [(mk1 (.mk xi xp xk) k).2]) ++ r by simp]
    have hf := mk1_fst (.mk xi xp xk) k
    rw [ih (P ++ [(mk1 (.mk xi xp xk) k).2]) m (mk1 (.mk xi xp xk) k).1 (fun y hy => hs y (List.mem_cons_of_mem _ hy)) (by omega) (by simp; omega) (by omega) (by omega), mkL_cons]
    simp
theorem markOk : ∀ s, Lens s → tot s ≤ 1048576 → E2 fun n m => ∀ k : Int, 0 ≤ k → k + 5 * (tot s : Int) ≤ gig → loopN (Dlaws_markSolidS_b n) m (s.kids, k) = some (mkL s.kids k) := by
  refine sol_ind fun i p k ih hl ht => ?_
  rw [tot_mk] at ht
  cases hl with
  | mk hb hk =>
    have h1 := E2.all fun x hx => ih x hx (hk x hx) (by have := tot_le hx; omega)
    have h2 : E2 fun n _ => k.length < n := ⟨k.length + 1, fun n hn _ _ => by omega⟩
    refine E2.suc ((h1.and h2).mono fun n m ⟨h1, h2⟩ q hq0 hq1 => ?_)
    rw [tot_mk] at hq1
    push_cast at hq1
    rw [loop_suc]
    show loopN (Dlaws_markSolidS_1 n _) n (q, 0, k) = some (mkL k q)
    have := markLoop n (loopN (Dlaws_markSolidS_b n) m) k [] n q h1 h2 (by simp; unfold big; omega) hq0 hq1
    simpa using this
theorem markL (l : List Sol) (hl : ∀ x ∈ l, Lens x) (hlen : l.length ≤ big) (ht : l.length + totL l ≤ 1048576) : Ev fun n => Dlaws_markSolidS n l 1 = some (mkL l 1) :=
  (markOk (.mk false ⟨0, 0, 0, 0⟩ l) (.mk hlen hl) (by rw [tot_mk]; exact ht)).ev.mono fun n h => h 1 (by decide) (by rw [tot_mk]; unfold gig; omega)

theorem kidsOf {s : Sol} (h : Lens s) : s.kids.length ≤ big ∧ (∀ x ∈ s.kids, Lens x) ∧ tot s = s.kids.length + totL s.kids := by
  cases h with
  | mk hb hk => exact ⟨hb, hk, tot_mk _ _ _⟩
/-- A tree is marked: the number that comes back. -/
def mkN (s : Sol) : Int := (mkL s.kids 1).1
theorem mkN_ge (s : Sol) : 1 ≤ mkN s := by unfold mkN; rw [mkL_fst]; omega
theorem marks {s : Sol} (h : Lens s) (ht : tot s ≤ 1048576) : Ev fun n => Dlaws_markSolidS n s.kids 1 = some (mkL s.kids 1) := by
  obtain ⟨h1, h2, h3⟩ := kidsOf h
  exact markL s.kids h2 h1 (by omega)
theorem mkN_lt (s : Sol) : decide ((mkL s.kids 1).1 < 0) = false := decide_eq_false (by have := mkN_ge s; unfold mkN at this; omega)
theorem mkN_lt' (s : Sol) : decide (mkN s < 0) = false := mkN_lt s

/-- A tree that forks in two. -/
inductive Tw : Sol → Prop
  | leaf {i p} : Tw (.mk i p [])
  | node {i p a b} : Tw a → Tw b → Tw (.mk i p [a, b])
theorem Tw.lens {s : Sol} (h : Tw s) : Lens s := by
  induction h with
  | leaf => exact .mk (by simp [big]) (by simp)
  | node _ _ iha ihb =>
    refine .mk (by simp [big]) fun x hx => ?_
    simp only [List.mem_cons, List.not_mem_nil, or_false] at hx
    rcases hx with rfl | rfl
    · exact iha
    · exact ihb
theorem Tw.tot {s : Sol} (h : Tw s) : Evl.T.tot s = 2 * nod s := by
  induction h with
  | leaf => rw [tot_mk, nod_leaf]; simp [totL]
  | node _ _ iha ihb => rw [tot_mk, nod2]; simp only [totL, List.length_cons, List.length_nil, iha, ihb]; omega
theorem Rt.tw {s : Sol} {l : List Pl} (h : Rt s l) : Tw s := by
  induction h with
  | leaf _ => exact .leaf
  | node _ _ _ _ _ _ iha ihb => exact .node iha ihb

/-- The same, from any number on. -/
theorem markAt {s : Sol} (h : Lens s) (ht : tot s ≤ 1048576) : Ev fun n => ∀ k : Int, 0 ≤ k → k ≤ 900000000 → Dlaws_markSolidS n s.kids k = some (mkL s.kids k) :=
  (markOk s h ht).ev.mono fun n hn k h0 h1 => hn k h0 (by unfold gig; omega)
theorem mkL_tot {s : Sol} (k : Int) : (mkL s.kids k).1 = k + 5 * (tot s : Int) := by
  rw [mkL_fst]; cases s; rw [tot_mk]; push_cast; rfl
end Evl.T

/-! Eqo -/
namespace Evl.T
open Go Evl

theorem heldLoop (n : Nat) (self : List Sol × Int → Option Int) (L : List Sol) (hL : L.length ≤ big) : ∀ (r : List Sol) (i m : Nat) (k : Int), (∀ x ∈ r, ∀ k : Int, 0 ≤ k → k + 5 * (tot x : Int) ≤ gig → self ((mkL x.kids k).2, k) = some (mkL x.kids k).1) → L.drop i = (mkL r k).2 → i ≤ L.length → r.length < m → 0 ≤ k → k + 5 * ((r.length : Int) + (totL r : Int)) ≤ gig →
    loopN (Dlaws_heldSolidS_0 n self L) m (k, (i : Int)) = some (mkL r k).1 := by
  intro r
  induction r with
  | nil =>
    intro i m k hs hd hi hm h0 h1
    obtain ⟨m, rfl⟩ : ∃ q, m = q + 1 := ⟨m - 1, by omega⟩
    rw [mkL_nil] at hd
    have : i = L.length := by have := List.drop_eq_nil_iff.1 hd; omega
    subst this
    rw [loop_suc]
    simp only [Dlaws_heldSolidS_0, lt_self, frk_f, mkL_nil]
  | cons x r ih =>
    intro i m k hs hd hi hm h0 h1
    simp only [List.length_cons] at hm h1
    obtain ⟨m, rfl⟩ : ∃ q, m = q + 1 := ⟨m - 1, by omega⟩
    rw [totL] at h1
    push_cast at h1
    obtain ⟨w1, w2, w3, w4, w5⟩ := wk h0 (by omega)
    rw [mkL_cons] at hd
    obtain ⟨hil, hx, hd', -⟩ := drop_get hd
    obtain ⟨xi, xp, xk⟩ := x
    have hself : self ((mkL xk (k + 1 + 1 + 1 + 1 + 1)).2, k + 1 + 1 + 1 + 1 + 1) = some (mkL xk (k + 1 + 1 + 1 + 1 + 1)).1 := hs _ List.mem_cons_self (k + 1 + 1 + 1 + 1 + 1) (by omega) (by omega)
    have hf := mk1_fst (.mk xi xp xk) k
    have e1 : (mkL xk (k + 1 + 1 + 1 + 1 + 1)).1 = (mk1 (.mk xi xp xk) k).1 := by rw [mk1]
    have hnn : decide ((mkL xk (k + 1 + 1 + 1 + 1 + 1)).1 < 0) = false := decide_eq_false (by rw [e1]; omega)
    rw [loop_suc]
    simp only [Dlaws_heldSolidS_0, lt_dec hil, frk_t, lget_nat, hx, Option.bind_some, w1, w2, w3, w4, w5]
    simp only [mk1, Sol.inn, Sol.pl, Sol.kids, beq_self_eq_true, Bool.not_true, frk_f, bne_self_eq_false]
    rw [hself, Option.bind_some, hnn, frk_f, w64_suc (by omega), e1]
    rw [ih (i + 1) m (mk1 (.mk xi xp xk) k).1 (fun y hy => hs y (List.mem_cons_of_mem _ hy)) hd' (by omega) (by omega) (by omega) (by omega), mkL_cons]
theorem heldOk : ∀ s, Lens s → tot s ≤ 1048576 → E2 fun n m => ∀ k : Int, 0 ≤ k → k + 5 * (tot s : Int) ≤ gig → loopN (Dlaws_heldSolidS_b n) m ((mkL s.kids k).2, k) = some (mkL s.kids k).1 := by
  refine sol_ind fun i p k ih hl ht => ?_
  rw [tot_mk] at ht
  cases hl with
  | mk hb hk =>
    have h1 := E2.all fun x hx => ih x hx (hk x hx) (by have := tot_le hx; omega)
    have h2 : E2 fun n _ => k.length < n := ⟨k.length + 1, fun n hn _ _ => by omega⟩
    refine E2.suc ((h1.and h2).mono fun n m ⟨h1, h2⟩ q hq0 hq1 => ?_)
    rw [tot_mk] at hq1
    push_cast at hq1
    rw [loop_suc]
    show loopN (Dlaws_heldSolidS_0 n _ (mkL k q).2) n (q, 0) = some (mkL k q).1
    exact heldLoop n (loopN (Dlaws_heldSolidS_b n) m) (mkL k q).2 (by rw [mkL_len]; exact hb) k 0 n q h1 (by simp) (by omega) h2 hq0 hq1
theorem heldL (s : Sol) (l : List Sol) (hs : s.kids = (mkL l 1).2) (hl : ∀ x ∈ l, Lens x) (hlen : l.length ≤ big) (ht : l.length + totL l ≤ 1048576) : Ev fun n => Dlaws_heldSolid n s 1 = some (mkL l 1).1 :=
  (heldOk (.mk false ⟨0, 0, 0, 0⟩ l) (.mk hlen hl) (by rw [tot_mk]; exact ht)).ev.mono fun n h => by
    have := h 1 (by decide) (by rw [tot_mk]; unfold gig; omega)
    have h1 := mkL_fst l 1
    unfold Dlaws_heldSolid Dlaws_heldSolidS
    rw [hs]
    have e : loopN (Dlaws_heldSolidS_b n) n ((mkL l 1).2, 1) = some (mkL l 1).1 := this
    rw [e, Option.bind_some, decide_eq_false (by omega), frk_f]

theorem helds {s : Sol} (h : Lens s) (ht : tot s ≤ 1048576) : Ev fun n => Dlaws_heldSolid n (Sol.mk s.inn s.pl (mkL s.kids 1).2) 1 = some (mkN s) := by
  obtain ⟨h1, h2, h3⟩ := kidsOf h
  exact heldL _ s.kids rfl h2 h1 (by omega)
theorem heldAt {s : Sol} (h : Lens s) (ht : tot s ≤ 1048576) : Ev fun n => ∀ k : Int, 0 ≤ k → k ≤ 900000000 → Dlaws_heldSolid n (Sol.mk s.inn s.pl (mkL s.kids k).2) k = some (mkL s.kids k).1 :=
  (heldOk s h ht).ev.mono fun n hn k h0 h1 => by
    have h2 := hn k h0 (by unfold gig; omega)
    have h3 := mkL_fst s.kids k
    unfold Dlaws_heldSolid Dlaws_heldSolidS
    have e : loopN (Dlaws_heldSolidS_b n) n ((mkL s.kids k).2, k) = some (mkL s.kids k).1 := h2
    show ((loopN (Dlaws_heldSolidS_b n) n ((mkL s.kids k).2, k)).bind _) = _
    rw [e, Option.bind_some, decide_eq_false (by omega), frk_f]
end Evl.T

/-! Esa -/
namespace Evl.T
open Go Evl

/-- The byte at a place; 0 behind the end. -/
def pkv (t : ByteArray) (i : Int) : Int := (sget t i).getD 0
theorem pkv_end {t : ByteArray} {i : Int} (h : (t.size : Int) ≤ i) : pkv t i = 0 := by
  unfold pkv sget
  rw [dif_neg (by omega)]; rfl
theorem pkv_in {t : ByteArray} {i : Int} (h0 : 0 ≤ i) (h : i < (t.size : Int)) : sget t i = some (pkv t i) := by
  unfold pkv sget
  rw [dif_pos ⟨h0, by omega⟩]; rfl
theorem pkv_B (t : ByteArray) (i : Int) : 0 ≤ pkv t i ∧ pkv t i ≤ 255 := by
  unfold pkv sget
  split
  · rename_i h
    have := (t[i.toNat]'h.2).toNat_lt
    simp only [Option.getD_some]; omega
  · simp
theorem pkv_lt {t : ByteArray} {i : Int} (h : pkv t i ≠ 0) : i < (t.size : Int) := by
  apply Classical.byContradiction
  intro hn
  exact h (pkv_end (by omega))
theorem sPeek {t : ByteArray} {i : Int} (b : Bool) (h0 : 0 ≤ i) : Dspec_l19Peek (t, i, b) = some (pkv t i, (t, i, b)) := by
  unfold Dspec_l19Peek
  by_cases h : (t.size : Int) ≤ i
  · rw [decide_eq_true (by simpa using h), frk_t, pkv_end h]
  · rw [decide_eq_false (by simpa using h), frk_f]
    simp only
    rw [pkv_in h0 (by omega)]; rfl
theorem iPeek {t : ByteArray} {i : Int} (h0 : 0 ≤ i) : Dimpl_reader_peek (t, i, false) = some (pkv t i, (t, i, false)) := by
  unfold Dimpl_reader_peek Dimpl_reader_peek_0
  simp only [frk_f]
  by_cases h : (t.size : Int) ≤ i
  · rw [decide_eq_true (by simpa using h), frk_t, pkv_end h]
  · rw [decide_eq_false (by simpa using h), frk_f, pkv_in h0 (by omega)]; rfl
theorem iPeekB (t : ByteArray) (i : Int) : Dimpl_reader_peek (t, i, true) = some (0, (t, i, true)) := rfl
/-- A place of a text. -/
def At (t : ByteArray) (i : Int) : Prop := 0 ≤ i ∧ i ≤ (t.size : Int) ∧ t.size ≤ 1048576
theorem At.suc {t : ByteArray} {i : Int} (h : At t i) : w64 (i + 1) = i + 1 := w64_id (by have := h.1; omega) (by have := h.2; omega)
/-- Both come to the same state, further on; what is bad stays as it is. -/
def Same2 (t : ByteArray) (i : Int) (b : Bool) (f g : Option (ByteArray × Int × Bool)) : Prop := ∃ j c, f = some (t, j, c) ∧ g = some (t, j, c) ∧ At t j ∧ (b = true → c = true ∧ j = i)
theorem want (t : ByteArray) (i : Int) (b : Bool) (c : Int) (hc : c ≠ 0) (h : At t i) : Same2 t i b (Dspec_l19Want (t, i, b) c) (Dimpl_reader_take (t, i, b) c) := by
  cases b with
  | true =>
    refine ⟨i, true, rfl, ?_, h, fun _ => ⟨rfl, rfl⟩⟩
    unfold Dimpl_reader_take
    rw [iPeekB, Option.bind_some]
    have : ((0 : Int) != c) = true := by simpa using fun e => hc e.symm
    simp only [this, frk_t]
  | false =>
    by_cases hp : pkv t i = c
    · refine ⟨i + 1, false, ?_, ?_, ⟨by have := h.1; omega, by have := pkv_lt (t := t) (i := i) (by rw [hp]; exact hc); omega, h.2.2⟩, fun h => by cases h⟩
      · unfold Dspec_l19Want Dspec_l19Want_0
        rw [sPeek false h.1]
        simp only [frk_f, Option.bind_some, hp, bne_self_eq_false, h.suc]
      · unfold Dimpl_reader_take Dimpl_reader_take_0
        rw [iPeek h.1]
        simp only [frk_f, Option.bind_some, hp, bne_self_eq_false, h.suc, Bool.not_false, frk_t]
    · have hne : (pkv t i != c) = true := by simpa using hp
      refine ⟨i, true, ?_, ?_, h, fun h => by cases h⟩
      · unfold Dspec_l19Want Dspec_l19Want_0
        rw [sPeek false h.1]
        simp only [frk_f, Option.bind_some, hne, frk_t]
      · unfold Dimpl_reader_take
        rw [iPeek h.1]
        simp only [Option.bind_some, hne, frk_t]
theorem sNumEnd (n : Nat) (mi : Bool) (v c : Int) (t : ByteArray) (i : Int) : Dspec_l19Int_4 n mi v c t i false = some (if mi then w64 (0 - v) else v, (t, i, c == 0)) := by
  unfold Dspec_l19Int_4 Dspec_l19Int_5
  rw [frk_f]
  cases mi <;> rfl
theorem iNumEnd (n : Nat) (mi : Bool) (v c : Int) (t : ByteArray) (i : Int) : Dimpl_reader_number_2 n mi v (c == 0) t i false = some (if mi then w64 (0 - v) else v, (t, i, c == 0)) := by
  unfold Dimpl_reader_number_2 Dimpl_reader_number_3
  cases mi <;> cases (c == 0) <;> rfl
theorem iFig {c : Int} : Dimpl_isFigure c = some (rIn c 48 57) := by
  unfold Dimpl_isFigure rIn
  cases decide (c ≥ 48) <;> rfl
/-- Does a number go on with this byte? -/
def goesN (mi : Bool) (v c b : Int) : Bool := rIn b 48 57 && (decide (c < 3) && (!((c == 1) && (v == 0)) && !(mi && ((c == 0) && (b == 48)))))
theorem sNumStep (n : Nat) (mi : Bool) (rec : Int × Int × ByteArray × Int × Bool → Option (Int × (ByteArray × Int × Bool))) (v c : Int) (t : ByteArray) (i : Int) (h : At t i) :
    Dspec_l19Int_8 n mi rec (v, c, t, i, false) = if goesN mi v c (pkv t i) then rec (w64 (w64 (v * 10) + w64 (IntKind.u8.wrap (pkv t i - 48))), w64 (c + 1), t, w64 (i + 1), false) else some (if mi then w64 (0 - v) else v, (t, i, c == 0)) := by
  have hw : w64 (pkv t i) = pkv t i := w64_id (by have := pkv_B t i; omega) (by have := pkv_B t i; omega)
  unfold Dspec_l19Int_8 goesN Dspec_l19Int_2 Dspec_l19Int_7 Dspec_l19Int_6 Dspec_l19Int_3
  simp only [sPeek false h.1, Option.bind_some, hw, sIn, sNumEnd, Bool.not_false, frk_t]
  cases decide (c < 3) <;> cases rIn (pkv t i) 48 57 <;> cases (c == 1) <;> cases (v == 0) <;> cases mi <;> cases (c == 0) <;> cases (pkv t i == 48) <;> rfl
theorem iNumStep (n : Nat) (mi : Bool) (rec : Int × Int × ByteArray × Int × Bool → Option (Int × (ByteArray × Int × Bool))) (v c : Int) (t : ByteArray) (i : Int) (h : At t i) :
    Dimpl_reader_number_6 n mi rec (v, c, t, i, false) = if goesN mi v c (pkv t i) then rec (w64 (w64 (v * 10) + w64 (IntKind.u8.wrap (pkv t i - 48))), w64 (c + 1), t, w64 (i + 1), false) else some (if mi then w64 (0 - v) else v, (t, i, c == 0)) := by
  unfold Dimpl_reader_number_6 goesN Dimpl_reader_number_1 Dimpl_reader_number_4 Dimpl_reader_number_5
  simp only [iPeek h.1, Option.bind_some, iFig, iNumEnd]
  cases decide (c < 3) <;> cases rIn (pkv t i) 48 57 <;> cases (c == 1) <;> cases (v == 0) <;> cases mi <;> cases (c == 0) <;> cases (pkv t i == 48) <;> rfl
theorem numLoop (mi : Bool) (t : ByteArray) : ∀ (k c : Nat) (v i : Int), c + k = 3 → At t i → ∃ r j b, At t j ∧ ∀ n m : Nat, k < m →
    loopN (Dspec_l19Int_8 n mi) m (v, (c : Int), t, i, false) = some (r, (t, j, b)) ∧ loopN (Dimpl_reader_number_6 n mi) m (v, (c : Int), t, i, false) = some (r, (t, j, b)) := by
  intro k
  induction k with
  | zero =>
    intro c v i hc h
    have hg : goesN mi v (c : Int) (pkv t i) = false := by
      unfold goesN
      rw [decide_eq_false (show ¬ (c : Int) < 3 by omega)]; simp
    refine ⟨if mi then w64 (0 - v) else v, i, ((c : Int) == 0), h, fun n m hm => ?_⟩
    obtain ⟨m, rfl⟩ : ∃ q, m = q + 1 := ⟨m - 1, by omega⟩
    refine ⟨?_, ?_⟩
    · rw [loop_suc, sNumStep n mi _ v c t i h, hg]; rfl
    · rw [loop_suc, iNumStep n mi _ v c t i h, hg]; rfl
  | succ k ih =>
    intro c v i hc h
    cases hg : goesN mi v (c : Int) (pkv t i) with
    | false =>
      refine ⟨if mi then w64 (0 - v) else v, i, ((c : Int) == 0), h, fun n m hm => ?_⟩
      obtain ⟨m, rfl⟩ : ∃ q, m = q + 1 := ⟨m - 1, by omega⟩
      refine ⟨?_, ?_⟩
      · rw [loop_suc, sNumStep n mi _ v c t i h, hg]; rfl
      · rw [loop_suc, iNumStep n mi _ v c t i h, hg]; rfl
    | true =>
      have hlt : i < (t.size : Int) := by
        apply pkv_lt
        intro e
        unfold goesN at hg
        rw [e] at hg
        simp [rIn] at hg
      obtain ⟨r, j, b, h1, h23⟩ := ih (c + 1) (w64 (w64 (v * 10) + w64 (IntKind.u8.wrap (pkv t i - 48)))) (i + 1) (by omega) ⟨by have := h.1; omega, by omega, h.2.2⟩
      refine ⟨r, j, b, h1, fun n m hm => ?_⟩
      obtain ⟨m, rfl⟩ : ∃ q, m = q + 1 := ⟨m - 1, by omega⟩
      obtain ⟨h2, h3⟩ := h23 n m (by omega)
      refine ⟨?_, ?_⟩
      · rw [loop_suc, sNumStep n mi _ v c t i h, hg, if_pos rfl, h.suc, w64_suc (by unfold big; omega)]; exact h2
      · rw [loop_suc, iNumStep n mi _ v c t i h, hg, if_pos rfl, h.suc, w64_suc (by unfold big; omega)]; exact h3
theorem nums (t : ByteArray) (i : Int) (b : Bool) (h : At t i) : ∃ r j c, (∀ n : Nat, 8 ≤ n → Dspec_l19Int n (t, i, b) = some (r, (t, j, c)) ∧ Dimpl_reader_number n (t, i, b) = some (r, (t, j, c))) ∧ At t j ∧ (b = true → c = true ∧ j = i) := by
  cases b with
  | true =>
    refine ⟨0, i, true, fun n hn => ?_, h, fun _ => ⟨rfl, rfl⟩⟩
    obtain ⟨n', rfl⟩ : ∃ q, n = q + 1 := ⟨n - 1, by omega⟩
    refine ⟨?_, ?_⟩
    · unfold Dspec_l19Int Dspec_l19Int_1
      simp only [Bool.not_true, frk_f]
      rw [loop_suc]; rfl
    · unfold Dimpl_reader_number Dimpl_reader_number_0
      rw [iPeekB, Option.bind_some]
      simp only [show ((0 : Int) == 45) = false from rfl, frk_f]
      rw [loop_suc]
      unfold Dimpl_reader_number_6
      simp only [iPeekB, Option.bind_some]; rfl
  | false =>
    by_cases hp : pkv t i = 45
    · have hlt := pkv_lt (t := t) (i := i) (by rw [hp]; decide)
      obtain ⟨r, j, c, h1, h23⟩ := numLoop true t 3 0 0 (i + 1) rfl ⟨by have := h.1; omega, by omega, h.2.2⟩
      refine ⟨r, j, c, fun n hn => ?_, h1, fun h => by cases h⟩
      obtain ⟨h2, h3⟩ := h23 n n (by omega)
      refine ⟨?_, ?_⟩
      · unfold Dspec_l19Int Dspec_l19Int_0 Dspec_l19Int_1
        simp only [Bool.not_false, frk_t, sPeek false h.1, Option.bind_some, hp, beq_self_eq_true, h.suc]; exact h2
      · unfold Dimpl_reader_number Dimpl_reader_number_0
        simp only [frk_t, iPeek h.1, Option.bind_some, hp, beq_self_eq_true, h.suc]; exact h3
    · have hne : (pkv t i == 45) = false := by simpa using hp
      obtain ⟨r, j, c, h1, h23⟩ := numLoop false t 3 0 0 i rfl h
      refine ⟨r, j, c, fun n hn => ?_, h1, fun h => by cases h⟩
      obtain ⟨h2, h3⟩ := h23 n n (by omega)
      refine ⟨?_, ?_⟩
      · unfold Dspec_l19Int Dspec_l19Int_0 Dspec_l19Int_1
        simp only [Bool.not_false, frk_t, sPeek false h.1, Option.bind_some, hne, frk_f]; exact h2
      · unfold Dimpl_reader_number Dimpl_reader_number_0
        simp only [iPeek h.1, Option.bind_some, hne, frk_f]; exact h3
theorem sReadBad (n m : Nat) (t : ByteArray) (i d : Int) : loopN (Dspec_l19Read_b n) (m + 1) ((t, i, true), d) = some (lfS false, (t, i, true)) := rfl
/-- What the readers do where no tree of two goes on. -/
def leafR (t : ByteArray) (i : Int) : Sol × (ByteArray × Int × Bool) := if pkv t i = 35 then (lfS true, (t, i + 1, false)) else if pkv t i = 46 then (lfS false, (t, i + 1, false)) else (lfS false, (t, i, true))
theorem sReadStep (n : Nat) (self : (ByteArray × Int × Bool) × Int → Option (Sol × (ByteArray × Int × Bool))) (t : ByteArray) (i d : Int) (h : At t i) :
    Dspec_l19Read_b n self ((t, i, false), d) = if pkv t i = 40 ∧ d < 24 then Dspec_l19Node_in n self (t, i, false) d else some (leafR t i) := by
  have hs : ∀ c, pkv t i = c → c ≠ 0 → sget t (w64 (w64 (i + 1) - 1)) = some c := fun c hc h0 => by
    have hlt := pkv_lt (t := t) (i := i) (by rw [hc]; exact h0)
    have e : w64 (w64 (i + 1) - 1) = i := by rw [h.suc]; rw [show i + 1 - 1 = i by omega]; exact w64_id (by have := h.1; omega) (by have := h.2; omega)
    rw [e, pkv_in h.1 hlt, hc]
  unfold Dspec_l19Read_b Dspec_l19Read_0 Dspec_l19Read_1 leafR
  simp only [frk_f, sPeek false h.1, Option.bind_some]
  by_cases h35 : pkv t i = 35
  · rw [hs 35 h35 (by decide), h35, if_neg (by omega), if_pos rfl, h.suc]; rfl
  · have e35 : (pkv t i == 35) = false := by simpa using h35
    rw [e35, frk_f, if_neg h35]
    by_cases h46 : pkv t i = 46
    · rw [hs 46 h46 (by decide), h46, if_neg (by omega), if_pos rfl, h.suc]; rfl
    · have e46 : (pkv t i == 46) = false := by simpa using h46
      rw [e46, frk_f, if_neg h46]
      by_cases h40 : pkv t i = 40
      · have e40 : (pkv t i == 40) = true := by simpa using h40
        rw [e40, frk_t]
        by_cases hd : d < 24
        · rw [decide_eq_true hd, frk_t, if_pos ⟨h40, hd⟩]
          cases Dspec_l19Node_in n self (t, i, false) d <;> rfl
        · rw [decide_eq_false hd, frk_f, if_neg (fun h => hd h.2)]; rfl
      · have e40 : (pkv t i == 40) = false := by simpa using h40
        rw [e40, frk_f, if_neg (fun h => h40 h.1)]; rfl
theorem iReadStep (n : Nat) (self : (ByteArray × Int × Bool) × Int → Option (Sol × (ByteArray × Int × Bool))) (t : ByteArray) (i d : Int) (h : At t i) :
    Dimpl_reader_tree_b n self ((t, i, false), d) = if pkv t i = 40 ∧ d < 24 then Dimpl_reader_tree_2 n self d false false 0 0 0 0 t i false else some (leafR t i) := by
  unfold Dimpl_reader_tree_b Dimpl_reader_tree_0 Dimpl_reader_tree_1 leafR
  simp only [iPeek h.1, Option.bind_some]
  by_cases h35 : pkv t i = 35
  · rw [h35, if_neg (by omega), if_pos rfl, h.suc]; rfl
  · have e35 : (pkv t i == 35) = false := by simpa using h35
    rw [e35, frk_f, if_neg h35]
    by_cases h46 : pkv t i = 46
    · rw [h46, if_neg (by omega), if_pos rfl, h.suc]; rfl
    · have e46 : (pkv t i == 46) = false := by simpa using h46
      rw [e46, frk_f, if_neg h46]
      by_cases h40 : pkv t i = 40
      · have e40 : (pkv t i != 40) = false := by simpa using h40
        rw [e40, frk_f]
        by_cases hd : d < 24
        · rw [decide_eq_false (by omega), if_pos ⟨h40, hd⟩]
        · rw [decide_eq_true (by omega), if_neg (fun h => hd h.2)]; rfl
      · have e40 : (pkv t i != 40) = true := by simpa using h40
        rw [e40, frk_t, if_neg (fun h => h40 h.1)]; rfl
theorem leafR_at (t : ByteArray) (i : Int) (h : At t i) : ∃ x j c, leafR t i = (x, (t, j, c)) ∧ At t j ∧ Tw x := by
  unfold leafR
  split
  · rename_i hp
    have := pkv_lt (t := t) (i := i) (by rw [hp]; decide)
    exact ⟨_, _, _, rfl, ⟨by have := h.1; omega, by omega, h.2.2⟩, .leaf⟩
  · split
    · rename_i hp
      have := pkv_lt (t := t) (i := i) (by rw [hp]; decide)
      exact ⟨_, _, _, rfl, ⟨by have := h.1; omega, by omega, h.2.2⟩, .leaf⟩
    · exact ⟨_, _, _, rfl, h, .leaf⟩
/-- Both readers, on a path of so many planes. -/
theorem readOk (t : ByteArray) : ∀ (k d : Nat), d + k = 24 → ∀ (i : Int) (b : Bool), At t i → ∃ x y j c, At t j ∧ (b = true → c = true ∧ j = i) ∧ Tw x ∧ (c = false → x = y) ∧
    E2 fun n m => loopN (Dspec_l19Read_b n) m ((t, i, b), (d : Int)) = some (x, (t, j, c)) ∧ loopN (Dimpl_reader_tree_b n) m ((t, i, b), (d : Int)) = some (y, (t, j, c)) := by
  intro k
  induction k with
  | zero =>
    intro d hd i b h
    cases b with
    | true => exact ⟨lfS false, lfS false, i, true, h, fun _ => ⟨rfl, rfl⟩, .leaf, fun h => (by cases h), E2.suc (E2.of fun n m => ⟨rfl, rfl⟩)⟩
    | false =>
      obtain ⟨x, j, c, e, h1, h2⟩ := leafR_at t i h
      refine ⟨x, x, j, c, h1, fun h => (by cases h), h2, fun _ => rfl, E2.suc (E2.of fun n m => ?_)⟩
      rw [loop_suc, loop_suc, sReadStep n _ t i d h, iReadStep n _ t i d h, if_neg (by omega), if_neg (by omega), e]
      exact ⟨rfl, rfl⟩
  | succ k ih =>
    intro d hd i b h
    cases b with
    | true => exact ⟨lfS false, lfS false, i, true, h, fun _ => ⟨rfl, rfl⟩, .leaf, fun h => (by cases h), E2.suc (E2.of fun n m => ⟨rfl, rfl⟩)⟩
    | false =>
      by_cases h40 : pkv t i = 40
      · have hcond : pkv t i = 40 ∧ (d : Int) < 24 := ⟨h40, by omega⟩
        have hlt := pkv_lt (t := t) (i := i) (by rw [h40]; decide)
        have hA : At t (i + 1) := ⟨by have := h.1; omega, by omega, h.2.2⟩
        have w0 : Dspec_l19Want (t, i, false) 40 = some (t, i + 1, false) := by
          unfold Dspec_l19Want Dspec_l19Want_0
          rw [sPeek false h.1]
          simp only [frk_f, Option.bind_some, h40, bne_self_eq_false, h.suc]
        have hd1 : w64 ((d : Int) + 1) = ((d + 1 : Nat) : Int) := w64_suc (by unfold big; omega)
        have ap : ∀ k : Nat, k ≤ 10 → apB 8 k = true := fun k hk => by simp only [apB, Bool.and_eq_true, decide_eq_true_eq]; omega
        obtain ⟨r1, j1, c1, n1, A1, z1⟩ := nums t (i + 1) false hA
        obtain ⟨j2, c2, a2, b2, A2, z2⟩ := want t j1 c1 32 (by decide) A1
        obtain ⟨r3, j3, c3, n3, A3, z3⟩ := nums t j2 c2 A2
        obtain ⟨j4, c4, a4, b4, A4, z4⟩ := want t j3 c3 32 (by decide) A3
        obtain ⟨r5, j5, c5, n5, A5, z5⟩ := nums t j4 c4 A4
        obtain ⟨j6, c6, a6, b6, A6, z6⟩ := want t j5 c5 32 (by decide) A5
        obtain ⟨r7, j7, c7, n7, A7, z7⟩ := nums t j6 c6 A6
        obtain ⟨j8, c8, a8, b8, A8, z8⟩ := want t j7 c7 32 (by decide) A7
        obtain ⟨x9, y9, j9, c9, A9, z9, T9, e9, E9⟩ := ih (d + 1) (by omega) j8 c8 A8
        obtain ⟨j10, c10, a10, b10, A10, z10⟩ := want t j9 c9 32 (by decide) A9
        obtain ⟨x11, y11, j11, c11, A11, z11, T11, e11, E11⟩ := ih (d + 1) (by omega) j10 c10 A10
        obtain ⟨j12, c12, a12, b12, A12, z12⟩ := want t j11 c11 41 (by decide) A11
        have hS : E2 fun n m => Dspec_l19Node_in n (loopN (Dspec_l19Read_b n) m) (t, i, false) d = some (.mk false ⟨r1, r3, r5, r7⟩ [x9, x11], (t, j12, c12)) := by
          refine ((E9.and E11).and (e2_ge 40)).mono fun n m ⟨⟨⟨a9, b9⟩, a11, b11⟩, hn, hm⟩ => ?_
          have a1 := (n1 n (by omega)).1
          have a3 := (n3 n (by omega)).1
          have a5 := (n5 n (by omega)).1
          have a7 := (n7 n (by omega)).1
          unfold Dspec_l19Node_in
          simp only [w0, a1, a2, a3, a4, a5, a6, a7, a8, Option.bind_some, hd1, a9, a10, a11, a12, chk_eq (ap (0 + 1) (by omega)), chk_eq (ap (1 + 1) (by omega)), chk_eq (ap (2 + 1) (by omega)), chk_eq (ap (3 + 1) (by omega))]
          rfl
        have fin : ∀ y : Sol, (c12 = false → .mk false ⟨r1, r3, r5, r7⟩ [x9, x11] = y) → (E2 fun n m => Dimpl_reader_tree_2 n (loopN (Dimpl_reader_tree_b n) m) d false false 0 0 0 0 t i false = some (y, (t, j12, c12))) →
            ∃ x y j c, At t j ∧ (false = true → c = true ∧ j = i) ∧ Tw x ∧ (c = false → x = y) ∧
              E2 fun n m => loopN (Dspec_l19Read_b n) m ((t, i, false), (d : Int)) = some (x, (t, j, c)) ∧ loopN (Dimpl_reader_tree_b n) m ((t, i, false), (d : Int)) = some (y, (t, j, c)) := fun y hy hI => by
          refine ⟨_, y, j12, c12, A12, fun h => (by cases h), .node T9 T11, hy, E2.suc ((hS.and hI).mono fun n m ⟨g1, g2⟩ => ?_)⟩
          rw [loop_suc, loop_suc, sReadStep n _ t i d h, iReadStep n _ t i d h, if_pos hcond, if_pos hcond]
          exact ⟨g1, g2⟩
        have pre : ∀ (n m : Nat), 40 ≤ n → Dimpl_reader_tree_2 n (loopN (Dimpl_reader_tree_b n) m) d false false 0 0 0 0 t i false = frk c8 (some (lfS false, (t, j8, c8))) ((loopN (Dimpl_reader_tree_b n) m ((t, j8, c8), ((d + 1 : Nat) : Int))).bind fun v11 => (Dimpl_reader_take v11.2 32).bind fun v12 => frk v12.2.2 (some (lfS false, v12)) ((loopN (Dimpl_reader_tree_b n) m (v12, ((d + 1 : Nat) : Int))).bind fun v13 => (Dimpl_reader_take v13.2 41).bind fun v14 => some (.mk false ⟨r1, r3, r5, r7⟩ [v11.1, v13.1], v14))) := fun n m hn => by
          have a1 := (n1 n (by omega)).2
          have a3 := (n3 n (by omega)).2
          have a5 := (n5 n (by omega)).2
          have a7 := (n7 n (by omega)).2
          unfold Dimpl_reader_tree_2
          simp only [frk_f, h.suc, a1, b2, a3, b4, a5, b6, a7, b8, Option.bind_some, hd1]
          rfl
        cases hc8 : c8 with
        | true =>
          obtain ⟨q9, q9'⟩ := z9 hc8
          obtain ⟨q10, q10'⟩ := z10 q9
          obtain ⟨q11, q11'⟩ := z11 q10
          obtain ⟨q12, q12'⟩ := z12 q11
          refine fin (lfS false) (fun h => by rw [q12] at h; cases h) ((e2_ge 40).mono fun n m ⟨hn, hm⟩ => ?_)
          rw [pre n m hn, hc8, frk_t, q12, q12', q11', q10', q9']
        | false =>
          subst hc8
          cases hc10 : c10 with
          | true =>
            obtain ⟨q11, q11'⟩ := z11 hc10
            obtain ⟨q12, q12'⟩ := z12 q11
            refine fin (lfS false) (fun h => by rw [q12] at h; cases h) ((E9.and (e2_ge 40)).mono fun n m ⟨⟨_, b9⟩, hn, hm⟩ => ?_)
            rw [pre n m hn, frk_f, b9, Option.bind_some]
            simp only [b10, Option.bind_some, hc10, frk_t]
            rw [q12, q12', q11']
          | false =>
            subst hc10
            refine fin (.mk false ⟨r1, r3, r5, r7⟩ [y9, y11]) (fun hc => ?_) (((E9.and E11).and (e2_ge 40)).mono fun n m ⟨⟨⟨_, b9⟩, _, b11⟩, hn, hm⟩ => ?_)
            · have q11 : c11 = false := by
                cases hq : c11 with
                | false => rfl
                | true => have := (z12 hq).1; rw [hc] at this; cases this
              have q9 : c9 = false := by
                cases hq : c9 with
                | false => rfl
                | true => have := (z10 hq).1; cases this
              rw [e9 q9, e11 q11]
            · rw [pre n m hn, frk_f, b9, Option.bind_some]
              simp only [b10, Option.bind_some, frk_f, b11, b12]
      · obtain ⟨x, j, c, e, h1, h2⟩ := leafR_at t i h
        refine ⟨x, x, j, c, h1, fun h => (by cases h), h2, fun _ => rfl, E2.suc (E2.of fun n m => ?_)⟩
        rw [loop_suc, loop_suc, sReadStep n _ t i d h, iReadStep n _ t i d h, if_neg (fun h => h40 h.1), if_neg (fun h => h40 h.1), e]
        exact ⟨rfl, rfl⟩
open Classical in
theorem parseEq (t : ByteArray) (ht : t.size ≤ 1048576) : ∃ x c, Tw x ∧ nod x ≤ 300 ∧ Ev fun n => Dspec_ParseSolid n t = some (x, c) ∧ Dimpl_ParseSolid n t = some (x, c) := by
  have lf3 : nod (lfS false) ≤ 300 := by rw [show nod (lfS false) = 0 from nod_leaf _ _]; omega
  have h0 : At t 0 := ⟨by omega, by omega, ht⟩
  obtain ⟨x, y, j, c, A, -, T, e, hE⟩ := readOk t 24 0 rfl 0 false h0
  have hE := hE.ev
  cases c with
  | true =>
    refine ⟨lfS false, j, .leaf, lf3, hE.mono fun n ⟨h1, h2⟩ => ?_⟩
    have h1' : loopN (Dspec_l19Read_b n) n ((t, 0, false), 0) = _ := h1
    have h2' : loopN (Dimpl_reader_tree_b n) n ((t, 0, false), 0) = _ := h2
    unfold Dspec_ParseSolid Dspec_l19Read Dimpl_ParseSolid Dimpl_reader_tree
    rw [h1', h2']
    exact ⟨rfl, rfl⟩
  | false =>
    obtain rfl := e rfl
    by_cases hj : j < (t.size : Int)
    · refine ⟨lfS false, j, .leaf, lf3, hE.mono fun n ⟨h1, h2⟩ => ?_⟩
      have h1' : loopN (Dspec_l19Read_b n) n ((t, 0, false), 0) = _ := h1
      have h2' : loopN (Dimpl_reader_tree_b n) n ((t, 0, false), 0) = _ := h2
      unfold Dspec_ParseSolid Dspec_l19Read Dimpl_ParseSolid Dimpl_reader_tree Dspec_ParseSolid_0 Dimpl_ParseSolid_0
      rw [h1', h2']
      simp only [Option.bind_some, frk_f, decide_eq_true hj, frk_t]
      exact ⟨rfl, rfl⟩
    · have e1 := (sSolidOk x T.lens).and (iSolidOk x)
      by_cases hr : Right x
      · refine ⟨x, -1, T, hr.2, (hE.and e1).mono fun n ⟨⟨h1, h2⟩, k1, k2⟩ => ?_⟩
        have h1' : loopN (Dspec_l19Read_b n) n ((t, 0, false), 0) = _ := h1
        have h2' : loopN (Dimpl_reader_tree_b n) n ((t, 0, false), 0) = _ := h2
        unfold Dspec_ParseSolid Dspec_l19Read Dimpl_ParseSolid Dimpl_reader_tree Dspec_ParseSolid_0 Dimpl_ParseSolid_0
        rw [h1', h2']
        simp only [Option.bind_some, frk_f, decide_eq_false hj, sol_eq', k1, k2, decide_eq_true hr, Bool.not_true]
        exact ⟨trivial, trivial⟩
      · refine ⟨lfS false, 0, .leaf, lf3, (hE.and e1).mono fun n ⟨⟨h1, h2⟩, k1, k2⟩ => ?_⟩
        have h1' : loopN (Dspec_l19Read_b n) n ((t, 0, false), 0) = _ := h1
        have h2' : loopN (Dimpl_reader_tree_b n) n ((t, 0, false), 0) = _ := h2
        unfold Dspec_ParseSolid Dspec_l19Read Dimpl_ParseSolid Dimpl_reader_tree Dspec_ParseSolid_0 Dimpl_ParseSolid_0
        rw [h1', h2']
        simp only [Option.bind_some, frk_f, decide_eq_false hj, sol_eq', k1, k2, decide_eq_false hr, Bool.not_false, frk_t]
        exact ⟨rfl, rfl⟩
theorem plain_ParseSolid {G : ByteArray → Prop} (t : ByteArray) (_ : G t) : ∃ n, Dlaws_FnExactParseSolid n t = some true := by
  by_cases ht : (t.size : Int) ≤ 1048576
  · have hd : decide ((t.size : Int) > 1048576) = false := decide_eq_false (by omega)
    obtain ⟨x, c, hx, hx3, hv⟩ := parseEq t (by omega)
    have tx := hx.tot
    obtain ⟨n, hN⟩ := ((eqs x (by omega)).and (hv.and ((markAt hx.lens (by omega)).and (heldAt hx.lens (by omega)))))
    obtain ⟨k4, ⟨f1, f2⟩, mx, hxx⟩ := hN n (Nat.le_refl n)
    have txx := mkL_tot (s := x) 1
    have m3 := mx 1 (by omega) (by omega)
    have m4 := hxx 1 (by omega) (by omega)
    have d4 : decide ((mkL x.kids 1).1 < 0) = false := decide_eq_false (by omega)
    refine ⟨n, ?_⟩
    simp only [Dlaws_FnExactParseSolid, Dlaws_FnExactParseSolid_0, Dlaws_FnExactParseSolid_1, Dlaws_FnExactParseSolid_2, pl_eq, sol_eq, hd, k4, f1, f2, m3, m4, d4, Option.bind_some, Bool.not_true, frk_f, beq_self_eq_true, bne_self_eq_false]
  · have hd : decide ((t.size : Int) > 1048576) = true := decide_eq_true (by omega)
    refine ⟨0, ?_⟩
    simp only [Dlaws_FnExactParseSolid, hd]; rfl
end Evl.T
