/- Texts that belong together, joined. No condition. -/
import Derived.Test.YtomdcfehnigklaaJp
/-! Eqa -/
namespace Evl.T
open Go Evl

mutual
def mk1 : Sol → Int → Int × Sol
  | .mk _ _ kids, k => ((mkL kids (k + 1 + 1 + 1 + 1 + 1)).1, .mk (Int.tmod k 3 == 0) ⟨k + 1, k + 1 + 1, k + 1 + 1 + 1, k + 1 + 1 + 1 + 1⟩ (mkL kids (k + 1 + 1 + 1 + 1 + 1)).2)
def mkL : List Sol → Int → Int × List Sol
  | [], k => (k, [])
  | x :: xs, k => ((mkL xs (mk1 x k).1).1, (mk1 x k).2 :: (mkL xs (mk1 x k).1).2)
end
theorem mkL_nil (k : Int) : mkL [] k = (k, []) := by rw [mkL]
theorem mkL_cons (x : Sol) (xs : List Sol) (k : Int) : mkL (x :: xs) k = ((mkL xs (mk1 x k).1).1, (mk1 x k).2 :: (mkL xs (mk1 x k).1).2) := by rw [mkL]
theorem mk1_eq (x : Sol) (k : Int) : mk1 x k = ((mkL x.kids (k + 1 + 1 + 1 + 1 + 1)).1, .mk (Int.tmod k 3 == 0) ⟨k + 1, k + 1 + 1, k + 1 + 1 + 1, k + 1 + 1 + 1 + 1⟩ (mkL x.kids (k + 1 + 1 + 1 + 1 + 1)).2) := by
  cases x; rw [mk1]; rfl
mutual
theorem mk1_fst : ∀ (x : Sol) (k : Int), (mk1 x k).1 = k + 5 + 5 * (tot x : Int)
  | .mk i p kids, k => by
    rw [mk1]
    have := mkL_fst kids (k + 1 + 1 + 1 + 1 + 1)
    rw [tot_mk]
    show (mkL kids (k + 1 + 1 + 1 + 1 + 1)).1 = _
    rw [this]; push_cast; omega
theorem mkL_fst : ∀ (l : List Sol) (k : Int), (mkL l k).1 = k + 5 * ((l.length : Int) + (totL l : Int))
  | [], k => by rw [mkL, totL]; simp
  | x :: xs, k => by
    rw [mkL]
    have h1 := mk1_fst x k
    have h2 := mkL_fst xs (mk1 x k).1
    show (mkL xs (mk1 x k).1).1 = _
    rw [h2, h1, totL, List.length_cons]; push_cast; omega
end
theorem mkL_len : ∀ (l : List Sol) (k : Int), (mkL l k).2.length = l.length
  | [], k => by rw [mkL]
  | x :: xs, k => by rw [mkL]; simp [mkL_len xs]

def gig : Int := 1000000000
theorem wk {k : Int} (h0 : 0 ≤ k) (h1 : k + 5 ≤ gig) : w64 (k + 1) = k + 1 ∧ w64 (k + 1 + 1) = k + 1 + 1 ∧ w64 (k + 1 + 1 + 1) = k + 1 + 1 + 1 ∧ w64 (k + 1 + 1 + 1 + 1) = k + 1 + 1 + 1 + 1 ∧ w64 (k + 1 + 1 + 1 + 1 + 1) = k + 1 + 1 + 1 + 1 + 1 := by
  unfold gig at h1
  refine ⟨?_, ?_, ?_, ?_, ?_⟩ <;> exact w64_id (by omega) (by omega)
theorem lget_mid (P : List Sol) (y : Sol) (r : List Sol) : lget (P ++ y :: r) ((P.length : Nat) : Int) = some y := by
  rw [lget_nat, List.getElem?_append_right (Nat.le_refl _)]; simp
theorem set_mid' (P : List Sol) (y z : Sol) (r : List Sol) : (P ++ y :: r).set (Int.toNat ((P.length : Nat) : Int)) z = P ++ z :: r := by
  rw [Int.toNat_natCast, List.set_append_right _ _ (Nat.le_refl _)]; simp
theorem markLoop (n : Nat) (self : List Sol × Int → Option (Int × List Sol)) : ∀ (r P : List Sol) (m : Nat) (k : Int), (∀ x ∈ r, ∀ k : Int, 0 ≤ k → k + 5 * (tot x : Int) ≤ gig → self (x.kids, k) = some (mkL x.kids k)) → r.length < m → P.length + r.length < big → 0 ≤ k → k + 5 * ((r.length : Int) + (totL r : Int)) ≤ gig →
    loopN (Dlaws_markSolidS_1 n self) m (k, ((P.length : Nat) : Int), P ++ r) = some ((mkL r k).1, P ++ (mkL r k).2) := by
  intro r
  induction r with
  | nil =>
    intro P m k hs hm hb h0 h1
    obtain ⟨m, rfl⟩ : ∃ q, m = q + 1 := ⟨m - 1, by omega⟩
    rw [loop_suc]
    simp only [Dlaws_markSolidS_1, List.append_nil, lt_self, frk_f, mkL_nil]
  | cons x r ih =>
    intro P m k hs hm hb h0 h1
    simp only [List.length_cons] at hm hb h1
    obtain ⟨m, rfl⟩ : ∃ q, m = q + 1 := ⟨m - 1, by omega⟩
    rw [totL] at h1
    push_cast at h1
    obtain ⟨w1, w2, w3, w4, w5⟩ := wk h0 (by omega)
    have hlt : ∀ y : Sol, decide (((P.length : Nat) : Int) < ((P ++ y :: r).length : Int)) = true := fun y => by simp; omega
    obtain ⟨xi, xp, xk⟩ := x
    have hself : self (xk, k + 1 + 1 + 1 + 1 + 1) = some (mkL xk (k + 1 + 1 + 1 + 1 + 1)) := hs _ List.mem_cons_self (k + 1 + 1 + 1 + 1 + 1) (by omega) (by omega)
    have hsuc : w64 (((P.length : Nat) : Int) + 1) = (((P ++ [(mk1 (.mk xi xp xk) k).2]).length : Nat) : Int) := by rw [w64_suc (by omega)]; simp
    rw [loop_suc]
    simp only [Dlaws_markSolidS_1, Dlaws_markSolidS_0, hlt, frk_t, lget_mid, set_mid', Option.bind_some, Sol.inn, Sol.pl, Sol.kids, w1, w2, w3, w4, w5]
    rw [hself, Option.bind_some, hsuc]
    have e : (Sol.mk (Int.tmod k 3 == 0) ⟨k + 1, k + 1 + 1, k + 1 + 1 + 1, k + 1 + 1 + 1 + 1⟩ (mkL xk (k + 1 + 1 + 1 + 1 + 1)).2) = (mk1 (.mk xi xp xk) k).2 := by rw [mk1]
    have e1 : (mkL xk (k + 1 + 1 + 1 + 1 + 1)).1 = (mk1 (.mk xi xp xk) k).1 := by rw [mk1]
    rw [e, e1, show P ++ (mk1 (.mk xi xp xk) k).2 :: r = (P ++ [(mk1 (.mk xi xp xk) k).2]) ++ r by simp]
    have hf := mk1_fst (.mk xi xp xk) k
    rw [ih (P ++ [(mk1 (.mk xi xp xk) k).2]) m (mk1 (.mk xi xp xk) k).1 (fun y hy => hs y (List.mem_cons_of_mem _ hy)) (by omega) (by simp; omega) (by omega) (by omega), mkL_cons]
    simp
theorem markOk : ∀ s, Lens s → tot s ≤ 1048576 → E2 fun n m => ∀ k : Int, 0 ≤ k → k + 5 * (tot s : Int) ≤ gig → loopN (Dlaws_markSolidS_b n) m (s.kids, k) = some (mkL s.kids k) := by
  refine sol_ind fun i p k ih hl ht => ?_
  rw [tot_mk] at ht
  cases hl with
  | mk hb hk =>
    have h1 := E2.all fun x hx => ih x hx (hk x hx) (by have := tot_le hx; omega)
    have h2 : E2 fun n _ => k.length < n := ⟨k.length + 1, fun n hn _ _ => by omega⟩
    refine E2.suc ((h1.and h2).mono fun n m ⟨h1, h2⟩ q hq0 hq1 => ?_)
    rw [tot_mk] at hq1
    push_cast at hq1
    rw [loop_suc]
    show loopN (Dlaws_markSolidS_1 n _) n (q, 0, k) = some (mkL k q)
    have := markLoop n (loopN (Dlaws_markSolidS_b n) m) k [] n q h1 h2 (by simp; unfold big; omega) hq0 hq1
    simpa using this
theorem markL (l : List Sol) (hl : ∀ x ∈ l, Lens x) (hlen : l.length ≤ big) (ht : l.length + totL l ≤ 1048576) : Ev fun n => Dlaws_markSolidS n l 1 = some (mkL l 1) :=
  (markOk (.mk false ⟨0, 0, 0, 0⟩ l) (.mk hlen hl) (by rw [tot_mk]; exact ht)).ev.mono fun n h => h 1 (by decide) (by rw [tot_mk]; unfold gig; omega)

theorem kidsOf {s : Sol} (h : Lens s) : s.kids.length ≤ big ∧ (∀ x ∈ s.kids, Lens x) ∧ tot s = s.kids.length + totL s.kids := by
  cases h with
  | mk hb hk => exact ⟨hb, hk, tot_mk _ _ _⟩
/-- A tree is marked: the number that comes back. -/
def mkN (s : Sol) : Int := (mkL s.kids 1).1
theorem mkN_ge (s : Sol) : 1 ≤ mkN s := by unfold mkN; rw [mkL_fst]; omega
theorem marks {s : Sol} (h : Lens s) (ht : tot s ≤ 1048576) : Ev fun n => Dlaws_markSolidS n s.kids 1 = some (mkL s.kids 1) := by
  obtain ⟨h1, h2, h3⟩ := kidsOf h
  exact markL s.kids h2 h1 (by omega)
theorem mkN_lt (s : Sol) : decide ((mkL s.kids 1).1 < 0) = false := decide_eq_false (by have := mkN_ge s; unfold mkN at this; omega)
theorem mkN_lt' (s : Sol) : decide (mkN s < 0) = false := mkN_lt s

/-- A tree that forks in two. -/
inductive Tw : Sol → Prop
  | leaf {i p} : Tw (.mk i p [])
  | node {i p a b} : Tw a → Tw b → Tw (.mk i p [a, b])
theorem Tw.lens {s : Sol} (h : Tw s) : Lens s := by
  induction h with
  | leaf => exact .mk (by simp [big]) (by simp)
  | node _ _ iha ihb =>
    refine .mk (by simp [big]) fun x hx => ?_
    simp only [List.mem_cons, List.not_mem_nil, or_false] at hx
    rcases hx with rfl | rfl
    · exact iha
    · exact ihb
theorem Tw.tot {s : Sol} (h : Tw s) : Evl.T.tot s = 2 * nod s := by
  induction h with
  | leaf => rw [tot_mk, nod_leaf]; simp [totL]
  | node _ _ iha ihb => rw [tot_mk, nod2]; simp only [totL, List.length_cons, List.length_nil, iha, ihb]; omega
theorem Rt.tw {s : Sol} {l : List Pl} (h : Rt s l) : Tw s := by
  induction h with
  | leaf _ => exact .leaf
  | node _ _ _ _ _ _ iha ihb => exact .node iha ihb

/-- The same, from any number on. -/
theorem markAt {s : Sol} (h : Lens s) (ht : tot s ≤ 1048576) : Ev fun n => ∀ k : Int, 0 ≤ k → k ≤ 900000000 → Dlaws_markSolidS n s.kids k = some (mkL s.kids k) :=
  (markOk s h ht).ev.mono fun n hn k h0 h1 => hn k h0 (by unfold gig; omega)
theorem mkL_tot {s : Sol} (k : Int) : (mkL s.kids k).1 = k + 5 * (tot s : Int) := by
  rw [mkL_fst]; cases s; rw [tot_mk]; push_cast; rfl
end Evl.T

/-! Eqo -/
namespace Evl.T
open Go Evl

theorem heldLoop (n : Nat) (self : List Sol × Int → Option Int) (L : List Sol) (hL : L.length ≤ big) : ∀ (r : List Sol) (i m : Nat) (k : Int), (∀ x ∈ r, ∀ k : Int, 0 ≤ k → k + 5 * (tot x : Int) ≤ gig → self ((mkL x.kids k).2, k) = some (mkL x.kids k).1) → L.drop i = (mkL r k).2 → i ≤ L.length → r.length < m → 0 ≤ k → k + 5 * ((r.length : Int) + (totL r : Int)) ≤ gig →
    loopN (Dlaws_heldSolidS_0 n self L) m (k, (i : Int)) = some (mkL r k).1 := by
  intro r
  induction r with
  | nil =>
    intro i m k hs hd hi hm h0 h1
    obtain ⟨m, rfl⟩ : ∃ q, m = q + 1 := ⟨m - 1, by omega⟩
    rw [mkL_nil] at hd
    have : i = L.length := by have := List.drop_eq_nil_iff.1 hd; omega
    subst this
    rw [loop_suc]
    simp only [Dlaws_heldSolidS_0, lt_self, frk_f, mkL_nil]
  | cons x r ih =>
    intro i m k hs hd hi hm h0 h1
    simp only [List.length_cons] at hm h1
    obtain ⟨m, rfl⟩ : ∃ q, m = q + 1 := ⟨m - 1, by omega⟩
    rw [totL] at h1
    push_cast at h1
    obtain ⟨w1, w2, w3, w4, w5⟩ := wk h0 (by omega)
    rw [mkL_cons] at hd
    obtain ⟨hil, hx, hd', -⟩ := drop_get hd
    obtain ⟨xi, xp, xk⟩ := x
    have hself : self ((mkL xk (k + 1 + 1 + 1 + 1 + 1)).2, k + 1 + 1 + 1 + 1 + 1) = some (mkL xk (k + 1 + 1 + 1 + 1 + 1)).1 := hs _ List.mem_cons_self (k + 1 + 1 + 1 + 1 + 1) (by omega) (by omega)
    have hf := mk1_fst (.mk xi xp xk) k
    have e1 : (mkL xk (k + 1 + 1 + 1 + 1 + 1)).1 = (mk1 (.mk xi xp xk) k).1 := by rw [mk1]
    have hnn : decide ((mkL xk (k + 1 + 1 + 1 + 1 + 1)).1 < 0) = false := decide_eq_false (by rw [e1]; omega)
    rw [loop_suc]
    simp only [Dlaws_heldSolidS_0, lt_dec hil, frk_t, lget_nat, hx, Option.bind_some, w1, w2, w3, w4, w5]
    simp only [mk1, Sol.inn, Sol.pl, Sol.kids, beq_self_eq_true, Bool.not_true, frk_f, bne_self_eq_false]
    rw [hself, Option.bind_some, hnn, frk_f, w64_suc (by omega), e1]
    rw [ih (i + 1) m (mk1 (.mk xi xp xk) k).1 (fun y hy => hs y (List.mem_cons_of_mem _ hy)) hd' (by omega) (by omega) (by omega) (by omega), mkL_cons]
theorem heldOk : ∀ s, Lens s → tot s ≤ 1048576 → E2 fun n m => ∀ k : Int, 0 ≤ k → k + 5 * (tot s : Int) ≤ gig → loopN (Dlaws_heldSolidS_b n) m ((mkL s.kids k).2, k) = some (mkL s.kids k).1 := by
  refine sol_ind fun i p k ih hl ht => ?_
  rw [tot_mk] at ht
  cases hl with
  | mk hb hk =>
    have h1 := E2.all fun x hx => ih x hx (hk x hx) (by have := tot_le hx; omega)
    have h2 : E2 fun n _ => k.length < n := ⟨k.length + 1, fun n hn _ _ => by omega⟩
    refine E2.suc ((h1.and h2).mono fun n m ⟨h1, h2⟩ q hq0 hq1 => ?_)
    rw [tot_mk] at hq1
    push_cast at hq1
    rw [loop_suc]
    show loopN (Dlaws_heldSolidS_0 n _ (mkL k q).2) n (q, 0) = some (mkL k q).1
    exact heldLoop n (loopN (Dlaws_heldSolidS_b n) m) (mkL k q).2 (by rw [mkL_len]; exact hb) k 0 n q h1 (by simp) (by omega) h2 hq0 hq1
theorem heldL (s : Sol) (l : List Sol) (hs : s.kids = (mkL l 1).2) (hl : ∀ x ∈ l, Lens x) (hlen : l.length ≤ big) (ht : l.length + totL l ≤ 1048576) : Ev fun n => Dlaws_heldSolid n s 1 = some (mkL l 1).1 :=
  (heldOk (.mk false ⟨0, 0, 0, 0⟩ l) (.mk hlen hl) (by rw [tot_mk]; exact ht)).ev.mono fun n h => by
    have := h 1 (by decide) (by rw [tot_mk]; unfold gig; omega)
    have h1 := mkL_fst l 1
    unfold Dlaws_heldSolid Dlaws_heldSolidS
    rw [hs]
    have e : loopN (Dlaws_heldSolidS_b n) n ((mkL l 1).2, 1) = some (mkL l 1).1 := this
    rw [e, Option.bind_some, decide_eq_false (by omega), frk_f]

theorem helds {s : Sol} (h : Lens s) (ht : tot s ≤ 1048576) : Ev fun n => Dlaws_heldSolid n (Sol.mk s.inn s.pl (mkL s.kids 1).2) 1 = some (mkN s) := by
  obtain ⟨h1, h2, h3⟩ := kidsOf h
  exact heldL _ s.kids rfl h2 h1 (by omega)
theorem heldAt {s : Sol} (h : Lens s) (ht : tot s ≤ 1048576) : Ev fun n => ∀ k : Int, 0 ≤ k → k ≤ 900000000 → Dlaws_heldSolid n (Sol.mk s.inn s.pl (mkL s.kids k).2) k = some (mkL s.kids k).1 :=
  (heldOk s h ht).ev.mono fun n hn k h0 h1 => by
    have h2 := hn k h0 (by unfold gig; omega)
    have h3 := mkL_fst s.kids k
    unfold Dlaws_heldSolid Dlaws_heldSolidS
    have e : loopN (Dlaws_heldSolidS_b n) n ((mkL s.kids k).2, k) = some (mkL s.kids k).1 := h2
    show ((loopN (Dlaws_heldSolidS_b n) n ((mkL s.kids k).2, k)).bind _) = _
    rw [e, Option.bind_some, decide_eq_false (by omega), frk_f]
end Evl.T

/-! Eqk -/
namespace Evl.T
open Go Evl

theorem ap64 {k : Nat} (h : k ≤ 1048576) : apB 64 k = true := by
  simp only [apB, Bool.and_eq_true, decide_eq_true_eq]; omega
/-- A list is copied one by one. -/
theorem copyLoop {F : (Int × List Sol → Option Sol) → Int × List Sol → Option Sol} {self : Sol → Option Sol} {l : List Sol} {R : List Sol → Option Sol} (hl : l.length ≤ 1048576) (hs : ∀ x ∈ l, self x = some x)
    (hF : ∀ rec (t : Int) (d : List Sol), F rec (t, d) = frk (decide (t < (l.length : Int))) ((lget l t).bind fun v0 => (self v0).bind fun v1 => chk (apB 64 (d.length + 1)) (rec (w64 (t + 1), d ++ [v1]))) (R d)) :
    ∀ (r : List Sol) (k m : Nat), l.drop k = r → k ≤ l.length → r.length < m → loopN F m ((k : Int), l.take k) = R l := by
  intro r
  induction r with
  | nil =>
    intro k m hr hk hm
    obtain ⟨m, rfl⟩ : ∃ j, m = j + 1 := ⟨m - 1, by omega⟩
    have hk : k = l.length := by have := List.drop_eq_nil_iff.1 hr; omega
    rw [loop_suc, hF, hk, lt_self, frk_f, List.take_length]
  | cons x r ih =>
    intro k m hr hk hm
    simp only [List.length_cons] at hm
    obtain ⟨m, rfl⟩ : ∃ j, m = j + 1 := ⟨m - 1, by omega⟩
    obtain ⟨hkl, hx, hr', hmem⟩ := drop_get hr
    have ht : (l.take k).length = k := by rw [List.length_take]; omega
    rw [loop_suc, hF, lt_dec hkl, frk_t, lget_nat, hx, Option.bind_some, hs x hmem, Option.bind_some, chk_eq (ap64 (by rw [ht]; omega)), w64_suc (by unfold big; omega)]
    have e : l.take k ++ [x] = l.take (k + 1) := by rw [List.take_add_one, hx]; simp
    rw [e]
    exact ih (k + 1) m hr' (by omega) (by omega)
theorem sCopy : ∀ s, tot s ≤ 1048576 → E2 fun n m => loopN (Dspec_l8Copy_b n) m s = some s := by
  refine sol_ind fun i p k ih hl => ?_
  rw [tot_mk] at hl
  have h1 := E2.all fun x hx => ih x hx (by have := tot_le hx; omega)
  have h2 : E2 fun n _ => k.length < n := ⟨k.length + 1, fun n hn _ _ => by omega⟩
  refine E2.suc ((h1.and h2).mono fun n m ⟨h1, h2⟩ => ?_)
  rw [loop_suc]
  exact copyLoop (F := Dspec_l8Copy_0 n (loopN (Dspec_l8Copy_b n) m) i p.A p.B p.C p.D k false 0 0 0 0 i p.A p.B p.C p.D) (l := k) (R := fun d => some (.mk i p d)) (by omega) h1 (fun _ _ _ => rfl) k 0 n (by simp) (by omega) h2
theorem iCopy : ∀ s, tot s ≤ 1048576 → E2 fun n m => loopN (Dimpl_copySolid_b n) m s = some s := by
  refine sol_ind fun i p k ih hl => ?_
  rw [tot_mk] at hl
  have h1 := E2.all fun x hx => ih x hx (by have := tot_le hx; omega)
  have h2 : E2 fun n _ => k.length < n := ⟨k.length + 1, fun n hn _ _ => by omega⟩
  refine E2.suc ((h1.and h2).mono fun n m ⟨h1, h2⟩ => ?_)
  rw [loop_suc]
  exact copyLoop (F := Dimpl_copySolid_0 n (loopN (Dimpl_copySolid_b n) m) k (k.length : Int) false 0 0 0 0 i p.A p.B p.C p.D) (l := k) (R := fun d => some (.mk i p d)) (by omega) h1 (fun _ _ _ => rfl) k 0 n (by simp) (by omega) h2
theorem sCopyE {s : Sol} (h : tot s ≤ 1048576) : Ev fun n => Dspec_l8Copy n s = some s := (sCopy s h).ev
theorem iCopyE {s : Sol} (h : tot s ≤ 1048576) : Ev fun n => Dimpl_copySolid n s = some s := (iCopy s h).ev

/-- Each plane of a tree is another one. -/
inductive Mp (f : Pl → Pl) : Sol → Sol → Prop
  | leaf {i p} : Mp f (.mk i p []) (.mk i ⟨0, 0, 0, 0⟩ [])
  | node {i p a b x y} : Mp f a x → Mp f b y → Mp f (.mk i p [a, b]) (.mk false (f p) [x, y])
theorem Mp.out {f : Pl → Pl} {s x : Sol} (h : Mp f s x) : Tw x ∧ nod x = nod s := by
  induction h with
  | leaf => exact ⟨.leaf, by rw [nod_leaf, nod_leaf]⟩
  | node _ _ iha ihb => exact ⟨.node iha.1 ihb.1, by rw [nod2, nod2, iha.2, ihb.2]⟩
theorem Mp.comp {f g : Pl → Pl} {s x : Sol} (h : Mp f s x) : ∀ {y}, Mp g x y → Mp (fun p => g (f p)) s y := by
  induction h with
  | leaf => intro y h; cases h; exact .leaf
  | node _ _ iha ihb => intro y h; cases h with | node h1 h2 => exact .node (iha h1) (ihb h2)
theorem Mp.exists {s : Sol} (h : Tw s) (f : Pl → Pl) : ∃ x, Mp f s x := by
  induction h with
  | leaf => exact ⟨_, .leaf⟩
  | node _ _ iha ihb => obtain ⟨x, hx⟩ := iha; obtain ⟨y, hy⟩ := ihb; exact ⟨_, .node hx hy⟩
theorem Mp.self {s : Sol} {l : List Pl} (h : Rt s l) : Mp (fun p => p) s s := by
  induction h with
  | @leaf i p path hz =>
    have : p = ⟨0, 0, 0, 0⟩ := by
      unfold zPl at hz
      simp only [Bool.and_true, Bool.and_eq_true, beq_iff_eq] at hz
      cases p; simp_all
    subst this; exact .leaf
  | node _ _ _ _ _ _ iha ihb => exact .node iha ihb
end Evl.T

/-! Eqm -/
namespace Evl.T
open Go Evl

theorem axes' {ax : Int} (h : rIn ax 0 2 = true) : ax = 0 ∨ ax = 1 ∨ ax = 2 := by
  simp only [rIn, Bool.and_eq_true, decide_eq_true_eq] at h; omega
def trnP (ax : Int) (p : Pl) : Pl := if ax = 0 then ⟨p.A, w64 (0 - p.C), p.B, p.D⟩ else if ax = 1 then ⟨p.C, p.B, w64 (0 - p.A), p.D⟩ else ⟨w64 (0 - p.B), p.A, p.C, p.D⟩
def trnN (ax : Int) : Nat → Pl → Pl
  | 0, p => p
  | k + 1, p => trnN ax k (trnP ax p)
theorem trnN_D (ax : Int) : ∀ k p, (trnN ax k p).D = p.D := by
  intro k
  induction k with
  | zero => intro p; rfl
  | succ k ih => intro p; show (trnN ax k (trnP ax p)).D = _; rw [ih]; unfold trnP; split; rfl; split <;> rfl
/-- How often it is turned. -/
def qtr (q : Int) : Int := Int.tmod (w64 ((Int.tmod q 4) + 4)) 4
theorem qtr_nat (q : Int) : ∃ k : Nat, qtr q = k ∧ k ≤ 3 := by
  have h1 : -4 < Int.tmod q 4 ∧ Int.tmod q 4 < 4 := by
    have := Int.tmod_lt_of_pos q (show (0 : Int) < 4 by decide)
    have h2 := Int.lt_tmod_of_pos q (show (0 : Int) < 4 by decide)
    omega
  have h2 : w64 ((Int.tmod q 4) + 4) = Int.tmod q 4 + 4 := w64_id (by omega) (by omega)
  have h3 : qtr q = Int.tmod (Int.tmod q 4 + 4) 4 := by unfold qtr; rw [h2]
  have h4 : Int.tmod (Int.tmod q 4 + 4) 4 = (Int.tmod q 4 + 4) % 4 := Int.tmod_eq_emod_of_nonneg (by omega)
  refine ⟨(qtr q).toNat, ?_, ?_⟩ <;> rw [h3, h4] <;> omega
theorem iStep {ax : Int} (hax : rIn ax 0 2 = true) (n : Nat) (rec : Int × Int × Int × Int → Option (Int × Int × Int)) (c : Int) (t : Int) (p : Pl) (h : decide (t < c) = true) :
    Dimpl_turned_0 n (Int.tmod (w64 (ax + 1)) 3) (Int.tmod (w64 (ax + 2)) 3) c 0 0 0 rec (t, p.A, p.B, p.C) = rec (w64 (t + 1), (trnP ax p).A, (trnP ax p).B, (trnP ax p).C) := by
  show frk (decide (t < c)) _ _ = _
  rw [h, frk_t]
  rcases axes' hax with rfl | rfl | rfl <;> rfl
theorem iEnd (n : Nat) (i j : Int) (rec : Int × Int × Int × Int → Option (Int × Int × Int)) (c : Int) (t : Int) (p : Pl) (h : decide (t < c) = false) :
    Dimpl_turned_0 n i j c 0 0 0 rec (t, p.A, p.B, p.C) = some (p.A, p.B, p.C) := by
  show frk (decide (t < c)) _ _ = _
  rw [h, frk_f]
theorem iLoop {ax : Int} (hax : rIn ax 0 2 = true) (n : Nat) (c : Nat) (hc : c ≤ 3) : ∀ (k t m : Nat) (p : Pl), t + k = c → k < m →
    loopN (Dimpl_turned_0 n (Int.tmod (w64 (ax + 1)) 3) (Int.tmod (w64 (ax + 2)) 3) (c : Int) 0 0 0) m ((t : Int), p.A, p.B, p.C) = some ((trnN ax k p).A, (trnN ax k p).B, (trnN ax k p).C) := by
  intro k
  induction k with
  | zero =>
    intro t m p h hm
    obtain ⟨m, rfl⟩ : ∃ j, m = j + 1 := ⟨m - 1, by omega⟩
    rw [loop_suc, iEnd _ _ _ _ _ _ _ (by apply decide_eq_false; omega)]; rfl
  | succ k ih =>
    intro t m p h hm
    obtain ⟨m, rfl⟩ : ∃ j, m = j + 1 := ⟨m - 1, by omega⟩
    rw [loop_suc, iStep hax _ _ _ _ _ (by apply decide_eq_true; omega), w64_suc (by unfold big; omega)]
    exact ih (t + 1) m (trnP ax p) (by omega) (by omega)
theorem iTrn {ax : Int} (hax : rIn ax 0 2 = true) (q : Int) (k : Nat) (hk : qtr q = k) (h3 : k ≤ 3) (n : Nat) (hn : 5 ≤ n) (p : Pl) : Dimpl_TurnSolidLit1 n p ax q = some (trnN ax k p, true) := by
  have h : Dimpl_turned n (p.A, p.B, p.C) ax q = some ((trnN ax k p).A, (trnN ax k p).B, (trnN ax k p).C) := by
    have := iLoop hax n k h3 k 0 n p (by omega) (by omega)
    unfold qtr at hk
    unfold Dimpl_turned
    rw [hk]; exact this
  have h0 : Dimpl_normal p = some (p.A, p.B, p.C) := rfl
  simp only [Dimpl_TurnSolidLit1, h0, h, Option.bind_some]
  rw [← trnN_D ax k p]
theorem sTree {ax : Int} {s x : Sol} (h : Mp (trnP ax) s x) (hax : rIn ax 0 2 = true) : E2 fun n m => loopN (Dspec_l16Tree_b n) m (s, ax) = some x := by
  induction h with
  | @leaf i p => exact E2.suc (E2.of fun n m => by rw [loop_suc]; rfl)
  | @node i p a b x y _ _ iha ihb =>
    refine E2.suc ((iha.and ihb).mono fun n m ⟨h1, h2⟩ => ?_)
    rw [loop_suc]
    have e : Dspec_l16Plane p ax = some (trnP ax p) := by rcases axes' hax with rfl | rfl | rfl <;> rfl
    simp only [Dspec_l16Tree_b, Dspec_l8Leaf, Sol.kids, Sol.pl, Option.bind_some, lget_zero, lget_one, List.getElem?_cons_zero, List.getElem?_cons_succ, h1, h2, e]
    rfl
theorem iMov {ax q : Int} {k : Nat} (hk : qtr q = k) (h3 : k ≤ 3) {s x : Sol} (h : Mp (trnN ax k) s x) (hax : rIn ax 0 2 = true) : E2 fun n m => loopN (Dimpl_movedfimpl_TurnSolidLit1_b n) m (s, (ax, q)) = some (x, true) := by
  induction h with
  | @leaf i p => exact E2.suc (E2.of fun n m => by rw [loop_suc]; rfl)
  | @node i p a b x y _ _ iha ihb =>
    have h5 : E2 fun n _ => 5 ≤ n := ⟨5, fun n hn _ _ => hn⟩
    refine E2.suc ((h5.and (iha.and ihb)).mono fun n m ⟨h0, h1, h2⟩ => ?_)
    rw [loop_suc]
    simp only [Dimpl_movedfimpl_TurnSolidLit1_b, Dimpl_Solid_isLeaf, Sol.kids, Sol.pl, Option.bind_some, lget_zero, lget_one, List.getElem?_cons_zero, List.getElem?_cons_succ, h1, h2, iTrn hax q k hk h3 n h0]
    rfl
theorem Mp.own {f : Pl → Pl} {s y : Sol} (h : Mp f s y) : Mp (fun p => p) y y := by
  induction h with
  | leaf => exact .leaf
  | node _ _ iha ihb => exact .node iha ihb
/-- The reference turns k times. -/
theorem sTurns {ax : Int} (hax : rIn ax 0 2 = true) : ∀ (k : Nat), k ≤ 3 → ∀ {s : Sol}, Tw s → (k = 0 → Mp (fun p => p) s s) → ∃ x, Mp (trnN ax k) s x ∧ E2 fun n m => loopN (Dspec_TurnSolid_1 n ax false 0 0 0 0) m ((k : Int), s.inn, s.pl.A, s.pl.B, s.pl.C, s.pl.D, s.kids) = some x := by
  intro k
  induction k with
  | zero =>
    intro _ s _ h0
    refine ⟨s, h0 rfl, E2.suc (E2.of fun n m => ?_)⟩
    rw [loop_suc]
    show frk (decide ((0 : Int) > 0)) _ _ = _
    rw [decide_eq_false (by omega), frk_f, sol_eq']
  | succ k ih =>
    intro hk s hs _
    obtain ⟨y, hy⟩ := Mp.exists hs (trnP ax)
    obtain ⟨x, hx, hE⟩ := ih (by omega) hy.out.1 fun _ => hy.own
    refine ⟨x, ?_, E2.suc ((hE.and (sTree hy hax).ev.e2).mono fun n m ⟨h1, h2⟩ => ?_)⟩
    · have := hy.comp hx; exact this
    · have h2' : Dspec_l16Tree n s ax = some y := h2
      rw [loop_suc]
      show frk (decide (((k + 1 : Nat) : Int) > 0)) ((Dspec_l16Tree n (Sol.mk s.inn (Pl.mk s.pl.A s.pl.B s.pl.C s.pl.D) s.kids) ax).bind _) _ = _
      rw [decide_eq_true (by omega), frk_t, sol_eq', h2', Option.bind_some]
      have e : w64 (((k + 1 : Nat) : Int) - 1) = (k : Int) := by rw [w64_id (by omega) (by omega)]; omega
      rw [e]; exact h1
open Classical in
theorem turnEq (s : Sol) (h : Lens s) (ht : tot s ≤ 1048576) (ax q : Int) : ∃ x, Lens x ∧ tot x ≤ 1048576 ∧ Ev fun n => Dspec_TurnSolid n s ax q = some x ∧ Dimpl_TurnSolid n s ax q = some x := by
  have e1 := sSolidOk s h; have e2 := iSolidOk s
  have hI : Dimpl_isAxis ax = some (rIn ax 0 2) := by unfold Dimpl_isAxis; rw [iIn]; rfl
  have e3 := sCopyE ht; have e4 := iCopyE ht
  cases hax : rIn ax 0 2 with
  | false =>
    refine ⟨s, h, ht, (e1.and (e3.and e4)).mono fun n ⟨h1, h3, h4⟩ => ⟨?_, ?_⟩⟩
    · simp only [Dspec_TurnSolid, Dspec_TurnSolid_0, h1, sIn, hax, h3, sol_eq', Option.bind_some, Bool.not_false, frk_t]
      cases decide (Right s) <;> rfl
    · simp only [Dimpl_TurnSolid, Dimpl_TurnSolid_0, hI, hax, h4, sol_eq', Option.bind_some, Bool.not_false, frk_t]
  | true =>
    by_cases hr : Right s
    · obtain ⟨k, hk, h3⟩ := qtr_nat q
      obtain ⟨x, hx, hE⟩ := sTurns hax k h3 hr.1.tw fun _ => Mp.self hr.1
      have hxt := hx.out.1.tot
      have hn := hr.2
      refine ⟨x, hx.out.1.lens, by rw [hxt, hx.out.2]; omega, (e1.and (e2.and (e3.and (hE.ev.and (iMov hk h3 hx hax).ev)))).mono fun n ⟨h1, h2, h3, h4, h5⟩ => ⟨?_, ?_⟩⟩
      · have hq : Dspec_l16Quarters q = some (k : Int) := by rw [← hk]; rfl
        simp only [Dspec_TurnSolid, Dspec_TurnSolid_0, h1, sIn, hax, h3, hq, decide_eq_true hr, h4, Option.bind_some, Bool.not_true, frk_f]
      · have h5' : Dimpl_movedfimpl_TurnSolidLit1 n s (ax, q) = some (x, true) := h5
        simp only [Dimpl_TurnSolid, Dimpl_TurnSolid_1, hI, hax, h2, decide_eq_true hr, h5', sol_eq', Option.bind_some, Bool.not_true, frk_f]
    · refine ⟨s, h, ht, (e1.and (e2.and (e3.and e4))).mono fun n ⟨h1, h2, h3, h4⟩ => ⟨?_, ?_⟩⟩
      · simp only [Dspec_TurnSolid, h1, h3, decide_eq_false hr, Option.bind_some, Bool.not_false, frk_t]
      · simp only [Dimpl_TurnSolid, Dimpl_TurnSolid_1, hI, hax, h2, decide_eq_false hr, h4, sol_eq', Option.bind_some, Bool.not_true, Bool.not_false, frk_t, frk_f]
theorem plain_TurnSolid {G F : Int → Prop} (a : Sol) (ha : Lens a) (ax : Int) (_ : G ax) (q : Int) (_ : F q) : ∃ n, Dlaws_FnExactTurnSolid n a.kids a ax q = some true := by
  have e1 := sz a ha
  have ea : Sol.mk a.inn a.pl a.kids = a := Sol.eta a
  by_cases ht : (tot a : Int) ≤ 1048576
  · obtain ⟨x, hx, tx, hv⟩ := turnEq a ha (by omega) ax q
    obtain ⟨n, hN⟩ := (e1.and ((to a (by omega)).and ((eqs a (by omega)).and ((eqs x (by omega)).and (hv.and ((markAt ha (by omega)).and ((markAt hx (by omega)).and (heldAt hx (by omega)))))))))
    obtain ⟨k1, k2, k3, k4, ⟨f1, f2⟩, ma, mx, hxx⟩ := hN n (Nat.le_refl n)
    rw [szv_yes ht] at k1
    have ta := mkL_tot (s := a) 1
    have tX := mkL_tot (s := x) 1
    have m1 := ma 1 (by omega) (by omega)
    have m2 := mx 1 (by omega) (by omega)
    have m3 := hxx 1 (by omega) (by omega)
    have d1 : decide ((1048576 - (tot a : Int)) < 0) = false := decide_eq_false (by omega)
    have d2 : decide ((mkL a.kids 1).1 < 0) = false := decide_eq_false (by omega)
    have d3 : decide ((mkL x.kids 1).1 < 0) = false := decide_eq_false (by omega)
    refine ⟨n, ?_⟩
    simp only [Dlaws_FnExactTurnSolid, Dlaws_FnExactTurnSolid_0, Dlaws_FnExactTurnSolid_1, Dlaws_FnExactTurnSolid_2, pl_eq, sol_eq, ea, k1, k2, k3, k4, f1, f2, m1, m2, m3, d1, d2, d3, Option.bind_some, Bool.not_true, frk_f, bne_self_eq_false]
  · obtain ⟨n, hN⟩ := e1
    have k1 := hN n (Nat.le_refl n)
    rw [szv_no ht] at k1
    refine ⟨n, ?_⟩
    simp only [Dlaws_FnExactTurnSolid, ea, k1, Option.bind_some]; rfl
end Evl.T
