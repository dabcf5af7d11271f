/- Texts that belong together, joined. No condition. -/
import Derived.Test.YtpjeibdllddkjaaJp
/-! Eqa -/
namespace Evl.T
open Go Evl

mutual
def mk1 : Sol → Int → Int × Sol
  | .mk _ _ kids, k => ((mkL kids (k + 1 + 1 + 1 + 1 + 1)).1, .mk (Int.tmod k 3 == 0) ⟨k + 1, k + 1 + 1, k + 1 + 1 + 1, k + 1 + 1 + 1 + 1⟩ (mkL kids (k + 1 + 1 + 1 + 1 + 1)).2)
def mkL : List Sol → Int → Int × List Sol
  | [], k => (k, [])
  | x :: xs, k => ((mkL xs (mk1 x k).1).1, (mk1 x k).2 :: (mkL xs (mk1 x k).1).2)
end
theorem mkL_nil (k : Int) : mkL [] k = (k, []) := by rw [mkL]
theorem mkL_cons (x : Sol) (xs : List Sol) (k : Int) : mkL (x :: xs) k = ((mkL xs (mk1 x k).1).1, (mk1 x k).2 :: (mkL xs (mk1 x k).1).2) := by rw [mkL]
theorem mk1_eq (x : Sol) (k : Int) : mk1 x k = ((mkL x.kids (k + 1 + 1 + 1 + 1 + 1)).1, .mk (Int.tmod k 3 == 0) ⟨k + 1, k + 1 + 1, k + 1 + 1 + 1, k + 1 + 1 + 1 + 1⟩ (mkL x.kids (k + 1 + 1 + 1 + 1 + 1)).2) := by
  cases x; rw [mk1]; rfl
mutual
theorem mk1_fst : ∀ (x : Sol) (k : Int), (mk1 x k).1 = k + 5 + 5 * (tot x : Int)
  | .mk i p kids, k => by
    rw [mk1]
    have := mkL_fst kids (k + 1 + 1 + 1 + 1 + 1)
    rw [tot_mk]
    show (mkL kids (k + 1 + 1 + 1 + 1 + 1)).1 = _
    rw [this]; push_cast; omega
theorem mkL_fst : ∀ (l : List Sol) (k : Int), (mkL l k).1 = k + 5 * ((l.length : Int) + (totL l : Int))
  | [], k => by rw [mkL, totL]; simp
  | x :: xs, k => by
    rw [mkL]
    have h1 := mk1_fst x k
    have h2 := mkL_fst xs (mk1 x k).1
    show (mkL xs (mk1 x k).1).1 = _
    rw [h2, h1, totL, List.length_cons]; push_cast; omega
end
theorem mkL_len : ∀ (l : List Sol) (k : Int), (mkL l k).2.length = l.length
  | [], k => by rw [mkL]
  | x :: xs, k => by rw [mkL]; simp [mkL_len xs]

def gig : Int := 1000000000
theorem wk {k : Int} (h0 : 0 ≤ k) (h1 : k + 5 ≤ gig) : w64 (k + 1) = k + 1 ∧ w64 (k + 1 + 1) = k + 1 + 1 ∧ w64 (k + 1 + 1 + 1) = k + 1 + 1 + 1 ∧ w64 (k + 1 + 1 + 1 + 1) = k + 1 + 1 + 1 + 1 ∧ w64 (k + 1 + 1 + 1 + 1 + 1) = k + 1 + 1 + 1 + 1 + 1 := by
  unfold gig at h1
  refine ⟨?_, ?_, ?_, ?_, ?_⟩ <;> exact w64_id (by omega) (by omega)
theorem lget_mid (P : List Sol) (y : Sol) (r : List Sol) : lget (P ++ y :: r) ((P.length : Nat) : Int) = some y := by
  rw [lget_nat, List.getElem?_append_right (Nat.le_refl _)]; simp
theorem set_mid' (P : List Sol) (y z : Sol) (r : List Sol) : (P ++ y :: r).set (Int.toNat ((P.length : Nat) : Int)) z = P ++ z :: r := by
  rw [Int.toNat_natCast, List.set_append_right _ _ (Nat.le_refl _)]; simp
theorem markLoop (n : Nat) (self : List Sol × Int → Option (Int × List Sol)) : ∀ (r P : List Sol) (m : Nat) (k : Int), (∀ x ∈ r, ∀ k : Int, 0 ≤ k → k + 5 * (tot x : Int) ≤ gig → self (x.kids, k) = some (mkL x.kids k)) → r.length < m → P.length + r.length < big → 0 ≤ k → k + 5 * ((r.length : Int) + (totL r : Int)) ≤ gig →
    loopN (Dlaws_markSolidS_1 n self) m (k, ((P.length : Nat) : Int), P ++ r) = some ((mkL r k).1, P ++ (mkL r k).2) := by
  intro r
  induction r with
  | nil =>
    intro P m k hs hm hb h0 h1
    obtain ⟨m, rfl⟩ : ∃ q, m = q + 1 := ⟨m - 1, by omega⟩
    rw [loop_suc]
    simp only [Dlaws_markSolidS_1, List.append_nil, lt_self, frk_f, mkL_nil]
  | cons x r ih =>
    intro P m k hs hm hb h0 h1
    simp only [List.length_cons] at hm hb h1
    obtain ⟨m, rfl⟩ : ∃ q, m = q + 1 := ⟨m - 1, by omega⟩
    rw [totL] at h1
    push_cast at h1
    obtain ⟨w1, w2, w3, w4, w5⟩ := wk h0 (by omega)
    have hlt : ∀ y : Sol, decide (((P.length : Nat) : Int) < ((P ++ y :: r).length : Int)) = true := fun y => by simp; omega
    obtain ⟨xi, xp, xk⟩ := x
    have hself : self (xk, k + 1 + 1 + 1 + 1 + 1) = some (mkL xk (k + 1 + 1 + 1 + 1 + 1)) := hs _ List.mem_cons_self (k + 1 + 1 + 1 + 1 + 1) (by omega) (by omega)
    have hsuc : w64 (((P.length : Nat) : Int) + 1) = (((P ++ [(mk1 (.mk xi xp xk) k).2]).length : Nat) : Int) := by rw [w64_suc (by omega)]; simp
    rw [loop_suc]
    simp only [Dlaws_markSolidS_1, Dlaws_markSolidS_0, hlt, frk_t, lget_mid, set_mid', Option.bind_some, Sol.inn, Sol.pl, Sol.kids, w1, w2, w3, w4, w5]
    rw [hself, Option.bind_some, hsuc]
    have e : (Sol.mk (Int.tmod k 3 == 0) ⟨k + 1, k + 1 + 1, k + 1 + 1 + 1, k + 1 + 1 + 1 + 1⟩ (mkL xk (k + 1 + 1 + 1 + 1 + 1)).2) = (mk1 (.mk xi xp xk) k).2 := by rw [mk1]
    have e1 : (mkL xk (k + 1 + 1 + 1 + 1 + 1)).1 = (mk1 (.mk xi xp xk) k).1 := by rw [mk1]
    rw [e, e1, show P ++ (mk1 (.mk xi xp xk) k).2 :: r = (P ++ [(mk1 (.mk xi xp xk) k).2]) ++ r by simp]
    have hf := mk1_fst (.mk xi xp xk) k
    rw [ih (P ++ [(mk1 (.mk xi xp xk) k).2]) m (mk1 (.mk xi xp xk) k).1 (fun y hy => hs y (List.mem_cons_of_mem _ hy)) (by omega) (by simp; omega) (by omega) (by omega), mkL_cons]
    simp
theorem markOk : ∀ s, Lens s → tot s ≤ 1048576 → E2 fun n m => ∀ k : Int, 0 ≤ k → k + 5 * (tot s : Int) ≤ gig → loopN (Dlaws_markSolidS_b n) m (s.kids, k) = some (mkL s.kids k) := by
  refine sol_ind fun i p k ih hl ht => ?_
  rw [tot_mk] at ht
  cases hl with
  | mk hb hk =>
    have h1 := E2.all fun x hx => ih x hx (hk x hx) (by have := tot_le hx; omega)
    have h2 : E2 fun n _ => k.length < n := ⟨k.length + 1, fun n hn _ _ => by omega⟩
    refine E2.suc ((h1.and h2).mono fun n m ⟨h1, h2⟩ q hq0 hq1 => ?_)
    rw [tot_mk] at hq1
    push_cast at hq1
    rw [loop_suc]
    show loopN (Dlaws_markSolidS_1 n _) n (q, 0, k) = some (mkL k q)
    have := markLoop n (loopN (Dlaws_markSolidS_b n) m) k [] n q h1 h2 (by simp; unfold big; omega) hq0 hq1
    simpa using this
theorem markL (l : List Sol) (hl : ∀ x ∈ l, Lens x) (hlen : l.length ≤ big) (ht : l.length + totL l ≤ 1048576) : Ev fun n => Dlaws_markSolidS n l 1 = some (mkL l 1) :=
  (markOk (.mk false ⟨0, 0, 0, 0⟩ l) (.mk hlen hl) (by rw [tot_mk]; exact ht)).ev.mono fun n h => h 1 (by decide) (by rw [tot_mk]; unfold gig; omega)

theorem heldLoop (n : Nat) (self : List Sol × Int → Option Int) (L : List Sol) (hL : L.length ≤ big) : ∀ (r : List Sol) (i m : Nat) (k : Int), (∀ x ∈ r, ∀ k : Int, 0 ≤ k → k + 5 * (tot x : Int) ≤ gig → self ((mkL x.kids k).2, k) = some (mkL x.kids k).1) → L.drop i = (mkL r k).2 → i ≤ L.length → r.length < m → 0 ≤ k → k + 5 * ((r.length : Int) + (totL r : Int)) ≤ gig →
    loopN (Dlaws_heldSolidS_0 n self L) m (k, (i : Int)) = some (mkL r k).1 := by
  intro r
  induction r with
  | nil =>
    intro i m k hs hd hi hm h0 h1
    obtain ⟨m, rfl⟩ : ∃ q, m = q + 1 := ⟨m - 1, by omega⟩
    rw [mkL_nil] at hd
    have : i = L.length := by have := List.drop_eq_nil_iff.1 hd; omega
    subst this
    rw [loop_suc]
    simp only [Dlaws_heldSolidS_0, lt_self, frk_f, mkL_nil]
  | cons x r ih =>
    intro i m k hs hd hi hm h0 h1
    simp only [List.length_cons] at hm h1
    obtain ⟨m, rfl⟩ : ∃ q, m = q + 1 := ⟨m - 1, by omega⟩
    rw [totL] at h1
    push_cast at h1
    obtain ⟨w1, w2, w3, w4, w5⟩ := wk h0 (by omega)
    rw [mkL_cons] at hd
    obtain ⟨hil, hx, hd', -⟩ := drop_get hd
    obtain ⟨xi, xp, xk⟩ := x
    have hself : self ((mkL xk (k + 1 + 1 + 1 + 1 + 1)).2, k + 1 + 1 + 1 + 1 + 1) = some (mkL xk (k + 1 + 1 + 1 + 1 + 1)).1 := hs _ List.mem_cons_self (k + 1 + 1 + 1 + 1 + 1) (by omega) (by omega)
    have hf := mk1_fst (.mk xi xp xk) k
    have e1 : (mkL xk (k + 1 + 1 + 1 + 1 + 1)).1 = (mk1 (.mk xi xp xk) k).1 := by rw [mk1]
    have hnn : decide ((mkL xk (k + 1 + 1 + 1 + 1 + 1)).1 < 0) = false := decide_eq_false (by rw [e1]; omega)
    rw [loop_suc]
    simp only [Dlaws_heldSolidS_0, lt_dec hil, frk_t, lget_nat, hx, Option.bind_some, w1, w2, w3, w4, w5]
    simp only [mk1, Sol.inn, Sol.pl, Sol.kids, beq_self_eq_true, Bool.not_true, frk_f, bne_self_eq_false]
    rw [hself, Option.bind_some, hnn, frk_f, w64_suc (by omega), e1]
    rw [ih (i + 1) m (mk1 (.mk xi xp xk) k).1 (fun y hy => hs y (List.mem_cons_of_mem _ hy)) hd' (by omega) (by omega) (by omega) (by omega), mkL_cons]
theorem heldOk : ∀ s, Lens s → tot s ≤ 1048576 → E2 fun n m => ∀ k : Int, 0 ≤ k → k + 5 * (tot s : Int) ≤ gig → loopN (Dlaws_heldSolidS_b n) m ((mkL s.kids k).2, k) = some (mkL s.kids k).1 := by
  refine sol_ind fun i p k ih hl ht => ?_
  rw [tot_mk] at ht
  cases hl with
  | mk hb hk =>
    have h1 := E2.all fun x hx => ih x hx (hk x hx) (by have := tot_le hx; omega)
    have h2 : E2 fun n _ => k.length < n := ⟨k.length + 1, fun n hn _ _ => by omega⟩
    refine E2.suc ((h1.and h2).mono fun n m ⟨h1, h2⟩ q hq0 hq1 => ?_)
    rw [tot_mk] at hq1
    push_cast at hq1
    rw [loop_suc]
    show loopN (Dlaws_heldSolidS_0 n _ (mkL k q).2) n (q, 0) = some (mkL k q).1
    exact heldLoop n (loopN (Dlaws_heldSolidS_b n) m) (mkL k q).2 (by rw [mkL_len]; exact hb) k 0 n q h1 (by simp) (by omega) h2 hq0 hq1
theorem heldL (s : Sol) (l : List Sol) (hs : s.kids = (mkL l 1).2) (hl : ∀ x ∈ l, Lens x) (hlen : l.length ≤ big) (ht : l.length + totL l ≤ 1048576) : Ev fun n => Dlaws_heldSolid n s 1 = some (mkL l 1).1 :=
  (heldOk (.mk false ⟨0, 0, 0, 0⟩ l) (.mk hlen hl) (by rw [tot_mk]; exact ht)).ev.mono fun n h => by
    have := h 1 (by decide) (by rw [tot_mk]; unfold gig; omega)
    have h1 := mkL_fst l 1
    unfold Dlaws_heldSolid Dlaws_heldSolidS
    rw [hs]
    have e : loopN (Dlaws_heldSolidS_b n) n ((mkL l 1).2, 1) = some (mkL l 1).1 := this
    rw [e, Option.bind_some, decide_eq_false (by omega), frk_f]

theorem kidsOf {s : Sol} (h : Lens s) : s.kids.length ≤ big ∧ (∀ x ∈ s.kids, Lens x) ∧ tot s = s.kids.length + totL s.kids := by
  cases h with
  | mk hb hk => exact ⟨hb, hk, tot_mk _ _ _⟩
/-- A tree is marked: the number that comes back. -/
def mkN (s : Sol) : Int := (mkL s.kids 1).1
theorem mkN_ge (s : Sol) : 1 ≤ mkN s := by unfold mkN; rw [mkL_fst]; omega
theorem marks {s : Sol} (h : Lens s) (ht : tot s ≤ 1048576) : Ev fun n => Dlaws_markSolidS n s.kids 1 = some (mkL s.kids 1) := by
  obtain ⟨h1, h2, h3⟩ := kidsOf h
  exact markL s.kids h2 h1 (by omega)
theorem helds {s : Sol} (h : Lens s) (ht : tot s ≤ 1048576) : Ev fun n => Dlaws_heldSolid n (Sol.mk s.inn s.pl (mkL s.kids 1).2) 1 = some (mkN s) := by
  obtain ⟨h1, h2, h3⟩ := kidsOf h
  exact heldL _ s.kids rfl h2 h1 (by omega)
theorem mkN_lt (s : Sol) : decide ((mkL s.kids 1).1 < 0) = false := decide_eq_false (by have := mkN_ge s; unfold mkN at this; omega)
theorem mkN_lt' (s : Sol) : decide (mkN s < 0) = false := mkN_lt s

/-- A tree that forks in two. -/
inductive Tw : Sol → Prop
  | leaf {i p} : Tw (.mk i p [])
  | node {i p a b} : Tw a → Tw b → Tw (.mk i p [a, b])
theorem Tw.lens {s : Sol} (h : Tw s) : Lens s := by
  induction h with
  | leaf => exact .mk (by simp [big]) (by simp)
  | node _ _ iha ihb =>
    refine .mk (by simp [big]) fun x hx => ?_
    simp only [List.mem_cons, List.not_mem_nil, or_false] at hx
    rcases hx with rfl | rfl
    · exact iha
    · exact ihb
theorem Tw.tot {s : Sol} (h : Tw s) : Evl.T.tot s = 2 * nod s := by
  induction h with
  | leaf => rw [tot_mk, nod_leaf]; simp [totL]
  | node _ _ iha ihb => rw [tot_mk, nod2]; simp only [totL, List.length_cons, List.length_nil, iha, ihb]; omega
theorem Rt.tw {s : Sol} {l : List Pl} (h : Rt s l) : Tw s := by
  induction h with
  | leaf _ => exact .leaf
  | node _ _ _ _ _ _ iha ihb => exact .node iha ihb
end Evl.T

/-! Eqb -/
namespace Evl.T
open Go Evl

theorem notOk {s : Sol} {l : List Pl} (h : Rt s l) : ∃ x, Tw x ∧ nod x = nod s ∧ E2 fun n m => loopN (Dspec_l11Not_b n) m s = some x ∧ loopN (Dimpl_not_b n) m s = some x := by
  induction h with
  | @leaf i p _ _ => exact ⟨.mk (!i) ⟨0, 0, 0, 0⟩ [], .leaf, by rw [nod_leaf, nod_leaf], E2.suc (E2.of fun n m => ⟨by rw [loop_suc]; rfl, by rw [loop_suc]; rfl⟩)⟩
  | @node p a b l _ _ _ _ _ _ iha ihb =>
    obtain ⟨x, hx, nx, h1⟩ := iha
    obtain ⟨y, hy, ny, h2⟩ := ihb
    refine ⟨.mk false p [x, y], .node hx hy, by rw [nod2, nod2, nx, ny], E2.suc ((h1.and h2).mono fun n m ⟨h1, h2⟩ => ⟨?_, ?_⟩)⟩
    · rw [loop_suc]
      simp only [Dspec_l11Not_b, Dspec_l8Leaf, Sol.kids, Sol.pl, Option.bind_some, lget_zero, lget_one, List.getElem?_cons_zero, List.getElem?_cons_succ, h1.1, h2.1]
      rfl
    · rw [loop_suc]
      simp only [Dimpl_not_b, Dimpl_Solid_isLeaf, Sol.kids, Sol.pl, Option.bind_some, lget_zero, lget_one, List.getElem?_cons_zero, List.getElem?_cons_succ, h1.2, h2.2]
      rfl
open Classical in
theorem notEq (s : Sol) (h : Lens s) : ∃ x, Tw x ∧ nod x ≤ 300 ∧ Ev fun n => Dspec_Not n s = some x ∧ Dimpl_Not n s = some x := by
  have e1 := sSolidOk s h; have e2 := iSolidOk s
  by_cases hr : Right s
  · obtain ⟨x, hx, nx, hE⟩ := notOk hr.1
    refine ⟨x, hx, by rw [nx]; exact hr.2, (e1.and (e2.and hE.ev)).mono fun n ⟨h1, h2, h3, h4⟩ => ⟨?_, ?_⟩⟩
    · simp only [Dspec_Not, Dspec_l11Not, h1, decide_eq_true hr, Option.bind_some, Bool.not_true, frk_f, h3]
    · simp only [Dimpl_Not, Dimpl_not, h2, decide_eq_true hr, Option.bind_some, Bool.not_true, frk_f, h4]
  · refine ⟨.mk false ⟨0, 0, 0, 0⟩ [], .leaf, by rw [nod_leaf]; omega, (e1.and e2).mono fun n ⟨h1, h2⟩ => ⟨?_, ?_⟩⟩
    · simp only [Dspec_Not, h1, decide_eq_false hr, Option.bind_some, Bool.not_false, frk_t]; rfl
    · simp only [Dimpl_Not, h2, decide_eq_false hr, Option.bind_some, Bool.not_false, frk_t]; rfl
theorem plain_Not (a : Sol) (ha : Lens a) : ∃ n, Dlaws_FnExactNot n a.kids a = some true := by
  obtain ⟨x, hx, nx, hv⟩ := notEq a ha
  have tx := hx.tot
  have hxm := marks hx.lens (by omega)
  have hxh := helds hx.lens (by omega)
  have hxe := eqs x (by omega)
  have e1 := sz a ha
  by_cases ht : (tot a : Int) ≤ 1048576
  · obtain ⟨n, hN⟩ := (e1.and ((to a (by omega)).and ((eqs a (by omega)).and ((marks ha (by omega)).and (hv.and (hxm.and (hxh.and hxe)))))))
    obtain ⟨k1, k2, k3, k4, ⟨f1, f2⟩, k5, k6, k7⟩ := hN n (Nat.le_refl n)
    rw [szv_yes ht] at k1
    have el := mkN_lt a
    have ex := mkN_lt x
    have ex' := mkN_lt' x
    refine ⟨n, ?_⟩
    have e0 : Sol.mk a.inn a.pl a.kids = a := Sol.eta a
    simp only [Dlaws_FnExactNot, Dlaws_FnExactNot_0, Dlaws_FnExactNot_1, Dlaws_FnExactNot_2, pl_eq, sol_eq, e0, k1, k2, k3, k4, f1, f2, k5, k6, k7, el, ex, ex', Option.bind_some, Bool.not_true, frk_f]
    rw [decide_eq_false (by omega), frk_f]
    have e1 : (mkN x != (mkL x.kids 1).1) = false := by unfold mkN; simp
    rw [e1, frk_f, frk_f]
  · obtain ⟨n, hN⟩ := e1
    refine ⟨n, ?_⟩
    have k1 := hN n (Nat.le_refl n)
    rw [szv_no ht] at k1
    have e0 : Sol.mk a.inn a.pl a.kids = a := Sol.eta a
    simp only [Dlaws_FnExactNot, e0, k1, Option.bind_some]; rfl
end Evl.T
