/- A solid is right: the program and the reference say the same. -/
import Derived.Test.YtpjeibdllddkjaaEpg
namespace Evl.T
open Go Evl

mutual
/-- How many nodes a tree has. -/
def nod : Sol → Nat
  | .mk _ _ k => match k with
    | [] => 0
    | x :: xs => 1 + (nod x + nodL xs)
def nodL : List Sol → Nat
  | [] => 0
  | x :: xs => nod x + nodL xs
end
theorem nod_leaf (i : Bool) (p : Pl) : nod (.mk i p []) = 0 := by rw [nod]
theorem nod_node (i : Bool) (p : Pl) (x : Sol) (xs : List Sol) : nod (.mk i p (x :: xs)) = 1 + nodL (x :: xs) := by rw [nod, nodL]
theorem nodL_nil : nodL [] = 0 := rfl
theorem nodL_cons (x : Sol) (xs : List Sol) : nodL (x :: xs) = nod x + nodL xs := by rw [nodL]

/-! counting -/
def cnv (t : Nat) (left : Int) : Int := if (t : Int) ≤ left then t else left
theorem cnv_yes {t : Nat} {left : Int} (h : (t : Int) ≤ left) : cnv t left = t := if_pos h
theorem cnv_no {t : Nat} {left : Int} (h : ¬(t : Int) ≤ left) : cnv t left = left := if_neg h
theorem cStep (n : Nat) (self : Sol × Int → Option Int) (i : Bool) (p : Pl) (k : List Sol) (left : Int) : Dspec_l8Count_b n self (.mk i p k, left) = frk ((k.length : Int) == 0) (some 0) (frk (decide (left ≤ 0)) (some 0) (loopN (Dspec_l8Count_1 n self left i p.A p.B p.C p.D k) n (1, 0))) := rfl
theorem cLoopStep (n : Nat) (self : Sol × Int → Option Int) (left : Int) (i : Bool) (a b c d : Int) (k : List Sol) (rec : Int × Int → Option Int) (s j : Int) : Dspec_l8Count_1 n self left i a b c d k rec (s, j) =
    frk (decide (j < (k.length : Int))) ((lget k j).bind fun v1 => (self (v1, w64 (left - s))).bind fun v2 => rec (w64 (s + v2), w64 (j + 1))) (some s) := rfl
theorem drop_get {α : Type} {l r : List α} {x : α} {k : Nat} (h : l.drop k = x :: r) : k < l.length ∧ l[k]? = some x ∧ l.drop (k + 1) = r ∧ x ∈ l := by
  have hkl : k < l.length := by
    rcases Nat.lt_or_ge k l.length with h' | h'
    · exact h'
    · rw [List.drop_eq_nil_of_le h'] at h; cases h
  have hx : l[k]? = some x := by
    have := congrArg List.head? h
    simpa using this
  exact ⟨hkl, hx, by rw [← List.drop_drop, h]; rfl, List.mem_of_getElem? hx⟩
theorem cLoop (n : Nat) (self : Sol × Int → Option Int) (left : Int) (hl0 : left ≤ 301) (i : Bool) (a b c d : Int) (k : List Sol) (hb : k.length ≤ big) (hs : ∀ x ∈ k, ∀ left : Int, 0 ≤ left → left ≤ 301 → self (x, left) = some (cnv (nod x) left)) :
    ∀ (r : List Sol) (j m : Nat), k.drop j = r → j ≤ k.length → r.length < m → ∀ s : Int, 0 ≤ s → s ≤ left → loopN (Dspec_l8Count_1 n self left i a b c d k) m (s, (j : Int)) = some (if s + (nodL r : Int) ≤ left then s + nodL r else left) := by
  intro r
  induction r with
  | nil =>
    intro j m hr hj hm s h0 h1
    obtain ⟨m, rfl⟩ : ∃ q, m = q + 1 := ⟨m - 1, by omega⟩
    have hj : j = k.length := by have := List.drop_eq_nil_iff.1 hr; omega
    subst hj
    rw [loop_suc, cLoopStep, lt_self, frk_f, nodL_nil, if_pos (by omega)]; congr 1; omega
  | cons x r ih =>
    intro j m hr hj hm s h0 h1
    simp only [List.length_cons] at hm
    obtain ⟨m, rfl⟩ : ∃ q, m = q + 1 := ⟨m - 1, by omega⟩
    obtain ⟨hjl, hx, hr', hmem⟩ := drop_get hr
    rw [loop_suc, cLoopStep, lt_dec hjl, frk_t, lget_nat, hx, Option.bind_some, w64_id (by omega) (by omega), hs x hmem (left - s) (by omega) (by omega), Option.bind_some, w64_suc (by omega), nodL_cons]
    by_cases hc : (nod x : Int) ≤ left - s
    · rw [cnv_yes hc, w64_id (by omega) (by omega), ih (j + 1) m hr' (by omega) (by omega) _ (by omega) (by omega)]
      by_cases h2 : s + (nod x : Int) + (nodL r : Int) ≤ left
      · rw [if_pos h2, if_pos (by omega)]; congr 1; omega
      · rw [if_neg h2, if_neg (by omega)]
    · rw [cnv_no hc, w64_id (by omega) (by omega), ih (j + 1) m hr' (by omega) (by omega) _ (by omega) (by omega), if_neg (show ¬(s + ((nod x + nodL r : Nat) : Int) ≤ left) by omega)]
      by_cases h2 : s + (left - s) + (nodL r : Int) ≤ left
      · rw [if_pos h2]; congr 1; omega
      · rw [if_neg h2]
theorem cntOk : ∀ s, Lens s → E2 fun n m => ∀ left : Int, 0 ≤ left → left ≤ 301 → loopN (Dspec_l8Count_b n) m (s, left) = some (cnv (nod s) left) := by
  refine sol_ind fun i p k ih hl => ?_
  cases hl with
  | mk hb hk =>
    have h1 := E2.all fun x hx => ih x hx (hk x hx)
    have h2 : E2 fun n _ => k.length < n := ⟨k.length + 1, fun n hn _ _ => by omega⟩
    refine E2.suc ((h1.and h2).mono fun n m ⟨h1, h2⟩ left l0 l1 => ?_)
    rw [loop_suc, cStep]
    cases k with
    | nil => rw [nod_leaf, cnv_yes (by omega)]; exact rfl
    | cons x xs =>
      have e : (((x :: xs).length : Int) == 0) = false := by simp; omega
      rw [e, frk_f]
      by_cases hc : left ≤ 0
      · rw [decide_eq_true hc, frk_t, nod_node, cnv_no (by omega)]; congr 1; omega
      · rw [decide_eq_false hc, frk_f]
        have := cLoop n (loopN (Dspec_l8Count_b n) m) left l1 i p.A p.B p.C p.D (x :: xs) hb h1 (x :: xs) 0 n (by simp) (by omega) h2 1 (by omega) (by omega)
        rw [show (0 : Int) = ((0 : Nat) : Int) from rfl, this, nod_node]
        unfold cnv
        by_cases h3 : 1 + (nodL (x :: xs) : Int) ≤ left
        · rw [if_pos h3, if_pos (by omega)]; congr 1
        · rw [if_neg h3, if_neg (by omega)]
theorem cnt (s : Sol) (h : Lens s) : Ev fun n => Dspec_l8Count n s 301 = some (cnv (nod s) 301) :=
  (cntOk s h).ev.mono fun n hn => hn 301 (by decide) (by decide)

/-! looking -/
/-- Is the plane the zero one? -/
def zPl (p : Pl) : Bool := p.A == 0 && (p.B == 0 && (p.C == 0 && (p.D == 0 && true)))
/-- A tree is right along a path. -/
inductive Rt : Sol → List Pl → Prop
  | leaf {i p path} : zPl p = true → Rt (.mk i p []) path
  | node {p a b path} : pOk p = true → path.length < 24 → wth path p = false → wth path (flp p) = false → Rt a (path ++ [p]) → Rt b (path ++ [flp p]) → Rt (.mk false p [a, b]) path
theorem lStep (n : Nat) (self : Sol × List Pl → Option Bool) (i : Bool) (p : Pl) (k : List Sol) (path : List Pl) : Dspec_l8Look_b n self (.mk i p k, path) =
    frk ((k.length : Int) == 0) (some (zPl p)) (frk ((k.length : Int) != 2) (some false) (frk i (some false) ((Dspec_PlaneOk n p).bind fun v1 => frk (!v1) (some false) (frk ((path.length : Int) == 24) (some false) ((Dspec_l6With n path p).bind fun v2 => frk v2 (some false) ((Dspec_l3Flip p).bind fun v3 => (Dspec_l6With n path v3).bind fun v4 =>
      frk v4 (some false) ((lget k 0).bind fun v5 => (Dspec_l8Path path p).bind fun v6 => (self (v5, v6)).bind fun v7 => frk v7 ((lget k 1).bind fun v8 => (Dspec_l3Flip p).bind fun v9 => (Dspec_l8Path path v9).bind fun v10 => (self (v8, v10)).bind fun v11 => some v11) (some false)))))))) := rfl
theorem sPath (path : List Pl) (p : Pl) (h : path.length ≤ 1000) : Dspec_l8Path path p = some (path ++ [p]) := by
  unfold Dspec_l8Path
  rw [chk_eq, chk_eq]
  · rfl
  · simp only [apB, List.nil_append, Bool.and_eq_true, decide_eq_true_eq]; omega
  · simp only [apB, Bool.and_eq_true, decide_eq_true_eq]; omega
theorem iPath (path : List Pl) (p : Pl) (h : path.length ≤ 1000) : Dimpl_with path p = some (path ++ [p]) := sPath path p h
theorem path_PB {path : List Pl} {p : Pl} (h : ∀ q ∈ path, PB q) (hp : PB p) : ∀ q ∈ path ++ [p], PB q := by
  intro q hq
  rcases List.mem_append.1 hq with hq | hq
  · exact h q hq
  · rw [List.mem_singleton.1 hq]; exact hp
open Classical in
theorem lookOk : ∀ s, E2 fun n m => ∀ path : List Pl, (∀ q ∈ path, PB q) → path.length ≤ 24 → loopN (Dspec_l8Look_b n) m (s, path) = some (decide (Rt s path)) := by
  refine sol_ind fun i p k ih => ?_
  have h1 := E2.all fun x hx => ih x hx
  have h2 : E2 fun n _ => 600 < n := ⟨601, fun n hn _ _ => by omega⟩
  refine E2.suc ((h1.and h2).mono fun n m ⟨h1, h2⟩ path hP hL => ?_)
  rw [loop_suc, lStep]
  match k, h1 with
  | [], _ =>
    show some (zPl p) = _
    congr 1
    rw [Bool.eq_iff_iff, decide_eq_true_iff]
    exact ⟨fun h => .leaf h, fun h => by cases h; assumption⟩
  | [x], _ =>
    show some false = _
    congr 1; symm; apply decide_eq_false; intro h; cases h
  | x :: y :: z :: r, _ =>
    have e1 : (((x :: y :: z :: r).length : Int) == 0) = false := by simp; omega
    have e2 : (((x :: y :: z :: r).length : Int) != 2) = true := by simp; omega
    rw [e1, frk_f, e2, frk_t]
    congr 1; symm; apply decide_eq_false; intro h; cases h
  | [x, y], h1 =>
    show frk i _ _ = _
    cases i with
    | true => rw [frk_t]; congr 1; symm; apply decide_eq_false; intro h; cases h
    | false =>
      rw [frk_f, sPlaneOk n p (by omega), Option.bind_some]
      cases hp : pOk p with
      | false => rw [Bool.not_false, frk_t]; congr 1; symm; apply decide_eq_false; intro h; cases h; simp_all
      | true =>
        have hpb := pOk_PB hp
        rw [Bool.not_true, frk_f]
        by_cases hl : path.length = 24
        · have e1 : ((path.length : Int) == 24) = true := by simp; omega
          rw [e1, frk_t]; congr 1; symm; apply decide_eq_false; intro h; cases h; omega
        · have e1 : ((path.length : Int) == 24) = false := by simp; omega
          rw [e1, frk_f, sWith path p hP hpb (by unfold big; omega) n (by omega), Option.bind_some]
          cases hw : wth path p with
          | true => rw [frk_t]; congr 1; symm; apply decide_eq_false; intro h; cases h; simp_all
          | false =>
            rw [frk_f, sFlip p hpb, Option.bind_some, sWith path (flp p) hP (flp_PB hpb) (by unfold big; omega) n (by omega), Option.bind_some]
            cases hw2 : wth path (flp p) with
            | true => rw [frk_t]; congr 1; symm; apply decide_eq_false; intro h; cases h; simp_all
            | false =>
              rw [frk_f]
              show ((some x).bind _) = _
              rw [Option.bind_some, sPath path p (by omega), Option.bind_some, h1 x (by simp) _ (path_PB hP hpb) (by simp; omega), Option.bind_some]
              by_cases ha : Rt x (path ++ [p])
              · rw [decide_eq_true ha, frk_t]
                show ((some y).bind _) = _
                rw [Option.bind_some, Option.bind_some, sPath path _ (by omega), Option.bind_some, h1 y (by simp) _ (path_PB hP (flp_PB hpb)) (by simp; omega), Option.bind_some]
                congr 1
                rw [Bool.eq_iff_iff, decide_eq_true_iff, decide_eq_true_iff]
                exact ⟨fun h => .node hp (by omega) hw hw2 ha h, fun h => by cases h; assumption⟩
              · rw [decide_eq_false ha, frk_f]; congr 1; symm; apply decide_eq_false; intro h; cases h; exact ha (by assumption)
end Evl.T
