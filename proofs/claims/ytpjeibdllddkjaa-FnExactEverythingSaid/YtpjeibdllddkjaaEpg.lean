/- Trees: their size is told, they are copied, they are the same as themselves. -/
import Derived.Test.YtpjeibdllddkjaaEpf
namespace Evl.T
open Go Evl

theorem sol_ind {P : Sol → Prop} (h : ∀ i p k, (∀ x ∈ k, P x) → P (.mk i p k)) : ∀ s, P s := by
  have key : ∀ n : Nat, ∀ s : Sol, sizeOf s < n → P s := by
    intro n
    induction n with
    | zero => intro s hs; omega
    | succ n ih =>
      intro s hs
      obtain ⟨i, p, k⟩ := s
      exact h i p k fun x hx => ih x (by
        have h1 := List.sizeOf_lt_of_mem hx
        simp only [Sol.mk.sizeOf_spec] at hs; omega)
  exact fun s => key (sizeOf s + 1) s (by omega)

/-- No list in a tree is longer than lists can be. -/
inductive Lens : Sol → Prop
  | mk {i p k} : k.length ≤ big → (∀ x ∈ k, Lens x) → Lens (.mk i p k)
mutual
/-- All elements of all lists in a tree. -/
def tot : Sol → Nat
  | .mk _ _ k => k.length + totL k
def totL : List Sol → Nat
  | [] => 0
  | x :: xs => tot x + totL xs
end
theorem tot_le {l : List Sol} {x : Sol} (h : x ∈ l) : tot x ≤ totL l := by
  induction l with
  | nil => cases h
  | cons y l ih =>
    simp only [totL]
    rcases List.mem_cons.1 h with rfl | h
    · omega
    · have := ih h; omega
def szv (t : Nat) (left : Int) : Int := if (t : Int) ≤ left then left - t else -1
def mil : Int := 1048576
theorem szv_yes {t : Nat} {left : Int} (h : (t : Int) ≤ left) : szv t left = left - t := if_pos h
theorem szv_no {t : Nat} {left : Int} (h : ¬(t : Int) ≤ left) : szv t left = -1 := if_neg h
theorem totL_cons (x : Sol) (r : List Sol) : totL (x :: r) = tot x + totL r := rfl
theorem totL_nil : totL [] = 0 := rfl
theorem tot_mk (i : Bool) (p : Pl) (k : List Sol) : tot (.mk i p k) = k.length + totL k := by rw [tot]
theorem szStep (n : Nat) (self : Sol × Int → Option Int) (i : Bool) (p : Pl) (k : List Sol) (left : Int) : Dlaws_szSolid_b n self (.mk i p k, left) = (frk (decide ((w64 (left - (k.length : Int))) < 0)) (some (-1)) (loopN (Dlaws_szSolidS_in_0 n self k) n (w64 (left - (k.length : Int)), 0))).bind fun v0 => frk (decide (v0 < 0)) (some (-1)) (some v0) := rfl

theorem szLoop (n : Nat) (self : Sol × Int → Option Int) (l : List Sol) (hl : l.length ≤ big) (hs : ∀ x ∈ l, ∀ left : Int, 0 ≤ left → left ≤ mil → self (x, left) = some (szv (tot x) left)) :
    ∀ (r : List Sol) (k m : Nat), l.drop k = r → k ≤ l.length → r.length < m → ∀ left : Int, 0 ≤ left → left ≤ mil → loopN (Dlaws_szSolidS_in_0 n self l) m (left, (k : Int)) = some (szv (totL r) left) := by
  intro r
  induction r with
  | nil =>
    intro k m hr hk hm left h0 h1
    obtain ⟨m, rfl⟩ : ∃ j, m = j + 1 := ⟨m - 1, by omega⟩
    have hk : k = l.length := by have := List.drop_eq_nil_iff.1 hr; omega
    rw [loop_suc]
    unfold Dlaws_szSolidS_in_0
    subst hk
    simp only [lt_self, frk_f]
    rw [totL_nil, szv_yes (by omega)]; congr 1; omega
  | cons x r ih =>
    intro k m hr hk hm left h0 h1
    simp only [List.length_cons] at hm
    obtain ⟨m, rfl⟩ : ∃ j, m = j + 1 := ⟨m - 1, by omega⟩
    have hkl : k < l.length := by
      rcases Nat.lt_or_ge k l.length with h | h
      · exact h
      · rw [List.drop_eq_nil_of_le h] at hr; cases hr
    have hx : l[k]? = some x := by
      have := congrArg List.head? hr
      simpa using this
    have hr' : l.drop (k + 1) = r := by
      rw [← List.drop_drop, hr]; rfl
    have hmem : x ∈ l := List.mem_of_getElem? hx
    rw [loop_suc]
    show frk _ ((lget l (k : Int)).bind _) _ = _
    rw [lt_dec hkl, frk_t, lget_nat, hx, Option.bind_some, hs x hmem left h0 h1, Option.bind_some]
    by_cases hc : (tot x : Int) ≤ left
    · have e : szv (tot x) left = left - tot x := szv_yes hc
      have hd : decide (left - (tot x : Int) < 0) = false := by simpa using hc
      rw [e, hd, frk_f, w64_suc (by omega), ih (k + 1) m hr' (by omega) (by omega) _ (by omega) (by omega)]
      by_cases h2 : (totL r : Int) ≤ left - tot x
      · rw [szv_yes h2, totL_cons, szv_yes (by omega)]; congr 1; omega
      · rw [szv_no h2, totL_cons, szv_no (by omega)]
    · rw [szv_no hc, show decide ((-1 : Int) < 0) = true from rfl, frk_t, totL_cons, szv_no (by omega)]
theorem szOk : ∀ s, Lens s → E2 fun n m => ∀ left : Int, 0 ≤ left → left ≤ mil → loopN (Dlaws_szSolid_b n) m (s, left) = some (szv (tot s) left) := by
  refine sol_ind fun i p k ih hl => ?_
  cases hl with
  | mk hb hk =>
    have h1 := E2.all fun x hx => ih x hx (hk x hx)
    have h2 : E2 fun n _ => k.length < n := ⟨k.length + 1, fun n hn _ _ => by omega⟩
    refine E2.suc ((h1.and h2).mono fun n m ⟨h1, h2⟩ left l0 l1 => ?_)
    have hw : w64 (left - (k.length : Int)) = left - k.length := by
      unfold big at hb; unfold mil at l1
      exact w64_id (by omega) (by omega)
    rw [loop_suc, szStep, hw, tot_mk]
    by_cases hc : left - (k.length : Int) < 0
    · rw [decide_eq_true hc, frk_t, Option.bind_some, show decide ((-1 : Int) < 0) = true from rfl, frk_t, szv_no (by omega)]
    · have := szLoop n (loopN (Dlaws_szSolid_b n) m) k hb h1 k 0 n (by simp) (by omega) h2 (left - k.length) (by omega) (by omega)
      rw [decide_eq_false hc, frk_f, show (0 : Int) = ((0 : Nat) : Int) from rfl, this, Option.bind_some]
      by_cases h3 : (totL k : Int) ≤ left - k.length
      · rw [szv_yes h3, szv_yes (by omega), decide_eq_false (by omega), frk_f]; congr 1; omega
      · rw [szv_no h3, szv_no (by omega)]; rfl
theorem sz (s : Sol) (h : Lens s) : Ev fun n => Dlaws_szSolid n s 1048576 = some (szv (tot s) 1048576) :=
  (szOk s h).ev.mono fun n hn => hn 1048576 (by decide) (by decide)

theorem toPl (p : Pl) : Dlaws_toPlane p = some p := rfl
theorem mk64 {k : Nat} (h : k ≤ 1048576) : mkB (k : Int) 64 = true := by
  simp only [mkB, Bool.and_eq_true, decide_eq_true_eq]; omega
theorem toLoop (n : Nat) (self : Sol → Option Sol) (l : List Sol) (hl : l.length ≤ big) (hs : ∀ x ∈ l, self x = some x) :
    ∀ (r : List Sol) (k m : Nat), l.drop k = r → k ≤ l.length → r.length < m → loopN (Dlaws_toSolidS_in_0 n self l) m ((k : Int), l.take k ++ List.replicate r.length zSol) = some l := by
  intro r
  induction r with
  | nil =>
    intro k m hr hk hm
    obtain ⟨m, rfl⟩ : ∃ j, m = j + 1 := ⟨m - 1, by omega⟩
    have hk : k = l.length := by have := List.drop_eq_nil_iff.1 hr; omega
    rw [loop_suc]
    unfold Dlaws_toSolidS_in_0
    subst hk
    simp only [lt_self, frk_f]; simp
  | cons x r ih =>
    intro k m hr hk hm
    simp only [List.length_cons] at hm
    obtain ⟨m, rfl⟩ : ∃ j, m = j + 1 := ⟨m - 1, by omega⟩
    have hkl : k < l.length := by
      rcases Nat.lt_or_ge k l.length with h | h
      · exact h
      · rw [List.drop_eq_nil_of_le h] at hr; cases hr
    have hx : l[k]? = some x := by
      have := congrArg List.head? hr
      simpa using this
    have hr' : l.drop (k + 1) = r := by
      rw [← List.drop_drop, hr]; rfl
    have hmem : x ∈ l := List.mem_of_getElem? hx
    have ht : (l.take k).length = k := by rw [List.length_take]; omega
    have hz : (l.take k ++ List.replicate (x :: r).length zSol)[k]? = some zSol := by
      rw [List.getElem?_append_right (by omega), ht]; simp [List.replicate_succ]
    rw [loop_suc]
    show frk _ ((lget l (k : Int)).bind _) _ = _
    rw [lt_dec hkl, frk_t, lget_nat, hx, Option.bind_some, hs x hmem, Option.bind_some, lget_nat, hz, Option.bind_some, w64_suc (by omega)]
    have e : (l.take k ++ List.replicate (x :: r).length zSol).set (Int.toNat (k : Int)) x = l.take (k + 1) ++ List.replicate r.length zSol := by
      rw [Int.toNat_natCast, List.set_append_right _ _ (by omega), ht]
      simp only [Nat.sub_self, List.length_cons, List.replicate_succ, List.set_cons_zero]
      rw [List.take_add_one, hx]; simp
    rw [e]
    exact ih (k + 1) m hr' (by omega) (by omega)
theorem toStep (n : Nat) (self : Sol → Option Sol) (i : Bool) (p : Pl) (k : List Sol) : Dlaws_toSolid_b n self (.mk i p k) = (chk (mkB (k.length : Int) 64) (loopN (Dlaws_toSolidS_in_0 n self k) n (0, (List.replicate (Int.toNat (k.length : Int)) zSol)))).bind fun v1 => some (Sol.mk i p v1) := rfl
theorem toOk : ∀ s, tot s ≤ 1048576 → E2 fun n m => loopN (Dlaws_toSolid_b n) m s = some s := by
  refine sol_ind fun i p k ih hl => ?_
  rw [tot_mk] at hl
  have h1 := E2.all fun x hx => ih x hx (by have := tot_le hx; omega)
  have h2 : E2 fun n _ => k.length < n := ⟨k.length + 1, fun n hn _ _ => by omega⟩
  refine E2.suc ((h1.and h2).mono fun n m ⟨h1, h2⟩ => ?_)
  rw [loop_suc, toStep, chk_eq (mk64 (by omega))]
  have := toLoop n (loopN (Dlaws_toSolid_b n) m) k (by unfold big; omega) h1 k 0 n (by simp) (by omega) h2
  simp only [List.take_zero, List.nil_append] at this
  rw [show (0 : Int) = ((0 : Nat) : Int) from rfl, Int.toNat_natCast, this]
  rfl
theorem to (s : Sol) (h : tot s ≤ 1048576) : Ev fun n => Dlaws_toSolid n s = some s := (toOk s h).ev

theorem eqPl (p : Pl) : Dlaws_eqPlane p p = some true := by
  unfold Dlaws_eqPlane; simp [frk_f]
theorem eqStep (n : Nat) (self : Sol × Sol → Option Bool) (i j : Bool) (p q : Pl) (k l : List Sol) : Dlaws_eqSolid_b n self (.mk i p k, .mk j q l) = frk (!(i == j)) (some false) ((Dlaws_eqPlane p q).bind fun v0 => frk (!v0) (some false) ((frk ((k.length : Int) != (l.length : Int)) (some false) (loopN (Dlaws_eqSolidS_in_0 n self k l) n 0)).bind fun v1 => frk (!v1) (some false) (some true))) := rfl
theorem eqOk : ∀ s, tot s ≤ 1048576 → E2 fun n m => loopN (Dlaws_eqSolid_b n) m (s, s) = some true := by
  refine sol_ind fun i p k ih hl => ?_
  rw [tot_mk] at hl
  have h1 := E2.all fun x hx => ih x hx (by have := tot_le hx; omega)
  have h2 : E2 fun n _ => k.length < n := ⟨k.length + 1, fun n hn _ _ => by omega⟩
  refine E2.suc ((h1.and h2).mono fun n m ⟨h1, h2⟩ => ?_)
  rw [loop_suc, eqStep, eqPl]
  simp only [Option.bind_some, beq_self_eq_true, Bool.not_true, frk_f, bne_self_eq_false]
  have := search (F := Dlaws_eqSolidS_in_0 n (loopN (Dlaws_eqSolid_b n) m) k k) (len := k.length) (b := fun _ => false) (hit := some false) (miss := some true) (by unfold big; omega) ?_ ?_ k.length 0 n (by omega) h2
  · rw [show (0 : Int) = ((0 : Nat) : Int) from rfl, this]
    have : (List.range' 0 k.length).any (fun _ => false) = false := by simp
    rw [this]; rfl
  · intro rec j hj
    obtain ⟨x, hx⟩ : ∃ x, k[j]? = some x := ⟨k[j], List.getElem?_eq_getElem hj⟩
    unfold Dlaws_eqSolidS_in_0
    simp only [lt_dec hj, frk_t, lget_nat, hx, Option.bind_some]
    rw [h1 x (List.mem_of_getElem? hx)]
    rfl
  · intro rec
    unfold Dlaws_eqSolidS_in_0
    simp only [lt_self, frk_f]
theorem eqs (s : Sol) (h : tot s ≤ 1048576) : Ev fun n => Dlaws_eqSolid n s s = some true := (eqOk s h).ev
end Evl.T
