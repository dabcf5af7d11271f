/- The program's look at a solid; leaves that are in or out. -/
import Derived.Test.YtpjeibdllddkjaaEph
namespace Evl.T
open Go Evl

theorem rStep (n : Nat) (self : Int × Sol × List Pl → Option (Bool × Int)) (c : Int) (i : Bool) (p : Pl) (k : List Sol) (path : List Pl) : Dimpl_checker_right_b n self (c, .mk i p k, path) =
    frk ((k.length : Int) == 0) (some (zPl p, c)) (frk i (some (false, w64 (c + 1))) (frk ((k.length : Int) != 2) (some (false, w64 (c + 1))) (frk (decide (w64 (c + 1) > 300)) (some (false, w64 (c + 1))) (frk (decide ((path.length : Int) ≥ 24)) (some (false, w64 (c + 1))) ((Dimpl_PlaneOk n p).bind fun v1 => frk (!v1) (some (false, w64 (c + 1))) ((Dimpl_flip p).bind fun v2 => (Dimpl_room n path p).bind fun v3 => frk (!v3) (some (false, w64 (c + 1))) ((Dimpl_room n path v2).bind fun v4 => frk (!v4) (some (false, w64 (c + 1)))
      ((lget k 0).bind fun v5 => (Dimpl_with path p).bind fun v6 => (self (w64 (c + 1), v5, v6)).bind fun v7 => frk v7.1 ((lget k 1).bind fun v8 => (Dimpl_with path v2).bind fun v9 => (self (v7.2, v8, v9)).bind fun v10 => some v10) (some (false, v7.2)))))))))) := rfl
theorem nodL2 (x y : Sol) : nodL [x, y] = nod x + nod y := by rw [nodL_cons, nodL_cons, nodL_nil]; omega
theorem nod2 (i : Bool) (p : Pl) (x y : Sol) : nod (.mk i p [x, y]) = 1 + (nod x + nod y) := by rw [nod_node, nodL2]
theorem rightOk : ∀ s, E2 fun n m => ∀ (c : Nat) (path : List Pl), (∀ q ∈ path, PB q) → path.length ≤ 24 → c ≤ 300 →
    ∃ b c', loopN (Dimpl_checker_right_b n) m ((c : Int), s, path) = some (b, c') ∧ (b = true ↔ Rt s path ∧ c + nod s ≤ 300) ∧ (b = true → c' = ((c + nod s : Nat) : Int)) := by
  refine sol_ind fun i p k ih => ?_
  have h1 := E2.all fun x hx => ih x hx
  have h2 : E2 fun n _ => 600 < n := ⟨601, fun n hn _ _ => by omega⟩
  refine E2.suc ((h1.and h2).mono fun n m ⟨h1, h2⟩ c path hP hL hc => ?_)
  have hw : w64 ((c : Int) + 1) = ((c + 1 : Nat) : Int) := w64_suc (by unfold big; omega)
  rw [loop_suc, rStep, hw]
  have no : ∀ (c' : Int), ¬(Rt (.mk i p k) path ∧ c + nod (.mk i p k) ≤ 300) → ∃ b c'', some (false, c') = some (b, c'') ∧ (b = true ↔ Rt (.mk i p k) path ∧ c + nod (.mk i p k) ≤ 300) ∧ (b = true → c'' = ((c + nod (.mk i p k) : Nat) : Int)) :=
    fun c' h => ⟨false, c', rfl, ⟨fun h' => (by cases h'), fun h' => absurd h' h⟩, fun h' => (by cases h')⟩
  match k, h1, no with
  | [], _, _ =>
    refine ⟨zPl p, c, rfl, ⟨fun h => ⟨.leaf h, (by rw [nod_leaf]; omega)⟩, fun h => (by have := h.1; cases this; assumption)⟩, fun _ => by rw [nod_leaf]; rfl⟩
  | [x], _, no =>
    show ∃ b c', frk i (some (false, _)) (some (false, _)) = some (b, c') ∧ _
    cases i
    · rw [frk_f]; exact no _ (fun h => by have := h.1; cases this)
    · rw [frk_t]; exact no _ (fun h => by have := h.1; cases this)
  | x :: y :: z :: r, _, no =>
    have e1 : (((x :: y :: z :: r).length : Int) == 0) = false := by simp; omega
    have e2 : (((x :: y :: z :: r).length : Int) != 2) = true := by simp; omega
    rw [e1, frk_f, e2, frk_t]
    cases i
    · rw [frk_f]; exact no _ (fun h => by have := h.1; cases this)
    · rw [frk_t]; exact no _ (fun h => by have := h.1; cases this)
  | [x, y], h1, no =>
    rw [show ((([x, y] : List Sol).length : Int) == 0) = false from rfl, frk_f, show ((([x, y] : List Sol).length : Int) != 2) = false from rfl, frk_f]
    cases i with
    | true => rw [frk_t]; exact no _ (fun h => by have := h.1; cases this)
    | false =>
      rw [frk_f]
      by_cases h3 : ((c + 1 : Nat) : Int) > 300
      · rw [decide_eq_true h3, frk_t]; exact no _ (fun h => by have := h.2; rw [nod2] at this; omega)
      · rw [decide_eq_false h3, frk_f]
        by_cases hl : (path.length : Int) ≥ 24
        · rw [decide_eq_true hl, frk_t]; exact no _ (fun h => by have := h.1; cases this; omega)
        · rw [decide_eq_false hl, frk_f, iPlaneOk n p (by omega), Option.bind_some]
          cases hp : pOk p with
          | false => rw [Bool.not_false, frk_t]; exact no _ (fun h => by have := h.1; cases this; simp_all)
          | true =>
            have hpb := pOk_PB hp
            rw [Bool.not_true, frk_f, iFlip p hpb, Option.bind_some, iRoom path p hP hpb (by unfold big; omega) n (by omega), Option.bind_some]
            cases hw : wth path p with
            | true => rw [Bool.not_true, Bool.not_false, frk_t]; exact no _ (fun h => by have := h.1; cases this; simp_all)
            | false =>
              rw [Bool.not_false, Bool.not_true, frk_f, iRoom path (flp p) hP (flp_PB hpb) (by unfold big; omega) n (by omega), Option.bind_some]
              cases hw2 : wth path (flp p) with
              | true => rw [Bool.not_true, Bool.not_false, frk_t]; exact no _ (fun h => by have := h.1; cases this; simp_all)
              | false =>
                rw [Bool.not_false, Bool.not_true, frk_f]
                obtain ⟨b, c', e1, e2, e3⟩ := h1 x (by simp) (c + 1) _ (path_PB hP hpb) (by simp; omega) (by omega)
                show ∃ b c', ((some x).bind _) = some (b, c') ∧ _
                rw [Option.bind_some, iPath path p (by omega), Option.bind_some, e1, Option.bind_some]
                cases b with
                | false =>
                  rw [frk_f]
                  exact no _ (fun h => by
                    have h4 := h.2; rw [nod2] at h4
                    have h5 := h.1
                    cases h5 with
                    | node _ _ _ _ ha hb => exact absurd (e2.2 ⟨ha, by omega⟩) (by decide))
                | true =>
                  rw [frk_t]
                  obtain ⟨ha, hn⟩ := e2.1 rfl
                  obtain rfl := e3 rfl
                  obtain ⟨b2, c2, f1, f2, f3⟩ := h1 y (by simp) (c + 1 + nod x) _ (path_PB hP (flp_PB hpb)) (by simp; omega) (by omega)
                  show ∃ b c', ((some y).bind _) = some (b, c') ∧ _
                  rw [Option.bind_some, iPath path _ (by omega), Option.bind_some]
                  simp only
                  rw [f1, Option.bind_some]
                  refine ⟨b2, c2, rfl, ?_, ?_⟩
                  · rw [f2, nod2]
                    constructor
                    · intro h; exact ⟨.node hp (by omega) hw hw2 ha h.1, by omega⟩
                    · rintro ⟨h, h4⟩
                      cases h with
                      | node _ _ _ _ _ hb => exact ⟨hb, by omega⟩
                  · intro h; rw [f3 h, nod2]; omega
/-- A solid is right. -/
def Right (s : Sol) : Prop := Rt s [] ∧ nod s ≤ 300
open Classical in
theorem sSolidOk (s : Sol) (h : Lens s) : Ev fun n => Dspec_SolidOk n s = some (decide (Right s)) := by
  refine ((cnt s h).and (lookOk s).ev).mono fun n ⟨h1, h2⟩ => ?_
  unfold Dspec_SolidOk
  rw [h1, Option.bind_some]
  by_cases hc : (nod s : Int) ≤ 301
  · rw [cnv_yes hc]
    by_cases h3 : (nod s : Int) ≤ 300
    · rw [decide_eq_true h3, frk_t]
      unfold Dspec_l8Look
      rw [h2 [] (fun q hq => by cases hq) (by simp), Option.bind_some]
      congr 1
      rw [Bool.eq_iff_iff, decide_eq_true_iff, decide_eq_true_iff]
      exact ⟨fun h => ⟨h, by omega⟩, fun h => h.1⟩
    · rw [decide_eq_false h3, frk_f]; congr 1; symm; apply decide_eq_false; intro h; have := h.2; omega
  · rw [cnv_no hc]; show some false = _; congr 1; symm; apply decide_eq_false; intro h; have := h.2; omega
open Classical in
theorem iSolidOk (s : Sol) : Ev fun n => Dimpl_SolidOk n s = some (decide (Right s)) := by
  refine (rightOk s).ev.mono fun n h1 => ?_
  unfold Dimpl_SolidOk Dimpl_checker_right
  obtain ⟨b, c', e1, e2, e3⟩ := h1 0 [] (fun q hq => by cases hq) (by simp) (by omega)
  rw [show (0 : Int) = ((0 : Nat) : Int) from rfl, e1, Option.bind_some]
  congr 1
  rw [Bool.eq_iff_iff, decide_eq_true_iff, e2]
  unfold Right
  rw [Nat.zero_add]

theorem shStep (n : Nat) (self : Sol × Bool → Option Bool) (i : Bool) (p : Pl) (k : List Sol) (b : Bool) : Dspec_l13Has_b n self (.mk i p k, b) = frk ((k.length : Int) == 0) (some (i == b)) ((lget k 0).bind fun v1 => (self (v1, b)).bind fun v2 => frk v2 (some true) ((lget k 1).bind fun v3 => (self (v3, b)).bind fun v4 => some v4)) := rfl
theorem ihStep (n : Nat) (self : Sol × Bool → Option Bool) (i : Bool) (p : Pl) (k : List Sol) (b : Bool) : Dimpl_Solid_has_b n self (.mk i p k, b) = frk ((k.length : Int) == 0) (some (i == b)) ((lget k 0).bind fun v1 => (self (v1, b)).bind fun v2 => frk v2 (some true) ((lget k 1).bind fun v3 => (self (v3, b)).bind fun v4 => some v4)) := rfl
theorem hasOk {s : Sol} {path : List Pl} (h : Rt s path) (b : Bool) : ∃ v, (E2 fun n m => loopN (Dspec_l13Has_b n) m (s, b) = some v) ∧ E2 fun n m => loopN (Dimpl_Solid_has_b n) m (s, b) = some v := by
  induction h with
  | @leaf i p path hz => exact ⟨i == b, E2.suc (E2.of fun n m => by rw [loop_suc, shStep]; rfl), E2.suc (E2.of fun n m => by rw [loop_suc, ihStep]; rfl)⟩
  | @node p a c path _ _ _ _ _ _ iha ihb =>
    obtain ⟨v, h1, h2⟩ := iha
    obtain ⟨w, h3, h4⟩ := ihb
    refine ⟨v || w, E2.suc ((h1.and h3).mono fun n m ⟨h1, h3⟩ => ?_), E2.suc ((h2.and h4).mono fun n m ⟨h2, h4⟩ => ?_)⟩
    · rw [loop_suc, shStep, show ((([a, c] : List Sol).length : Int) == 0) = false from rfl, frk_f]
      show ((some a).bind _) = _
      rw [Option.bind_some, h1, Option.bind_some]
      cases v
      · rw [frk_f]; show ((some c).bind _) = _; rw [Option.bind_some, h3]; rfl
      · rfl
    · rw [loop_suc, ihStep, show ((([a, c] : List Sol).length : Int) == 0) = false from rfl, frk_f]
      show ((some a).bind _) = _
      rw [Option.bind_some, h2, Option.bind_some]
      cases v
      · rw [frk_f]; show ((some c).bind _) = _; rw [Option.bind_some, h4]; rfl
      · rfl

open Classical in
theorem plain_Everything (s : Sol) (h : Lens s) : ∃ n, Dlaws_FnExactEverything n s = some true := by
  by_cases ht : (tot s : Int) ≤ 1048576
  · have e1 := sz s h
    have e2 := to s (by omega)
    have e3 := sSolidOk s h
    have e4 := iSolidOk s
    have e5 := eqs s (by omega)
    by_cases hr : Right s
    · obtain ⟨v, h1, h2⟩ := hasOk hr.1 false
      obtain ⟨N, hN⟩ := (e1.and (e2.and (e3.and (e4.and (e5.and (h1.ev.and h2.ev))))))
      obtain ⟨a1, a2, a3, a4, a5, a6, a7⟩ := hN N (Nat.le_refl N)
      refine ⟨N, ?_⟩
      unfold Dlaws_FnExactEverything
      rw [a1, Option.bind_some, szv_yes ht, decide_eq_false (by omega), frk_f, a2, Option.bind_some]
      unfold Dspec_Everything Dimpl_Everything Dspec_l13Has Dimpl_Solid_has
      simp only [Option.bind_some, a3, a4, decide_eq_true hr, frk_t, a6, a7, a5, beq_self_eq_true, Bool.not_true, frk_f]
    · obtain ⟨N, hN⟩ := (e1.and (e2.and (e3.and (e4.and e5))))
      obtain ⟨a1, a2, a3, a4, a5⟩ := hN N (Nat.le_refl N)
      refine ⟨N, ?_⟩
      unfold Dlaws_FnExactEverything
      rw [a1, Option.bind_some, szv_yes ht, decide_eq_false (by omega), frk_f, a2, Option.bind_some]
      unfold Dspec_Everything Dimpl_Everything
      simp only [Option.bind_some, a3, a4, decide_eq_false hr, frk_f, a5, beq_self_eq_true, Bool.not_true]
  · obtain ⟨N, hN⟩ := sz s h
    refine ⟨N, ?_⟩
    unfold Dlaws_FnExactEverything
    rw [hN N (Nat.le_refl N), Option.bind_some, szv_no ht]; rfl
open Classical in
theorem plain_Nothing (s : Sol) (h : Lens s) : ∃ n, Dlaws_FnExactNothing n s = some true := by
  by_cases ht : (tot s : Int) ≤ 1048576
  · have e1 := sz s h
    have e2 := to s (by omega)
    have e3 := sSolidOk s h
    have e4 := iSolidOk s
    have e5 := eqs s (by omega)
    by_cases hr : Right s
    · obtain ⟨v, h1, h2⟩ := hasOk hr.1 true
      obtain ⟨N, hN⟩ := (e1.and (e2.and (e3.and (e4.and (e5.and (h1.ev.and h2.ev))))))
      obtain ⟨a1, a2, a3, a4, a5, a6, a7⟩ := hN N (Nat.le_refl N)
      refine ⟨N, ?_⟩
      unfold Dlaws_FnExactNothing
      rw [a1, Option.bind_some, szv_yes ht, decide_eq_false (by omega), frk_f, a2, Option.bind_some]
      unfold Dspec_Nothing Dimpl_Nothing Dspec_l13Has Dimpl_Solid_has
      simp only [Option.bind_some, a3, a4, decide_eq_true hr, frk_t, a6, a7, a5, beq_self_eq_true, Bool.not_true, frk_f]
    · obtain ⟨N, hN⟩ := (e1.and (e2.and (e3.and (e4.and e5))))
      obtain ⟨a1, a2, a3, a4, a5⟩ := hN N (Nat.le_refl N)
      refine ⟨N, ?_⟩
      unfold Dlaws_FnExactNothing
      rw [a1, Option.bind_some, szv_yes ht, decide_eq_false (by omega), frk_f, a2, Option.bind_some]
      unfold Dspec_Nothing Dimpl_Nothing
      simp only [Option.bind_some, a3, a4, decide_eq_false hr, frk_f, a5, beq_self_eq_true, Bool.not_true]
  · obtain ⟨N, hN⟩ := sz s h
    refine ⟨N, ?_⟩
    unfold Dlaws_FnExactNothing
    rw [hN N (Nat.le_refl N), Option.bind_some, szv_no ht]; rfl
end Evl.T
