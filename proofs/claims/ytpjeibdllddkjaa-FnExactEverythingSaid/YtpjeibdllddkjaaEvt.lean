/- All arguments of a call. No condition. -/
import Derived.Test.YtpjeibdllddkjaaEvs
namespace Evl
open Go

variable {P : Program} {H : Hints} {fid : FuncId} {N : Nat} {w0 w w' : World} {M : Nat → Prop} {V0 V V' Vc : Nat → Nat} {K K' Kc : Nat → Nat × Nat} {O O' : Nat → Option Loc} {s : S} {a : Act} {fp : List Nat} {v : Value} {KS : List Nat}

/-- The arguments, side by side: what each has as its own. -/
structure Args (V : Nat → Nat) (w : World) (K : Nat → Nat × Nat) (vs : List Value) (args : List AV) (fps : List (List Nat)) : Prop where
  l1 : vs.length = args.length
  l2 : fps.length = args.length
  at_ : ∀ (j : Nat) (x : AV), args[j]? = some x → ∃ v fq, vs[j]? = some v ∧ fps[j]? = some fq ∧ RepV V w K fq v x

theorem Args.cons {vs : List Value} {args : List AV} {fps : List (List Nat)} (h : Args V w K vs args fps) {v : Value} {x : AV} {fq : List Nat} (hx : RepV V w K fq v x) : Args V w K (v :: vs) (x :: args) (fq :: fps) := by
  refine ⟨by simp [h.l1], by simp [h.l2], fun j y hj => ?_⟩
  cases j with
  | zero => simp only [List.getElem?_cons_zero, Option.some.injEq] at hj; subst hj; exact ⟨v, fq, rfl, rfl, hx⟩
  | succ j => simpa using h.at_ j y (by simpa using hj)
theorem Args.nil : Args V w K [] [] [] := ⟨rfl, rfl, fun j x h => by simp at h⟩

theorem given_of {x : Operand} {t : Nat} (hx : x = .tmp t) (h : hasOwn (s.ev x) = true) : t ∈ (given x (s.ev x)).map (·.1) := by
  subst hx; simp [given, h]

theorem look_given {x : Operand} {l : List (Nat × AV)} (h : ∀ t z, lookup t l = some z → z = share (s.t t)) : ∀ t z, lookup t (given x (s.ev x) ++ l) = some z → z = share (s.t t) := by
  intro t z hl
  cases x with
  | tmp t' =>
    simp only [given] at hl
    split at hl
    · simp only [List.cons_append, List.nil_append, lookup] at hl
      split at hl
      · rename_i e; subst e; cases hl; rfl
      · exact h t z hl
    · exact h t z hl
  | _ => exact h t z hl
theorem not_given {l : List (Nat × AV)} {l' : List Nat} (h : ¬ l.any (fun q => q.1 ∈ l') = true) : ∀ t ∈ l.map (·.1), t ∉ l' := by
  intro t ht hm
  obtain ⟨q, hq, rfl⟩ := List.mem_map.1 ht
  exact h (List.any_eq_true.2 ⟨q, hq, by simpa using hm⟩)

theorem prep_ok (R : RelG N w0 M V0 K V O s a w) (F : Frz V K O s KS Vc) (f : FuncId) : ∀ (xs : List Operand) (i : Nat) (p : Prep), prep H f s i xs = some p → (∀ k ∈ p.tmp ++ p.kl, k ∈ KS) → (∀ q ∈ p.mts, Kc (1000 + q.1) = K q.2) →
    (∀ t z, lookup t p.set = some z → z = share (s.t t)) ∧ p.kl.Nodup ∧ (∀ q ∈ p.mts, q.2 ∉ p.tmp ∧ q.2 ∉ p.kl ∧ i ≤ q.1 ∧ ∃ x, s.b q.2 = some x ∧ cleanL x.cs = true ∧ x.sz = 0 ∧ x.st = true) ∧ (p.mts.map (·.2)).Nodup ∧ (p.mts.map (·.1)).Nodup ∧
    ∃ fps, Args Vc w Kc (xs.map a.eval) p.args fps ∧ fps.flatten.Nodup ∧ ∀ g ∈ fps.flatten, (∃ t, O g = some (true, t) ∧ t ∈ p.set.map (·.1)) ∨ ∃ r ∈ p.kl, O g = some (false, r) := by
  intro xs
  induction xs with
  | nil =>
    intro i p h _ _
    cases h
    exact ⟨by simp [lookup], List.nodup_nil, by simp, List.nodup_nil, List.nodup_nil, [], .nil, by simp, by simp⟩
  | cons x xs ih =>
    intro i p h hks hmt
    simp only [prep] at h
    split at h
    · cases h
    · rename_i p' hp'
      obtain ⟨fp, n1, o1, e1, r1⟩ := R.ev x
      have hvm : ∀ g ∈ fp, Vc g = V g := fun g hg => F.other g fun r hr e => by
        cases x with
        | tmp t => rw [o1 t rfl g hg] at e; cases e
        | _ => rw [e1 (by intro t e; cases e)] at hg; cases hg
      split at h
      · -- a box that is lent
        split at h
        · rename_i b hx
          split at h
          · rename_i bx hb
            simp only [Option.ite_none_right_eq_some, Option.some.injEq] at h
            obtain ⟨⟨hcl, hz, hst, ht, hk, hm⟩, rfl⟩ := h
            obtain ⟨g1, g2, g3, g4, g5, fps, g6, g7, g8⟩ := ih (i + 1) p' hp' hks (fun q hq => hmt q (by simp [hq]))
            refine ⟨g1, g2, ?_, List.nodup_cons.2 ⟨hm, g4⟩, List.nodup_cons.2 ⟨fun hm' => ?_, g5⟩, [] :: fps, ?_, by simpa using g7, by simpa using g8⟩
            · intro q hq
              rcases List.mem_cons.1 hq with rfl | hq
              · exact ⟨ht, hk, Nat.le_refl _, bx, hb, hcl, hz, hst⟩
              · obtain ⟨q1, q2, q3, q4⟩ := g3 q hq; exact ⟨q1, q2, by omega, q4⟩
            · obtain ⟨q, hq, e⟩ := List.mem_map.1 hm'
              have := (g3 q hq).2.2.1; simp at e; omega
            · rw [hx] at r1
              obtain ⟨e, rfl⟩ := inv_ptr r1
              refine g6.cons ?_
              rw [e]
              have hK : Kc (1000 + i) = K b := hmt (i, b) (by simp)
              rw [← hK]
              exact .u (.p (.ptr (1000 + i) 0))
          · cases h
        · cases h
      · split at h
        · -- a tree that is handed over
          split at h
          · rename_i r n hx
            split at h
            · rename_i y ks hf
              simp only [Option.ite_none_left_eq_some, Option.some.injEq, not_or] at h
              obtain ⟨⟨hr1, hr2, hr3⟩, rfl⟩ := h
              obtain ⟨g1, g2, g3, g4, g5, fps, g6, g7, g8⟩ := ih (i + 1) p' hp' (fun k hk => hks k (by simp only [List.mem_append, List.mem_cons] at hk ⊢; rcases hk with hk | hk; exact .inl hk; exact .inr (.inr hk))) hmt
              rw [hx] at r1
              have hone := inv_one r1 (.inr ⟨_, _, rfl⟩)
              have hks1 : ks = [r] := by
                simp only [freezeL] at hf
                split at hf
                · rename_i z ys' ks' hb hf'
                  cases hf'
                  simp only [Option.ite_none_right_eq_some, Option.some.injEq, Prod.mk.injEq] at hf
                  exact hf.2.2.symm
                · cases hf
              subst hks1
              obtain ⟨fq, q1, q2, q3⟩ := freeze_rep R Vc F.le KS F.other F.row [.msl r n] [y] [a.eval x] fp [r] hf hone (fun k hk => hks k (by simp at hk; simp [hk])) n1 (fun g hg r _ e => by
                cases x with
                | tmp t => rw [o1 t rfl g hg] at e; cases e
                | _ => rw [e1 (by intro t e; cases e)] at hg; cases hg) (fun g hg r _ e => by
                cases x with
                | tmp t => rw [o1 t rfl g hg] at e; cases e
                | _ => rw [e1 (by intro t e; cases e)] at hg; cases hg)
              have hfp : fp = [] := by obtain ⟨e, _⟩ := inv_msl r1; exact e
              subst hfp
              refine ⟨g1, List.nodup_cons.2 ⟨hr1, g2⟩, ?_, g4, g5, fq :: fps, g6.cons (.u (.one ((q1.chK (q1.noIds rfl) Kc).up true fun e => by cases e))), ?_, ?_⟩
              · intro q hq
                obtain ⟨z1, z2, z3, z4⟩ := g3 q hq
                exact ⟨z1, by simp only [List.mem_cons, not_or]; exact ⟨fun e => hr3 (by rw [← e]; exact List.mem_map_of_mem hq), z2⟩, by omega, z4⟩
              · rw [List.flatten_cons]
                refine List.nodup_append.2 ⟨q2, g7, fun g hg g' hg' e => ?_⟩
                subst e
                rcases q3 g hg with h | ⟨r', hr', e⟩
                · cases h
                · simp only [List.mem_singleton] at hr'; subst hr'
                  rcases g8 g hg' with ⟨t, e', _⟩ | ⟨r'', hr'', e'⟩
                  · rw [e] at e'; cases e'
                  · rw [e] at e'; cases e'; exact hr1 hr''
              · intro g hg
                rw [List.flatten_cons] at hg
                rcases List.mem_append.1 hg with hg | hg
                · rcases q3 g hg with h | ⟨r', hr', e⟩
                  · cases h
                  · simp only [List.mem_singleton] at hr'; subst hr'; exact .inr ⟨_, by simp, e⟩
                · rcases g8 g hg with h | ⟨r', hr', e⟩
                  · exact .inl h
                  · exact .inr ⟨r', by simp [hr'], e⟩
            · cases h
          · rename_i cs hx
            split at h
            · rename_i ys ks hf
              simp only [Option.ite_none_left_eq_some, Option.some.injEq, not_or] at h
              obtain ⟨⟨hr1, hr2⟩, rfl⟩ := h
              obtain ⟨g1, g2, g3, g4, g5, fps, g6, g7, g8⟩ := ih (i + 1) p' hp' (fun k hk => hks k (by simp only [List.mem_append] at hk ⊢; rcases hk with hk | hk; exact .inl hk; exact .inr (.inr hk))) hmt
              rw [hx] at r1
              obtain ⟨us, hv, hr⟩ := inv_agg r1
              have hno : ∀ k ∈ ks, k ∉ p'.kl ∧ k ∉ p'.tmp ∧ k ∉ p'.mts.map (·.2) := by
                intro k hk
                refine ⟨fun h => hr1 ?_, fun h => hr1 ?_, fun h => hr1 ?_⟩ <;> rw [List.any_eq_true] <;> refine ⟨k, hk, ?_⟩ <;> simp only [decide_eq_true_eq]
                · exact .inl h
                · exact .inr (.inl h)
                · exact .inr (.inr h)
              obtain ⟨fq, q1, q2, q3⟩ := freeze_rep R Vc F.le KS F.other F.row cs ys us fp ks hf hr (fun k hk => hks k (by simp [hk])) n1 (fun g hg r _ e => by
                cases x with
                | tmp t => rw [o1 t rfl g hg] at e; cases e
                | _ => rw [e1 (by intro t e; cases e)] at hg; cases hg) (fun g hg r _ e => by
                cases x with
                | tmp t => rw [o1 t rfl g hg] at e; cases e
                | _ => rw [e1 (by intro t e; cases e)] at hg; cases hg)
              have hgv : ∀ g ∈ fp, ∃ t, O g = some (true, t) ∧ t ∈ (given x (.agg cs)).map (·.1) := by
                intro g hg
                by_cases ho : hasOwn (s.ev x) = true
                · cases x with
                  | tmp t => exact ⟨t, o1 t rfl g hg, by rw [← hx]; exact given_of rfl ho⟩
                  | _ => rw [e1 (by intro t e; cases e)] at hg; cases hg
                · rw [hx] at ho
                  rw [ownless_v r1 (by simpa using ho)] at hg; cases hg
              refine ⟨?_, List.nodup_append.2 ⟨freezeL_nodup hf, g2, fun k hk k' hk' e => (hno k hk).1 (by rw [e]; exact hk')⟩, ?_, g4, g5, fq :: fps, g6.cons (by rw [hv]; exact .u (.agg ((q1.chK (q1.noIds rfl) Kc).up true fun e => by cases e))), ?_, ?_⟩
              · rw [← hx]; exact look_given g1
              · intro q hq
                obtain ⟨z1, z2, z3, z4⟩ := g3 q hq
                exact ⟨z1, by simp only [List.mem_append, not_or]; exact ⟨fun e => (hno _ e).2.2 (List.mem_map_of_mem hq), z2⟩, by omega, z4⟩
              · rw [List.flatten_cons]
                refine List.nodup_append.2 ⟨q2, g7, fun g hg g' hg' e => ?_⟩
                subst e
                rcases q3 g hg with h | ⟨r', hr', e⟩
                · obtain ⟨t, e, ht⟩ := hgv g h
                  rcases g8 g hg' with ⟨t', e', ht'⟩ | ⟨r'', hr'', e'⟩
                  · rw [e] at e'; cases e'
                    exact not_given hr2 t ht ht'
                  · rw [e] at e'; cases e'
                · rcases g8 g hg' with ⟨t, e', _⟩ | ⟨r'', hr'', e'⟩
                  · rw [e] at e'; cases e'
                  · rw [e] at e'; cases e'; exact (hno _ hr').1 hr''
              · intro g hg
                rw [List.flatten_cons] at hg
                rcases List.mem_append.1 hg with hg | hg
                · rcases q3 g hg with h | ⟨r', hr', e⟩
                  · obtain ⟨t, e, ht⟩ := hgv g h
                    exact .inl ⟨t, e, by simp only [List.map_append, List.mem_append]; exact .inl ht⟩
                  · exact .inr ⟨r', by simp [hr'], e⟩
                · rcases g8 g hg with ⟨t, e, ht⟩ | ⟨r', hr', e⟩
                  · exact .inl ⟨t, e, by simp only [List.map_append, List.mem_append]; exact .inr ht⟩
                  · exact .inr ⟨r', by simp [hr'], e⟩
            · cases h
          · rename_i o z n cs hx
            simp only [Option.ite_none_left_eq_some, Option.some.injEq] at h
            obtain ⟨hr2, rfl⟩ := h
            obtain ⟨g1, g2, g3, g4, g5, fps, g6, g7, g8⟩ := ih (i + 1) p' hp' hks hmt
            rw [hx] at r1
            have hr := inv_one r1 (.inl ⟨_, _, _, _, rfl⟩)
            have hgv : ∀ g ∈ fp, ∃ t, O g = some (true, t) ∧ t ∈ (given x (.sl o z n cs)).map (·.1) := by
              intro g hg
              by_cases ho : hasOwn (s.ev x) = true
              · cases x with
                | tmp t => exact ⟨t, o1 t rfl g hg, by rw [← hx]; exact given_of rfl ho⟩
                | _ => rw [e1 (by intro t e; cases e)] at hg; cases hg
              · rw [hx] at ho
                rw [ownless_v r1 (by simpa using ho)] at hg; cases hg
            refine ⟨by rw [← hx]; exact look_given g1, g2, fun q hq => ?_, g4, g5, fp :: fps, g6.cons (.u (.one ((hr.vmono F.le hvm).chK rfl Kc))), ?_, ?_⟩
            · obtain ⟨z1, z2, z3, z4⟩ := g3 q hq
              exact ⟨z1, z2, by omega, z4⟩
            · rw [List.flatten_cons]
              refine List.nodup_append.2 ⟨n1, g7, fun g hg g' hg' e => ?_⟩
              subst e
              obtain ⟨t, e, ht⟩ := hgv g hg
              rcases g8 g hg' with ⟨t', e', ht'⟩ | ⟨r'', hr'', e'⟩
              · rw [e] at e'; cases e'
                exact not_given hr2 t ht ht'
              · rw [e] at e'; cases e'
            · intro g hg
              rw [List.flatten_cons] at hg
              rcases List.mem_append.1 hg with hg | hg
              · obtain ⟨t, e, ht⟩ := hgv g hg
                exact .inl ⟨t, e, by simp only [List.map_append, List.mem_append]; exact .inl ht⟩
              · rcases g8 g hg with ⟨t, e, ht⟩ | ⟨r', hr', e⟩
                · exact .inl ⟨t, e, by simp only [List.map_append, List.mem_append]; exact .inr ht⟩
                · exact .inr ⟨r', hr', e⟩
          · rename_i hx
            simp only [Option.some.injEq] at h
            subst h
            obtain ⟨g1, g2, g3, g4, g5, fps, g6, g7, g8⟩ := ih (i + 1) p' hp' hks hmt
            rw [hx] at r1
            obtain ⟨e, rfl⟩ := inv_nil r1
            exact ⟨g1, g2, fun q hq => (by obtain ⟨z1, z2, z3, z4⟩ := g3 q hq; exact ⟨z1, z2, by omega, z4⟩), g4, g5, [] :: fps, g6.cons (by rw [e]; exact .u (.one (.nl .nil))), by simpa using g7, by simpa using g8⟩
          · rename_i u hx
            simp only [Option.some.injEq] at h
            subst h
            obtain ⟨g1, g2, g3, g4, g5, fps, g6, g7, g8⟩ := ih (i + 1) p' hp' hks hmt
            rw [hx] at r1
            obtain ⟨e, rfl, hp⟩ := inv_lit r1
            exact ⟨g1, g2, fun q hq => (by obtain ⟨z1, z2, z3, z4⟩ := g3 q hq; exact ⟨z1, z2, by omega, z4⟩), g4, g5, [] :: fps, g6.cons (by rw [e]; exact .lit hp), by simpa using g7, by simpa using g8⟩
          · cases h
        · -- a look
          split at h
          · rename_i y hy
            simp only [Option.ite_none_left_eq_some, Option.some.injEq] at h
            obtain ⟨hno, rfl⟩ := h
            obtain ⟨g1, g2, g3, g4, g5, fps, g6, g7, g8⟩ := ih (i + 1) p' hp' (fun k hk => hks k (by simp only [List.mem_append] at hk ⊢; rcases hk with hk | hk; exact .inl (.inr hk); exact .inr hk)) hmt
            refine ⟨g1, g2, ?_, g4, g5, [] :: fps, g6.cons (ro_rep (Kc := Kc) R F r1 hvm hy (fun k hk => hks k (by simp only [List.mem_append]; exact .inl (.inl hk)))), by simpa using g7, by simpa using g8⟩
            intro q hq
            obtain ⟨z1, z2, z3, z4⟩ := g3 q hq
            refine ⟨?_, z2, by omega, z4⟩
            simp only [List.mem_append, not_or]
            refine ⟨fun hl => hno ?_, z1⟩
            rw [List.any_eq_true]
            exact ⟨q.2, hl, by simp only [decide_eq_true_eq]; exact .inr (List.mem_map_of_mem hq)⟩
          · cases h

end Evl
