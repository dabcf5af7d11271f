/- A call among a region's operations. No condition. -/
import Derived.Test.YtpjeibdllddkjaaEwb
namespace Evl
open Go

variable {P : Program} {H : Hints} {fid : FuncId} {N : Nat} {w0 w w' : World} {M : Nat → Prop} {V0 V V' V1 Vc : Nat → Nat} {K K' K2 Kc : Nat → Nat × Nat} {O O' O1 Oc : Nat → Option Loc} {s u : S} {a : Act} {fp : List Nat} {v : Value}

/-- Which argument has the block as its own. -/
def idxIn : List (List Nat) → Nat → Option Nat
  | [], _ => none
  | fq :: rest, g => if g ∈ fq then some 0 else (idxIn rest g).map (· + 1)
theorem idxIn_some : ∀ {fps : List (List Nat)} {g i : Nat}, idxIn fps g = some i → ∃ fq, fps[i]? = some fq ∧ g ∈ fq := by
  intro fps
  induction fps with
  | nil => intro g i h; cases h
  | cons fq fps ih =>
    intro g i h
    simp only [idxIn] at h
    split at h
    · rename_i hg; cases h; exact ⟨fq, rfl, hg⟩
    · obtain ⟨j, hj, rfl⟩ := Option.map_eq_some_iff.1 h
      obtain ⟨q, h1, h2⟩ := ih hj
      exact ⟨q, by simpa using h1, h2⟩
theorem idxIn_of : ∀ {fps : List (List Nat)} {g i : Nat} {fq : List Nat}, fps.flatten.Nodup → fps[i]? = some fq → g ∈ fq → idxIn fps g = some i := by
  intro fps
  induction fps with
  | nil => intro g i fq _ h _; simp at h
  | cons f fps ih =>
    intro g i fq hn h hg
    rw [List.flatten_cons, List.nodup_append] at hn
    cases i with
    | zero =>
      simp only [List.getElem?_cons_zero, Option.some.injEq] at h; subst h
      simp [idxIn, hg]
    | succ i =>
      simp only [List.getElem?_cons_succ] at h
      have hm : g ∈ fps.flatten := List.mem_flatten.2 ⟨fq, List.mem_of_getElem? h, hg⟩
      have : g ∉ f := fun h => hn.2.2 g h g hm rfl
      simp [idxIn, this, ih hn.2.1 h hg]
theorem idxIn_none {fps : List (List Nat)} {g : Nat} (h : g ∉ fps.flatten) : idxIn fps g = none := by
  cases hi : idxIn fps g with
  | none => rfl
  | some i =>
    obtain ⟨fq, h1, h2⟩ := idxIn_some hi
    exact absurd (List.mem_flatten.2 ⟨fq, List.mem_of_getElem? h1, h2⟩) h
theorem nodup_at {fps : List (List Nat)} {i : Nat} {fq : List Nat} (hn : fps.flatten.Nodup) (h : fps[i]? = some fq) : fq.Nodup := by
  induction fps generalizing i with
  | nil => simp at h
  | cons f fps ih =>
    rw [List.flatten_cons, List.nodup_append] at hn
    cases i with
    | zero => simp only [List.getElem?_cons_zero, Option.some.injEq] at h; subst h; exact hn.1
    | succ i => exact ih hn.2.1 (by simpa using h)

/-- The parameter that a box is lent to. -/
def kb : List (Nat × Nat) → Nat → Option Nat
  | [], _ => none
  | (i, b) :: l, r => if b = r then some i else kb l r
theorem kb_of {l : List (Nat × Nat)} (hn : (l.map (·.2)).Nodup) {i b : Nat} (h : (i, b) ∈ l) : kb l b = some i := by
  induction l with
  | nil => cases h
  | cons q l ih =>
    obtain ⟨j, c⟩ := q
    simp only [List.map_cons, List.nodup_cons] at hn
    simp only [kb]
    rcases List.mem_cons.1 h with e | h'
    · cases e; simp
    · rw [if_neg ?_]; exact ih hn.2 h'
      intro e
      exact hn.1 (List.mem_map.2 ⟨(i, b), h', e.symm⟩)
theorem kb_some {l : List (Nat × Nat)} {i b : Nat} (h : kb l b = some i) : (i, b) ∈ l := by
  induction l with
  | nil => cases h
  | cons q l ih =>
    obtain ⟨j, c⟩ := q
    simp only [kb] at h
    split at h
    · rename_i e; subst e; cases h; simp
    · exact List.mem_cons_of_mem _ (ih h)

theorem bxOf_some {l : List (Nat × Nat)} {k : Nat} {x : Box} (h : bxOf s l k = some x) : ∃ i b, (i, b) ∈ l ∧ k = 1000 + i ∧ s.b b = some x := by
  induction l with
  | nil => cases h
  | cons q l ih =>
    obtain ⟨j, c⟩ := q
    simp only [bxOf] at h
    split at h
    · rename_i e; exact ⟨j, c, by simp, e, h⟩
    · obtain ⟨i, b, h1, h2, h3⟩ := ih h; exact ⟨i, b, List.mem_cons_of_mem _ h1, h2, h3⟩

theorem backs_lookup {bx' : Nat → Option Box} : ∀ {l : List (Nat × Nat)} {pb : List (Nat × Box)}, backs bx' l = some pb → (∀ b x, lookup b pb = some x → (b, x) ∈ pb ∧ ∃ i, (i, b) ∈ l ∧ bx' (1000 + i) = some x) ∧ (∀ q ∈ l, lookup q.2 pb ≠ none) ∧ pb.map (·.1) = l.map (·.2) := by
  intro l
  induction l with
  | nil => intro pb h; cases h; exact ⟨by simp [lookup], by simp, rfl⟩
  | cons q l ih =>
    obtain ⟨i, b⟩ := q
    intro pb h
    simp only [backs] at h
    split at h
    · rename_i x r hx hr
      cases h
      obtain ⟨h1, h2, h3⟩ := ih hr
      refine ⟨fun b' x' hl => ?_, fun q hq => ?_, by simp [h3]⟩
      · simp only [lookup] at hl
        split at hl
        · rename_i e; subst e; cases hl; exact ⟨by simp, i, by simp, hx⟩
        · obtain ⟨g1, i', g2, g3⟩ := h1 b' x' hl
          exact ⟨List.mem_cons_of_mem _ g1, i', List.mem_cons_of_mem _ g2, g3⟩
      · simp only [lookup]
        split
        · simp
        · rename_i hne
          rcases List.mem_cons.1 hq with rfl | hq
          · exact absurd rfl hne
          · exact h2 q hq
    · cases h

theorem prep_mts {f : FuncId} : ∀ {xs : List Operand} {i : Nat} {p : Prep}, prep H f s i xs = some p → (∀ q ∈ p.mts, i ≤ q.1) ∧ (p.mts.map (·.1)).Nodup := by
  intro xs
  induction xs with
  | nil => intro i p h; cases h; exact ⟨by simp, List.nodup_nil⟩
  | cons x xs ih =>
    intro i p h
    simp only [prep] at h
    split at h
    · cases h
    · rename_i p' hp'
      obtain ⟨h1, h2⟩ := ih hp'
      have key : p.mts = p'.mts → (∀ q ∈ p.mts, i ≤ q.1) ∧ (p.mts.map (·.1)).Nodup := fun e => by
        rw [e]; exact ⟨fun q hq => by have := h1 q hq; omega, h2⟩
      split at h
      · split at h
        · split at h
          · simp only [Option.ite_none_right_eq_some, Option.some.injEq] at h
            obtain ⟨_, rfl⟩ := h
            refine ⟨fun q hq => ?_, ?_⟩
            · rcases List.mem_cons.1 hq with rfl | hq
              · exact Nat.le_refl _
              · have := h1 q hq; omega
            · simp only [List.map_cons, List.nodup_cons]
              refine ⟨fun hm => ?_, h2⟩
              obtain ⟨q, hq, e⟩ := List.mem_map.1 hm
              have := h1 q hq; omega
          · cases h
        · cases h
      · split at h
        · split at h
          · split at h
            · simp only [Option.ite_none_left_eq_some, Option.some.injEq] at h
              obtain ⟨_, rfl⟩ := h; exact key rfl
            · cases h
          · split at h
            · simp only [Option.ite_none_left_eq_some, Option.some.injEq] at h
              obtain ⟨_, rfl⟩ := h; exact key rfl
            · cases h
          · simp only [Option.ite_none_left_eq_some, Option.some.injEq] at h
            obtain ⟨_, rfl⟩ := h; exact key rfl
          · cases h; exact key rfl
          · cases h; exact key rfl
          · cases h
        · split at h
          · simp only [Option.ite_none_left_eq_some, Option.some.injEq] at h
            obtain ⟨_, rfl⟩ := h; exact key rfl
          · cases h

theorem RepPs.at_ {us : List Value} {xs : List AV} (h : RepPs V w K us xs) : us.length = xs.length ∧ ∀ (i : Nat) (x : AV), xs[i]? = some x → ∃ v, us[i]? = some v ∧ RepP V w K v x := by
  induction h with
  | nil => exact ⟨rfl, by simp⟩
  | cons a _ ih =>
    refine ⟨by simp [ih.1], fun i x hx => ?_⟩
    cases i with
    | zero => simp only [List.getElem?_cons_zero, Option.some.injEq] at hx; subst hx; exact ⟨_, rfl, a⟩
    | succ i => simpa using ih.2 i x (by simpa using hx)

theorem calleeOf_run (R : RelG N w0 M V0 K V O s a w) {o : Oper} {f : FuncId} {xs : List Operand} {caps : List AV} (h : calleeOf o s = some (f, xs, caps)) {fn : Func} {c : Code} (hf : P.funcs[f]? = some fn) (hb : fn.body = some c) (hn : (fn.name == "runtime.NumGoroutine") = false) :
    ∃ cvs : List Value, RepPs V w K cvs caps ∧ (execOp a.eval o).run P w = .ok (.enter f (xs.map a.eval ++ cvs).toArray) w := by
  unfold calleeOf at h
  split at h
  · rename_i x args ats hop
    obtain ⟨fp, _, _, _, h1⟩ := R.ev x
    have hrun : ∀ (fs cs : Array Value), a.eval x = .func (.func f) fs cs → fs = #[] → (execOp a.eval o).run P w = .ok (.enter f (args.toList.map a.eval ++ cs.toList).toArray) w := by
      intro fs cs e efs
      subst efs
      have e2 : (args.toList.map a.eval ++ cs.toList).toArray = args.map a.eval ++ cs := by apply Array.ext'; simp
      rw [e2]
      have hn' : fn.name ≠ "runtime.NumGoroutine" := by simpa using hn
      simp [execOp, hop, resolve, e, Deferred.ofValue, invoke, callFunc, hf, hn', hb]
    split at h
    · rename_i g fs cs hx
      cases h
      rw [hx] at h1
      obtain ⟨e1, -, hp⟩ := inv_lit h1
      simp only [plain, Bool.and_eq_true, Array.isEmpty_iff] at hp
      obtain ⟨rfl, rfl⟩ := hp
      exact ⟨[], .nil, by simpa using hrun _ _ e1 rfl⟩
    · rename_i g cs hx
      cases h
      rw [hx] at h1
      obtain ⟨vs, e1, -, hr⟩ := inv_fnv h1
      exact ⟨vs, hr, by simpa using hrun _ _ e1 rfl⟩
    · cases h
  · cases h

theorem call_step (R : RelG N w0 M V0 K V O s a w) (o : Oper) (hd : ∀ d, o.dst = some d → d < N) {f : FuncId} {xs : List Operand} {caps caps' : List AV} {p : Prep} {r : AV} {bx' : Nat → Option Box} {e : Eff} {fn : Func} {c : Code}
    (hcal : calleeOf o s = some (f, xs, caps)) (hroc : roCaps s.b caps = some caps') (hp : prep H f s 0 xs = some p) (hcm : caps = [] ∨ p.mts = []) (hC : CallOk P f (p.args ++ caps') (bxOf s p.mts) r bx')
    (he : callE o.dst { p with tmp := leans s.b (.fnv f caps) ++ p.tmp } r bx' = some e) (hk : e.kl.all (· < 1000) = true) (hf : P.funcs[f]? = some fn) (hbody : fn.body = some c) (hname : (fn.name == "runtime.NumGoroutine") = false)
    (Q : Exit → Act → World → Prop) (C : Act → World → Prop) (hC' : ∀ a' w' K' V' O', RelG N w0 M V0 K' V' O' (e.apply o.dst s) a' w' → (∀ b, 1000 ≤ b → K' b = K b) → C a' w') : o.wp P a w C Q := by
  obtain ⟨cvs, hcv, hrun⟩ := calleeOf_run R hcal hf hbody hname
  obtain ⟨hm1, hm2⟩ := prep_mts hp
  let tmp := leans s.b (.fnv f caps) ++ p.tmp
  let KS := tmp ++ p.kl
  let Vc := vfz V K O s KS
  let Kc : Nat → Nat × Nat := fun k => match bk p.mts k with | some b => K b | none => (0, 0)
  have F : Frz V K O s KS Vc := frz R KS
  have hKc : ∀ q ∈ p.mts, Kc (1000 + q.1) = K q.2 := fun q hq => by
    obtain ⟨i, b⟩ := q
    simp only [Kc, bk_of hm2 hq]
  obtain ⟨g1, g2, g3, g4, g5, fps, g6, g7, g8⟩ := prep_ok (Kc := Kc) R F f xs 0 p hp (fun k hk => by simp only [KS, tmp, List.mem_append] at hk ⊢; rcases hk with hk | hk; exact .inl (.inr hk); exact .inr hk) hKc
  have hcaps : RepPs Vc w Kc cvs caps' := roCaps_rep (Kc := Kc) R F hcv hroc (fun k hk => by simp only [KS, tmp, leans, ids, List.mem_append]; exact .inl (.inl (.inl hk))) (fun k hk => by simp only [KS, tmp, leans, List.mem_append]; exact .inl (.inl (.inr hk)))
  obtain ⟨hcl, hcat⟩ := hcaps.at_
  let Oc : Nat → Option Loc := fun g => match idxIn fps g with
    | some i => some (true, i)
    | none => match O g with
      | some (false, b) => (match kb p.mts b with | some i => some (false, 1000 + i) | none => none)
      | _ => none
  have hmtK : ∀ q ∈ p.mts, q.2 ∉ KS := fun q hq => by
    obtain ⟨z1, z2, _, _⟩ := g3 q hq
    have hc : caps = [] := by
      rcases hcm with h | h
      · exact h
      · rw [h] at hq; cases hq
    simp only [KS, tmp, hc, leans, ids, idsL, List.flatMap_nil, List.nil_append, List.mem_append, not_or]
    exact ⟨z1, z2⟩
  have hOc : ∀ g, Oc g ≠ none → un O p.set p.kl p.mts g = false ∧ O g ≠ none := by
    intro g hg
    simp only [Oc] at hg
    cases hi : idxIn fps g with
    | some i =>
      obtain ⟨fq, h1, h2⟩ := idxIn_some hi
      rcases g8 g (List.mem_flatten.2 ⟨fq, List.mem_of_getElem? h1, h2⟩) with ⟨t, e, ht⟩ | ⟨r, hr, e⟩
      · refine ⟨?_, by rw [e]; simp⟩
        unfold un; rw [e]; simpa using ht
      · refine ⟨?_, by rw [e]; simp⟩
        unfold un; rw [e]; simp [hr]
    | none =>
      rw [hi] at hg
      simp only at hg
      split at hg
      · rename_i b hb
        split at hg
        · rename_i i hkb
          refine ⟨?_, by rw [hb]; simp⟩
          have : b ∈ p.mts.map (·.2) := List.mem_map.2 ⟨_, kb_some hkb, rfl⟩
          unfold un; rw [hb]; simp only [Bool.and_eq_false_iff, Bool.not_eq_false', List.contains_eq_mem, decide_eq_true_eq]
          exact .inr this
        · exact absurd rfl hg
      · exact absurd rfl hg
  have E : Entry w Vc Kc Oc (xs.map a.eval ++ cvs) (p.args ++ caps') (bxOf s p.mts) := by
    refine ⟨by rw [List.length_append, List.length_append, g6.l1, hcl], fun i x hx => ?_, fun b x hb => ?_, fun g l hg => ?_, vfz_vr R KS⟩
    · by_cases hi : i < p.args.length
      · rw [List.getElem?_append_left hi] at hx
        obtain ⟨v, fq, h1, h2, h3⟩ := g6.at_ i x hx
        refine ⟨v, fq, by rw [List.getElem?_append_left (by rw [g6.l1]; exact hi)]; exact h1, nodup_at g7 h2, fun g hg => ?_, h3⟩
        simp only [Oc, idxIn_of g7 h2 hg]
      · rw [List.getElem?_append_right (by omega)] at hx
        obtain ⟨v, h1, h2⟩ := hcat _ x hx
        exact ⟨v, [], by rw [List.getElem?_append_right (by rw [g6.l1]; omega), g6.l1]; exact h1, List.nodup_nil, by simp, .u (.p h2)⟩
    · obtain ⟨i, b0, hm, rfl, hb0⟩ := bxOf_some hb
      obtain ⟨z1, z2, _, x', hx', hcl', hz, hst⟩ := g3 _ hm
      rw [hb0] at hx'; cases hx'
      obtain ⟨fb, arr, T, fz, us, q1, q2, q3⟩ := R.bxr b0 x hb0 (.inl hz)
      have hK : Kc (1000 + i) = K b0 := hKc _ hm
      have hV : ∀ g ∈ (K b0).1 :: fb, Vc g = V g := fun g hg => F.other g fun r hr e => by
        rw [q2 g hg] at e; cases e; exact absurd hr (hmtK _ hm)
      refine ⟨by omega, fb, arr, T, fz, us, by rw [hK]; exact q1, fun g hg => ?_, ?_⟩
      · rw [hK] at hg
        have hni : idxIn fps g = none := idxIn_none fun hgf => by
          rcases g8 g hgf with ⟨t, e, _⟩ | ⟨r, hr, e⟩ <;> rw [q2 g hg] at e <;> cases e
          exact z2 hr
        simp only [Oc, hni, q2 g hg, kb_of g4 hm]
      · have hdown : Rep V w K false fb us x.cs := q3.rep.down (fun c hc b n e => by
          have := List.all_eq_true.1 hcl' c hc
          rw [e] at this; cases this)
        refine ⟨by rw [hK]; exact q3.hp, q3.th, q3.pre, ?_, by rw [hK, hV _ List.mem_cons_self]; exact q3.vis, q3.var, fun h => absurd hz h⟩
        exact ((hdown.vmono F.le fun g hg => hV g (by simp [hg])).chK (hdown.noIds rfl) Kc).up _ (fun e => by cases e)
    · have := (hOc g (by rw [hg]; simp)).2
      cases hO : O g with
      | none => exact absurd hO this
      | some l' => exact (R.rg g l' hO).2
  have hcall := hC w Vc Kc Oc _ E
  unfold Oper.wp
  rw [hrun]
  simp only [Oper.upon]
  refine Calls.mono hcall fun en w' hen => ?_
  obtain ⟨v, rfl, V1, O1, fp, b1, b2, b3, b4, b5, b6, hq, b7, b8⟩ := hen
  have B : Back w Vc Kc Oc bx' w' V1 O1 fp := ⟨b1, b2, b3, b4, b5, b6, b7, b8⟩
  show C (a.put o.dst v) w'
  unfold callE at he
  split at he
  · cases he
  · rename_i pb hpb
    simp only [Option.ite_none_left_eq_some, not_or, not_and, Bool.not_eq_false] at he
    obtain ⟨⟨hsh, hclean⟩, he⟩ := he
    obtain ⟨k1, k2, k3⟩ := backs_lookup hpb
    have hshc : tmp = [] ∨ (hasSh r = false ∧ ∀ q ∈ pb, hasShL q.2.cs = false) := by
      by_cases ht : tmp = []
      · exact .inl ht
      · have := hsh ht
        simp only [Bool.not_eq_true, Bool.or_eq_false_iff, List.any_eq_false] at this
        exact .inr ⟨this.1, fun q hq => by simpa using this.2 q hq⟩
    have hboxes : ∀ (K2 : Nat → Nat × Nat), (∀ b, b ∈ p.mts.map (·.2) → K2 b = K b) → ∀ b x, lookup b pb = some x → ∃ i, (i, b) ∈ p.mts ∧ bx' (1000 + i) = some x ∧ K2 b = Kc (1000 + i) ∧ cleanL x.cs = true ∧ (tmp = [] ∨ hasShL x.cs = false) := by
      intro K2 hK2 b x hl
      obtain ⟨g1, i, g2, g3⟩ := k1 b x hl
      refine ⟨i, g2, g3, ?_, ?_, ?_⟩
      · rw [hKc _ g2]; exact hK2 b (List.mem_map.2 ⟨_, g2, rfl⟩)
      · have := List.all_eq_true.1 hclean _ g1; exact this
      · rcases hshc with h | h
        · exact .inl h
        · exact .inr (h.2 _ g1)
    have hlow : ∀ {m : Bool} {us : List Value} {cs : List AV} {fq : List Nat} {K' : Nat → Nat × Nat}, Rep V1 w' K' m fq us cs → (∀ g ∈ fq, g ∈ fp) → (tmp = [] ∨ hasShL cs = false) → Rep (v2 O p.set p.kl p.mts V V1) w' K' m fq us cs := fun h ho hs =>
      v2_back R F hOc B h (fun g hg => by rw [b6 g (ho g hg)]; simp) hs
    -- what comes back as it is
    have plainly : ∀ e' : Eff, e' = { val := r, set := p.set, kl := p.kl, put := pb, rd := tmp ++ p.kl ++ p.mts.map (·.2) } → (∀ d, o.dst = some d → isNbx r = false) → ∃ O2, RelG N w0 M V0 K (v2 O p.set p.kl p.mts V V1) O2 (e'.apply o.dst s) (a.put o.dst v) w' := by
      intro e' he' hnb
      subst he'
      refine call_apply R F g1 hm2 hOc B _ o.dst hd (o.dst.map fun d => (true, d)) (fun _ _ => rfl) rfl (fun _ h => h) (fun q hq => k2 q hq) (fun b x hl => .inr (.inl (hboxes K (fun _ _ => rfl) b x hl))) (fun d hdd => ⟨fp, .inr ⟨rfl, by rw [hdd]; rfl⟩, ?_⟩)
      have hs : tmp = [] ∨ hasSh r = false := by
        rcases hshc with h | h
        · exact .inl h
        · exact .inr h.1
      cases hq with
      | one _ _ _ hr =>
        cases hr with
        | v K' _ _ _ hu hi =>
          refine .u ?_
          rcases hs with h | h
          · rw [v2_all R F hOc B h]; exact hu.chK hi K
          · exact (hu.lower h fun g hg => v2_own R hOc B (by rw [b6 g hg]; simp)).chK hi K
        | nbx => have := hnb d hdd; simp [isNbx] at this
      | tup K' _ us rs ht hi =>
        refine .tup ?_
        rcases hs with h | h
        · rw [v2_all R F hOc B h]; exact ht.chK K hi
        · exact (ht.lower (fun g hg => v2_own R hOc B (by rw [b6 g hg]; simp)) (by simpa [hasSh] using h)).chK K hi
    split at he
    · -- a tree comes back: a local row
      rename_i sz n cs d hdst
      simp only [Option.ite_none_right_eq_some, Option.some.injEq] at he
      obtain ⟨⟨hsz, hdp⟩, rfl⟩ := he
      simp only [List.all_cons, Bool.and_eq_true, decide_eq_true_eq] at hk
      have hone : Rep V1 w' (fun _ => (0, 0)) true fp [v] [.sl true sz n cs] := by
        cases hq with
        | one _ _ _ hr =>
          cases hr with
          | v K' _ _ _ hu hi => exact (inv_one (.u hu) (.inl ⟨_, _, _, _, rfl⟩)).chK (by simpa [idsL] using hi) _
      obtain ⟨rfl, rfl, rfl, rfl⟩ | ⟨g, cap, T, arr, fz, us, fq, rfl, rfl, q1, q2, q3, q4, q5, q6, q7, q8, q9⟩ := rep_own hone
      · let K2 : Nat → Nat × Nat := fun b => if b = d then (0, 0) else K b
        have hKd : (K2 d).2 = 0 := by simp [K2]
        have hd' : ∀ b ∈ p.mts.map (·.2), K2 b = K b := fun b hb => by
          have : b ≠ d := fun e => hdp (by rw [k3, ← e]; exact hb)
          simp [K2, this]
        obtain ⟨O2, hR⟩ := call_apply (K2 := K2) (v := .slice none 0 0) R F g1 hm2 hOc B { val := .msl d 0, set := p.set, kl := d :: p.kl, put := (d, ⟨false, sz, []⟩) :: pb, rd := tmp ++ p.kl ++ p.mts.map (·.2) } o.dst hd none (fun b hb => by simp at hb; simp [K2, hb.1]) rfl (fun _ h => List.mem_cons_of_mem _ h) (fun q hq => by
            simp only [lookup]; split
            · simp
            · exact k2 q hq) (fun b x hl => by
            simp only [lookup] at hl
            split at hl
            · rename_i e; subst e; cases hl
              exact .inr (.inr ⟨hsz, rfl, hKd⟩)
            · exact .inr (.inl (hboxes K2 hd' b x hl))) (fun d' hdd => ⟨[], .inl rfl, .u (.one (.mv d hKd .nil))⟩)
        exact hC' _ _ _ _ _ hR fun b hb => by show (if b = d then _ else K b) = K b; rw [if_neg (by omega)]
      let K2 : Nat → Nat × Nat := fun b => if b = d then (g, cap + 1) else K b
      have hKd : K2 d = (g, cap + 1) := by simp [K2]
      have hd' : ∀ b ∈ p.mts.map (·.2), K2 b = K b := fun b hb => by
        have : b ≠ d := fun e => hdp (by rw [k3, ← e]; exact hb)
        simp [K2, this]
      have hsr : tmp = [] ∨ hasShL cs = false := by
        rcases hshc with h | h
        · exact .inl h
        · exact .inr (by simpa [hasSh] using h.1)
      have h9 := hlow q9 (fun g hg => by simp [hg]) hsr
      have h9' := h9.chK (h9.noIds rfl) K2
      obtain ⟨O2, hR⟩ := call_apply (K2 := K2) (v := .slice (some ⟨g, 0, none⟩) n cap) R F g1 hm2 hOc B { val := .msl d n, set := p.set, kl := d :: p.kl, put := (d, ⟨false, sz, cs⟩) :: pb, rd := tmp ++ p.kl ++ p.mts.map (·.2) } o.dst hd (some (false, d)) (fun b hb => by simp at hb; simp [K2, hb.1]) rfl (fun _ h => List.mem_cons_of_mem _ h) (fun q hq => by
          simp only [lookup]; split
          · simp
          · exact k2 q hq) (fun b x hl => by
          simp only [lookup] at hl
          split at hl
          · rename_i e; subst e; cases hl
            exact .inl ⟨rfl, fq, arr, T, fz, us, by rw [hKd], row_ok hKd q1 q2 q3 q4 q5 q6 q7 (by rw [v2_own R hOc B (by rw [b6 g (by simp)]; simp)]; exact q8) h9'⟩
          · exact .inr (.inl (hboxes K2 hd' b x hl))) (fun d' hdd => ⟨[], .inl rfl, by
          have := Rep.ms (V := v2 O p.set p.kl p.mts V V1) (w := w') (K := K2) (fp := []) (us := []) (cs := []) (n := n) (cap := cap) d (by rw [hKd]) q1 .nil
          rw [hKd] at this
          exact .u (.one this)⟩)
      exact hC' _ _ _ _ _ hR fun b hb => by show (if b = d then _ else K b) = K b; rw [if_neg (by omega)]
    · -- a box comes back
      rename_i cs d hdst
      simp only [Option.ite_none_right_eq_some, Option.some.injEq] at he
      obtain ⟨hdp, rfl⟩ := he
      simp only [List.all_cons, Bool.and_eq_true, decide_eq_true_eq] at hk
      cases hq with
      | one _ _ _ hr =>
        cases hr with
        | v K' _ _ _ hu hi => cases hu with
          | one h => cases h
          | p h => cases h
        | nbx K' g T arr fz us fq _ q1 q2 q3 q4 q5 q6 =>
          let K2 : Nat → Nat × Nat := fun b => if b = d then (g, 0) else K b
          have hKd : K2 d = (g, 0) := by simp [K2]
          have hd' : ∀ b ∈ p.mts.map (·.2), K2 b = K b := fun b hb => by
            have : b ≠ d := fun e => hdp (by rw [k3, ← e]; exact hb)
            simp [K2, this]
          have hsr : tmp = [] ∨ hasShL cs = false := by
            rcases hshc with h | h
            · exact .inl h
            · exact .inr (by simpa [hasSh] using h.1)
          have h9 := hlow q6 (fun g hg => by simp [hg]) hsr
          have h9' := h9.chK (h9.noIds rfl) K2
          obtain ⟨O2, hR⟩ := call_apply (K2 := K2) (v := .pointer (some ⟨g, 0, none⟩)) R F g1 hm2 hOc B { val := .ptr d 0, set := p.set, kl := d :: p.kl, put := (d, ⟨true, 0, cs⟩) :: pb, rd := tmp ++ p.kl ++ p.mts.map (·.2) } o.dst hd (some (false, d)) (fun b hb => by simp at hb; simp [K2, hb.1]) rfl (fun _ h => List.mem_cons_of_mem _ h) (fun q hq => by
              simp only [lookup]; split
              · simp
              · exact k2 q hq) (fun b x hl => by
              simp only [lookup] at hl
              split at hl
              · rename_i e; subst e; cases hl
                refine .inl ⟨rfl, fq, arr, T, fz, us, by rw [hKd], ⟨by rw [hKd]; exact q1, q2, q4, h9'.up _ (fun e => by cases e), ?_, fun _ => ⟨q3, rfl⟩, fun h => absurd rfl h⟩⟩
                rw [hKd, v2_own R hOc B (by rw [b6 g (by simp)]; simp)]; exact q5
              · exact .inr (.inl (hboxes K2 hd' b x hl))) (fun d' hdd => ⟨[], .inl rfl, by
              have := RepP.ptr (V := v2 O p.set p.kl p.mts V V1) (w := w') (K := K2) d 0
              rw [hKd] at this
              exact .u (.p this)⟩)
          exact hC' _ _ _ _ _ hR fun b hb => by show (if b = d then _ else K b) = K b; rw [if_neg (by omega)]
    · cases he
    · rename_i r0 _ _ hn1 hn2 hn3
      cases he
      obtain ⟨O2, hR⟩ := plainly _ rfl (fun d hdd => by
        cases hz : isNbx r0 with
        | false => rfl
        | true => cases r0 <;> simp [isNbx] at hz; exact absurd hdd (hn3 _ d rfl))
      exact hC' _ _ _ _ _ hR fun b _ => rfl

end Evl
