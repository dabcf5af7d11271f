/- A function's body, and its call. No condition. -/
import Derived.Test.YtpjeibdllddkjaaEvq
namespace Evl
open Go

variable {P : Program} {H : Hints} {fid : FuncId} {N : Nat} {w0 w w' : World} {M : Nat → Prop} {V0 V V' : Nat → Nat} {K K' : Nat → Nat × Nat} {O O' : Nat → Option Loc} {s : S} {a : Act} {fp : List Nat} {v : Value}

theorem Rep.chK {m us cs} (h : Rep V w K m fp us cs) (hi : idsL cs = []) (K' : Nat → Nat × Nat) : Rep V w K' m fp us cs :=
  h.mono (fun _ _ _ => rfl) (fun _ => Nat.le_refl _) (Nat.le_refl _) (fun _ _ => ⟨rfl, rfl⟩) (by rw [hi]; simp)
theorem RepP.chK {x : AV} (h : RepP V w K v x) (hi : ids x = []) (K' : Nat → Nat × Nat) : RepP V w K' v x := by
  cases h with
  | ptr b off => simp [ids] at hi
  | cptr a vs h1 h2 h3 h4 h5 => exact .cptr a vs h1 h2 h3 h4 (h5.chK (h5.noIds rfl) K')
  | bad v => exact .bad v
theorem RepPs.chK {us xs} (h : RepPs V w K us xs) (K' : Nat → Nat × Nat) : idsL xs = [] → RepPs V w K' us xs := by
  induction h with
  | nil => intro _; exact .nil
  | cons a _ ih =>
    intro hi
    simp only [idsL, List.append_eq_nil_iff] at hi
    exact .cons (a.chK hi.1 K') (ih hi.2)
theorem RepU.chK {x : AV} (h : RepU V w K fp v x) (hi : ids x = []) (K' : Nat → Nat × Nat) : RepU V w K' fp v x := by
  cases h with
  | one h => exact .one (h.chK (by simp [idsL, hi]) K')
  | agg h => exact .agg (h.chK (by simpa [ids] using hi) K')
  | p h => exact .p (h.chK hi K')
  | fnv h => exact .fnv (h.chK K' (by simpa [ids] using hi))
theorem RepT.chK {us xs} (h : RepT V w K fp us xs) (K' : Nat → Nat × Nat) : idsL xs = [] → RepT V w K' fp us xs := by
  induction h with
  | nil => intro _; exact .nil
  | cons a _ ih =>
    intro hi
    simp only [idsL, List.append_eq_nil_iff] at hi
    exact .cons (a.chK hi.1 K') (ih hi.2)

theorem RepRs.len {us rs} (h : RepRs V w fp us rs) : us.length = rs.length := by
  induction h with
  | nil => rfl
  | cons _ _ _ _ _ _ _ _ ih => simp [ih]

theorem reprs_tup {us rs} (h : RepRs V w fp us rs) : rs.any isNbx = false → RepT V w (fun _ => (0, 0)) fp us rs ∧ idsL rs = [] := by
  induction h with
  | nil => intro _; exact ⟨.nil, rfl⟩
  | cons fp fq u us r rs hr _ ih =>
    intro hn
    simp only [List.any_cons, Bool.or_eq_false_iff] at hn
    obtain ⟨h1, h2⟩ := ih hn.2
    cases hr with
    | v K _ _ _ hu hi => exact ⟨.cons (hu.chK hi _) h1, by simp [idsL, hi, h2]⟩
    | nbx => simp [isNbx] at hn

theorem body_ok {f : FuncId} {fn : Func} {c : Code} {args : List AV} {bx : Nat → Option Box} {x : X} {s' : S} {r : AV} (hf : P.funcs[f]? = some fn) (hb : fn.body = some c) (hl : args.length ≤ fn.ntmps) (hok : codeOk fn.ntmps c = true) (hm : MC P c (S0 args bx) x s') (hx : x = .nor ∨ x = .ret) (hr : resOf P s' fn.results.toList = some r) (he : exitOk bx s') :
    CallOk P f args bx r (exitB bx s') := by
  intro w0 V0 K O vs E
  refine calls_of_wp hf hb ?_
  have hlen := E.len
  have R0 : RelG fn.ntmps w0 (fun g => O g ≠ none) V0 K V0 O (S0 args bx) { tmps := vs.toArray ++ Array.replicate (fn.ntmps - vs.toArray.size) undef, defers := [] } w0 := by
    refine ⟨rfl, by simp; omega, fun t => ?_, fun b x hb => ?_, fun g l hg => ⟨.inr (by rw [hg]; simp), E.rg g l hg⟩, E.vr, ⟨rfl, rfl, rfl, Nat.le_refl _, fun _ _ _ => rfl⟩, Next.refl _ _, fun _ _ _ => rfl⟩
    · cases ha : args[t]? with
      | some y =>
        obtain ⟨v, fp, h1, h2, h3, h4⟩ := E.args t y ha
        have hlt := (List.getElem?_eq_some_iff.1 h1).1
        refine ⟨fp, h2, h3, ?_⟩
        have e1 : (vs.toArray ++ Array.replicate (fn.ntmps - vs.toArray.size) undef).getD t undef = v := by
          rw [Array.getD_eq_getD_getElem?, Array.getElem?_append_left (by simpa using hlt)]
          simp [h1]
        have e2 : (S0 args bx).t t = y := by simp [S0, ha]
        rw [e1, e2]; exact h4
      | none =>
        have e2 : (S0 args bx).t t = .bad := by simp [S0, ha]
        rw [e2]; exact ⟨[], List.nodup_nil, by simp, .bad _⟩
    · obtain ⟨-, h⟩ := E.bx b x hb; exact .inr h
  refine hm fn.ntmps w0 _ V0 V0 K O _ w0 hok R0 _ fun a' w' K1 V1 O1 R' hK => ?_
  unfold resOf at hr
  have key : ∃ rs ks ts, resL P s' fn.results.toList = some (rs, ks, ts) ∧ (rs = [r] ∨ rs.any isNbx = false ∧ r = .tup rs ∧ rs.length ≠ 1) := by
    cases hh : resL P s' fn.results.toList with
    | none => rw [hh] at hr; cases hr
    | some q =>
      obtain ⟨rs, ks, ts⟩ := q
      rw [hh] at hr
      refine ⟨rs, ks, ts, rfl, ?_⟩
      match rs, hr with
      | [v], hr => cases hr; exact .inl rfl
      | [], hr => simp at hr; exact .inr ⟨rfl, hr.symm, by simp⟩
      | v1 :: v2 :: vs, hr =>
        simp only [Option.ite_none_left_eq_some, Option.some.injEq] at hr
        exact .inr ⟨by simpa using hr.1, hr.2.symm, by simp⟩
  obtain ⟨rs, ks, ts, hrl, hrr⟩ := key
  have F := frz R' (rowsOf s' ks)
  obtain ⟨us, fp, hrun, hrep, hnd, hown⟩ := res_list (P := P) R' F (fun | .tmp t => pure (a'.tmps.getD t undef) | .cell c t => do loadVar t (← asAddr (a'.tmps.getD c undef))) (fun _ => rfl) (fun _ _ => rfl) fn.results.toList hrl (fun _ h => h)
  have hks : ∀ k ∈ ks, k < 1000 := by
    have : ∀ (l : List ResultVar) {rs ks ts}, resL P s' l = some (rs, ks, ts) → ∀ k ∈ ks, k < 1000 := by
      intro l
      induction l with
      | nil => intro rs ks ts h; cases h; simp
      | cons x l ih =>
        intro rs ks ts h
        simp only [resL] at h
        split at h
        · rename_i v k1 t1 vs k2 t2 h1 h2
          simp only [Option.ite_none_right_eq_some, Option.some.injEq, Prod.mk.injEq, Bool.and_eq_true] at h
          obtain ⟨⟨_, hk⟩, rfl, rfl, rfl⟩ := h
          intro k hk'
          rcases List.mem_append.1 hk' with hk' | hk'
          · have := List.all_eq_true.1 hk k hk'; simpa using this
          · exact ih h2 k hk'
        · cases h
    exact this _ hrl
  have hres : ∃ v, (results fn a'.tmps).run P w' = .ok v w' ∧ RepQ (vfz V1 K1 O1 s' (rowsOf s' ks)) w' fp v r := by
    have hA : (fn.results.mapM (m := Sem) fun | .tmp t => pure (a'.tmps.getD t undef) | .cell c t => do loadVar t (← asAddr (a'.tmps.getD c undef))).run P w' = .ok us.toArray w' := by
      rw [← Array.toList_mapM] at hrun
      simp only [Sem.run_map] at hrun
      cases hq : (fn.results.mapM (m := Sem) fun | .tmp t => pure (a'.tmps.getD t undef) | .cell c t => do loadVar t (← asAddr (a'.tmps.getD c undef))).run P w' with
      | ok b w1 => rw [hq] at hrun; simp at hrun; obtain ⟨rfl, rfl⟩ := hrun; simp
      | halt b w1 => rw [hq] at hrun; simp at hrun
    rcases hrr with rfl | ⟨hnb, rfl, hl1⟩
    · cases hrep with
      | cons f1 f2 u us' r1 rs1 h1 h2 =>
        cases h2
        refine ⟨u, ?_, .one _ _ _ (by simpa using h1)⟩
        unfold results
        rw [Sem.run_bind]
        refine (congrArg (fun q => Result.andThen q _) hA).trans ?_
        simp
    · have hul : us.length = rs.length := hrep.len
      obtain ⟨h1, h2⟩ := reprs_tup hrep hnb
      refine ⟨.tuple us.toArray, ?_, .tup _ _ _ _ h1 h2⟩
      unfold results
      rw [Sem.run_bind]
      refine (congrArg (fun q => Result.andThen q _) hA).trans ?_
      have : us.length ≠ 1 := by omega
      simp [this]
  obtain ⟨v, hv, hq⟩ := hres
  have hpost : ∃ v, (results fn a'.tmps).run P w' = .ok v w' ∧ ∃ v', Ending.returned v = .returned v' ∧ CallPost w0 V0 K O r (exitB bx s') v' w' := by
    refine ⟨v, hv, v, rfl, vfz V1 K1 O1 s' (rowsOf s' ks), fun g => if g ∈ fp then some (true, 0) else match O1 g with | some (false, b) => if 1000 ≤ b then some (false, b) else none | _ => none, fp, R'.fr, ?_, vfz_vr R' _, ?_, hnd, fun g hg => by simp [hg], hq, ?_, ?_⟩
    · exact ⟨R'.nx.cell, fun g => Nat.le_trans (R'.nx.le g) (F.le g), R'.nx.sz⟩
    · intro g hg hO
      rw [F.other g fun q hq' e => ?_]
      · exact R'.vo g hg (by simp [hO])
      · rcases (R'.rg g _ e).1 with h | h
        · omega
        · exact absurd hO h
    · intro b y hb'
      unfold exitB at hb'
      split at hb'
      · rename_i y0 hy0
        have hge := (he b y0 hy0).1
        obtain ⟨-, y1, hy1, hcl, hz, hst, -⟩ := he b y0 hy0
        rw [hb'] at hy1; cases hy1
        obtain ⟨fb, arr, T, fz, us', q1, q2, q3⟩ := R'.bxr b y hb' (.inl hz)
        have hKb : K1 b = K b := hK b hge
        have hV : ∀ g ∈ (K1 b).1 :: fb, vfz V1 K1 O1 s' (rowsOf s' ks) g = V1 g := fun g hg => F.other g fun q hq' e => by
          rw [q2 g hg] at e; cases e
          have := hks b (rowsOf_mem hq').1; omega
        rw [hKb] at q1 q2 hV
        refine ⟨fb, arr, T, fz, us', q1, fun g hg => ?_, ?_⟩
        · have hO1 := q2 g hg
          have hnf : g ∉ fp := fun h => by
            rcases hown g h with ⟨t, _, e⟩ | ⟨b', hb'', e⟩ <;> rw [hO1] at e <;> cases e
            have := hks b hb''; omega
          simp [hnf, hO1, hge]
        · have hdown : Rep V1 w' K1 false fb us' y.cs := q3.rep.down (fun c hc b n e => by
            have := List.all_eq_true.1 hcl c hc
            rw [e] at this; cases this)
          refine ⟨by rw [← hKb]; exact q3.hp, q3.th, q3.pre, ?_, ?_, q3.var, fun h => absurd hz h⟩
          · exact ((hdown.vmono F.le fun g hg => hV g (by simp [hg])).chK (hdown.noIds rfl) K).up _ (fun e => by cases e)
          · rw [hV _ List.mem_cons_self, ← hKb, q3.vis]
      · cases hb'
    · intro g l hg
      dsimp only at hg
      split at hg
      · rename_i hgf
        rcases hown g hgf with ⟨t, _, e⟩ | ⟨b, _, e⟩
        · exact R'.rg g _ e
        · exact R'.rg g _ e
      · split at hg
        · rename_i b hO1; exact R'.rg g _ hO1
        · cases hg
  rcases hx with rfl | rfl
  · exact ⟨R'.df, hpost⟩
  · exact ⟨R'.df, hpost⟩

end Evl
