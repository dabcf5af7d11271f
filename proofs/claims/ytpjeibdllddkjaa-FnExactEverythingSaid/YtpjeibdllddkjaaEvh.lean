/- Lengths, cuts, parts of tuples: both machines do the same. No condition. -/
import Derived.Test.YtpjeibdllddkjaaEvg
namespace Evl
open Go

variable {P : Program} {H : Hints} {fid : FuncId} {N : Nat} {w0 w w' : World} {M : Nat → Prop} {V0 V V' : Nat → Nat} {K K' : Nat → Nat × Nat} {O O' : Nat → Option Loc} {s : S} {a : Act} {fp : List Nat} {v : Value}

theorem RelG.give (R : RelG N w0 M V0 K V O s a w) (t : Nat) {fp fi : List Nat} (hfp : ∀ g ∈ fp, O g = some (true, t)) (hi : ∀ g ∈ fi, g ∈ fp) (nd : fi.Nodup) (dst : Option Nat) (v : Value) (y : AV) (rd : List Nat) (hd : ∀ d, dst = some d → d < N)
    (h : RepV V w K fi v y) (set : List (Nat × AV)) (hs : (set = [] ∧ fi = []) ∨ ∃ z fr, set = [(t, z)] ∧ fr.Nodup ∧ (∀ g ∈ fr, g ∈ fp ∧ g ∉ fi) ∧ RepV V w K fr (a.tmps.getD t undef) z) :
    ∃ O', RelG N w0 M V0 K V O' (({ val := y, set := set, rd := rd } : Eff).apply dst s) (a.put dst v) w := by
  refine ⟨fun g => if g ∈ fi then dst.map (fun d => (true, d)) else if O g = dst.map (fun d => (true, d)) then none else O g, R.apply _ dst v hd (Next.refl V w) (fun _ _ => rfl) ?_ ?_ ?_ ?_ ?_ R.vr R.fr (fun _ _ _ => rfl)⟩
  · intro g l hl ht hb
    refine ⟨rfl, rfl, ?_⟩
    have hg : g ∉ fi := by
      intro hg
      have e := hfp g (hi g hg)
      rw [hl] at e; cases e
      rcases hs with ⟨_, rfl⟩ | ⟨z, fr, rfl, _⟩
      · cases hg
      · have := (ht t rfl).2; simp [lookup] at this
    rw [if_neg hg, if_neg ?_]; exact hl
    rw [hl]
    cases dst with
    | none => simp
    | some d => simp only [Option.map_some]; intro e; cases e; exact (ht d rfl).1 rfl
  · intro t' z hne hl
    rcases hs with ⟨rfl, _⟩ | ⟨z', fr, rfl, h1, h2, h3⟩
    · simp [lookup] at hl
    · simp only [lookup] at hl
      split at hl
      · rename_i e; subst e; cases hl
        refine ⟨fr, h1, fun g hg => ?_, h3⟩
        rw [if_neg (h2 g hg).2, if_neg ?_]; exact hfp g (h2 g hg).1
        rw [hfp g (h2 g hg).1]
        cases dst with
        | none => simp
        | some d => simp only [Option.map_some]; intro e; cases e; exact hne rfl
      · cases hl
  · intro d hd; subst hd
    exact ⟨fi, nd, fun g hg => by simp [hg], h⟩
  · intro b x hl; simp [lookup] at hl
  · intro g l hl
    split at hl
    · rename_i hg
      exact R.rg g _ (hfp g (hi g hg))
    · split at hl
      · cases hl
      · exact R.rg g l hl

theorem RepT.at {us : List Value} {xs : List AV} (h : RepT V w K fp us xs) : ∀ {i : Nat} {x : AV}, xs[i]? = some x → ∃ u f1 fi f2, us[i]? = some u ∧ fp = f1 ++ (fi ++ f2) ∧ RepU V w K fi u x ∧ ∀ y fy, RepU V w K fy u y → RepT V w K (f1 ++ (fy ++ f2)) us (xs.set i y) := by
  induction h with
  | nil => intro i x h; simp at h
  | @cons fp fq v x vs xs a b ih =>
    intro i y hy
    cases i with
    | zero =>
      simp only [List.getElem?_cons_zero, Option.some.injEq] at hy; subst hy
      exact ⟨v, [], fp, fq, rfl, rfl, a, fun z fz hz => by simpa using RepT.cons hz b⟩
    | succ i =>
      simp only [List.getElem?_cons_succ] at hy
      obtain ⟨u, f1, fi, f2, h1, rfl, h3, h4⟩ := ih hy
      refine ⟨u, fp ++ f1, fi, f2, by simpa using h1, by simp [List.append_assoc], h3, fun z fz hz => ?_⟩
      have := h4 z fz hz
      simp only [List.set_cons_succ]
      rw [List.append_assoc]
      exact .cons a this

theorem run_extract {us : List Value} {i : Nat} {u : Value} (h : us[i]? = some u) (w : World) : (Instr.extract (.tuple us.toArray) i).run P w = .ok u w := by
  simp [Instr.extract, h]

theorem undef_in (t : Nat) : a.eval (.tmp t) = a.tmps.getD t undef := rfl

theorem sound_extract_plain (R : RelG N w0 M V0 K V O s a w) (o : Oper) (hd : ∀ d, o.dst = some d → d < N) {t i : Nat} (hop : o.op = .extract (.tmp t) i) {vs : List AV} (hv : s.t t = .tup vs) {x : AV} (hx : vs[i]? = some x) :
    Step1 P N w0 M V0 K o (({ val := x, set := if hasOwn x then [(t, .tup (vs.set i (share x)))] else [] } : Eff).apply o.dst s) a w := by
  obtain ⟨fp, h1, h2, h3⟩ := R.tm t
  rw [hv] at h3
  obtain ⟨us, e, ht⟩ := inv_tup h3
  obtain ⟨u, f1, fi, f2, g1, rfl, g3, g4⟩ := ht.at hx
  have hr : (execOp a.eval o).run P w = .ok (.value u) w := by
    simp only [execOp, hop, Sem.run_bind, undef_in, e, run_extract g1]; rfl
  have n1 := List.nodup_append.1 h1
  have n2 := List.nodup_append.1 n1.2.1
  obtain ⟨O', h⟩ := R.give t (fp := f1 ++ (fi ++ f2)) (fi := fi) h2 (fun g hg => by simp [hg]) n2.1 o.dst u x [] hd (.u g3) (if hasOwn x then [(t, .tup (vs.set i (share x)))] else []) (by
    by_cases ho : hasOwn x = true
    · refine .inr ⟨.tup (vs.set i (share x)), f1 ++ f2, by simp [ho], ?_, ?_, ?_⟩
      · rw [List.nodup_append]
        exact ⟨n1.1, n2.2.1, fun x hx y hy => n1.2.2 x hx y (by simp [hy])⟩
      · intro g hg
        rcases List.mem_append.1 hg with hg | hg
        · exact ⟨by simp [hg], fun hi => n1.2.2 g hg g (by simp [hi]) rfl⟩
        · exact ⟨by simp [hg], fun hi => n2.2.2 g hi g hg rfl⟩
      · rw [e]; exact .tup (by simpa using g4 _ [] (share_one g3))
    · exact .inl ⟨by simp [ho], ownless_u g3 (by simpa using ho)⟩)
  exact ⟨u, w, K, V, O', .inl hr, h, fun _ _ => rfl⟩

/-- A tree that was somebody's own becomes a local row d. -/
theorem rep_own {sz n : Nat} {cs : List AV} {u : Value} (h : Rep V w K true fp [u] [.sl true sz n cs]) : (u = .slice none 0 0 ∧ fp = [] ∧ n = 0 ∧ cs = []) ∨ ∃ g cap T arr fz vs fq, u = .slice (some ⟨g, 0, none⟩) n cap ∧ fp = g :: fq ∧ n ≤ cap ∧ w.heap[g]? = some (.cells arr T fz) ∧ thawed arr fz ∧ arr.size = cap * sz ∧ vs.length = n * sz ∧ sz ≠ 0 ∧
    (∀ (j : Nat) (v : Value), vs[j]? = some v → arr[j]? = some v) ∧ V g = vs.length ∧ Rep V w K false fq vs cs := by
  cases h with
  | on h => cases h; exact .inl ⟨rfl, rfl, rfl, rfl⟩
  | ow g T arr fz vs h1 h2 h3 h4 h5 h6 h7 h8 h9 h10 =>
    cases h10
    refine .inr ?_
    exact ⟨g, _, T, arr, fz, vs, _, rfl, by simp, h1, h2, h3, h4, h5, h6, h7, h8, h9⟩

theorem row_ok {d g cap n sz : Nat} {cs : List AV} {T : TypeId} {arr : Array Value} {fz : Nat × Nat} {vs : List Value} {fq : List Nat} (hK : K d = (g, cap + 1)) (h1 : n ≤ cap) (h2 : w.heap[g]? = some (.cells arr T fz)) (h3 : thawed arr fz) (h4 : arr.size = cap * sz) (h5 : vs.length = n * sz) (h6 : sz ≠ 0)
    (h7 : ∀ (j : Nat) (v : Value), vs[j]? = some v → arr[j]? = some v) (h8 : V g = vs.length) (h9 : Rep V w K false fq vs cs) : BoxOk V w K d ⟨false, sz, cs⟩ fq arr T fz vs where
  hp := by rw [hK]; exact h2
  th := h3
  pre := h7
  rep := by
    have : (sz == 0) = false := by simp [h6]
    show Rep V w K (sz == 0) fq vs cs
    rw [this]; exact h9
  vis := by rw [hK]; simpa [h9.len] using h8
  var := fun e => absurd e h6
  row := fun _ => ⟨cap, by rw [hK], h4, by rw [h4, h5]; exact Nat.mul_le_mul_right _ h1, by rw [h5]; exact Nat.mul_mod_left _ _⟩

theorem sound_extract_thaw (R : RelG N w0 M V0 K V O s a w) (o : Oper) {d : Nat} (hdst : o.dst = some d) (hd : d < N) (hk : d < 1000) {t i : Nat} (htd : t ≠ d) (hop : o.op = .extract (.tmp t) i) {vs : List AV} (hv : s.t t = .tup vs) {sz n : Nat} {cs : List AV} (hx : vs[i]? = some (.sl true sz n cs)) (hsz0 : sz ≠ 0) :
    Step1 P N w0 M V0 K o (({ val := .msl d n, set := [(t, .tup (vs.set i (.sl false sz n (shareL cs))))], kl := [d], put := [(d, ⟨false, sz, cs⟩)] } : Eff).apply o.dst s) a w := by
  obtain ⟨fp, h1, h2, h3⟩ := R.tm t
  rw [hv] at h3
  obtain ⟨us, e, ht⟩ := inv_tup h3
  obtain ⟨u, f1, fi, f2, g1, rfl, g3, g4⟩ := ht.at hx
  have hr : (execOp a.eval o).run P w = .ok (.value u) w := by
    simp only [execOp, hop, Sem.run_bind, undef_in, e, run_extract g1]; rfl
  have hone := inv_one (.u g3) (.inl ⟨_, _, _, _, rfl⟩)
  obtain ⟨rfl, rfl, rfl, rfl⟩ | ⟨g, cap, T, arr, fz, ws, fq, rfl, rfl, q1, q2, q3, q4, q5, q6, q7, q8, q9⟩ := rep_own hone
  · let K' : Nat → Nat × Nat := fun b => if b = d then (0, 0) else K b
    have hK : ∀ b, b ∉ [d] → K' b = K b := fun b hb => by simp at hb; simp [K', hb]
    have hKd : (K' d).2 = 0 := by simp [K']
    have hsh : RepV V w K (f1 ++ f2) (a.tmps.getD t undef) (.tup (vs.set i (.sl false sz 0 (shareL [])))) := by
      rw [e]; have := g4 _ [] (share_one g3); simp only [share] at this; exact .tup (by simpa using this)
    refine ⟨_, w, K', V, O, .inl hr, ?_, fun b hb => by simp only [K']; rw [if_neg (by omega)]⟩
    rw [hdst]
    refine R.apply _ (some d) _ (fun d' h => by cases h; exact hd) (Next.refl V w) hK ?_ ?_ ?_ ?_ R.rg R.vr R.fr (fun _ _ _ => rfl)
    · intro x l hl _ _; exact ⟨rfl, rfl, hl⟩
    · intro t' z hne hl
      simp only [lookup] at hl
      split at hl
      · rename_i e'; subst e'; cases hl
        exact ⟨f1 ++ f2, by simpa using h1, fun x hx => h2 x (by simpa using hx), hsh.next (Next.refl V w) (fun _ _ => ⟨rfl, rfl⟩) [d] hK⟩
      · cases hl
    · intro d' e'; cases e'
      exact ⟨[], List.nodup_nil, by simp, .u (.one (.mv d hKd .nil))⟩
    · intro b x hl
      simp only [lookup] at hl
      split at hl
      · rename_i e'; subst e'; cases hl
        exact .inl ⟨hsz0, rfl, hKd⟩
      · cases hl
  have n1 := List.nodup_append.1 h1
  have n2 := List.nodup_append.1 n1.2.1
  let K' : Nat → Nat × Nat := fun b => if b = d then (g, cap + 1) else K b
  have hK : ∀ b, b ∉ [d] → K' b = K b := fun b hb => by simp at hb; simp [K', hb]
  have hsh : RepV V w K (f1 ++ f2) (a.tmps.getD t undef) (.tup (vs.set i (.sl false sz n (shareL cs)))) := by
    rw [e]; have := g4 _ [] (share_one g3); simp only [share] at this; exact .tup (by simpa using this)
  refine ⟨_, w, K', V, fun x => if x ∈ g :: fq then some (false, d) else if O x = some (true, d) ∨ O x = some (false, d) then none else O x, .inl hr, ?_, fun b hb => by simp only [K']; rw [if_neg (by omega)]⟩
  rw [hdst]
  refine R.apply _ (some d) _ (fun d' h => by cases h; exact hd) (Next.refl V w) hK ?_ ?_ ?_ ?_ ?_ R.vr R.fr (fun _ _ _ => rfl)
  · intro x l hl ht' hb'
    refine ⟨rfl, rfl, ?_⟩
    have hg : x ∉ g :: fq := by
      intro hg
      have e := h2 x (by simp only [List.mem_append]; exact .inr (.inl hg))
      rw [hl] at e; cases e
      have := (ht' t rfl).2; simp [lookup] at this
    rw [if_neg hg, if_neg ?_]; exact hl
    rw [hl]; rintro (e | e)
    · cases e; exact (ht' d rfl).1 rfl
    · cases e; have := (hb' d rfl).1; simp [lookup] at this
  · intro t' z hne hl
    simp only [lookup] at hl
    split at hl
    · rename_i e'; subst e'; cases hl
      refine ⟨f1 ++ f2, ?_, fun x hx => ?_, hsh.next (Next.refl V w) (fun _ _ => ⟨rfl, rfl⟩) [d] hK⟩
      · rw [List.nodup_append]
        exact ⟨n1.1, n2.2.1, fun x hx y hy => n1.2.2 x hx y (by simp [hy])⟩
      · have hxt : O x = some (true, t) := h2 x (by rcases List.mem_append.1 hx with hx | hx <;> simp [hx])
        have hg : x ∉ g :: fq := by
          intro hg
          rcases List.mem_append.1 hx with hx | hx
          · exact n1.2.2 x hx x (by simp only [List.mem_append]; exact .inl hg) rfl
          · exact n2.2.2 x hg x hx rfl
        rw [if_neg hg, if_neg ?_]; exact hxt
        rw [hxt]; rintro (e' | e')
        · cases e'; exact htd rfl
        · cases e'
    · cases hl
  · intro d' e'; cases e'
    refine ⟨[], List.nodup_nil, by simp, .u (.one ?_)⟩
    have := Rep.ms (V := V) (w := w) (K := K') (n := n) (cap := cap) d (by simp [K']) q1 .nil
    simpa [K'] using this
  · intro b x hl
    simp only [lookup] at hl
    split at hl
    · rename_i e'; subst e'; cases hl
      have hKd : K' d = (g, cap + 1) := by simp [K']
      refine .inr ⟨fq, arr, T, fz, ws, by rw [hKd]; exact n2.1, fun x hx => ?_, row_ok hKd q1 q2 q3 q4 q5 q6 q7 q8 (q9.mono (fun _ _ _ => rfl) (fun _ => Nat.le_refl _) (Nat.le_refl _) (fun _ _ => ⟨rfl, rfl⟩) (by rw [q9.noIds rfl]; simp))⟩
      rw [hKd] at hx
      exact if_pos hx
    · cases hl
  · intro x l hl
    split at hl
    · rename_i hg
      exact R.rg x _ (h2 x (by simp only [List.mem_append]; exact .inr (.inl hg)))
    · split at hl
      · cases hl
      · exact R.rg x l hl

theorem sound_extract (R : RelG N w0 M V0 K V O s a w) (o : Oper) (hd : ∀ d, o.dst = some d → d < N) {e : Eff} (h : opE P H fid o s = some e) (hk : e.kl.all (· < 1000) = true) {x i} (hop : o.op = .extract x i) :
    Step1 P N w0 M V0 K o (e.apply o.dst s) a w := by
  simp only [opE, hop] at h
  split at h
  · rename_i d vs t hdst hv
    simp only [S.ev] at hv
    split at h
    · rename_i sz n cs hx
      simp only [Option.ite_none_right_eq_some, Option.some.injEq] at h
      obtain ⟨⟨hz, htd⟩, rfl⟩ := h
      exact sound_extract_thaw R o hdst (hd d hdst) (by simpa using hk) htd hop hv hx hz
    · cases h
    · rename_i y _ _ hx
      simp only [Option.some.injEq] at h; subst h
      exact sound_extract_plain R o hd hop hv hx
    · cases h
  · cases h

end Evl
