/- Structs built: both machines do the same. No condition. -/
import Derived.Test.YtpjeibdllddkjaaEvl
namespace Evl
open Go

variable {P : Program} {H : Hints} {fid : FuncId} {N : Nat} {w0 w w' : World} {M : Nat → Prop} {V0 V V' : Nat → Nat} {K K' : Nat → Nat × Nat} {O O' : Nat → Option Loc} {s : S} {a : Act} {fp : List Nat} {v : Value}

theorem sound_store0 (R : RelG N w0 M V0 K V O s a w) (o : Oper) {t : TypeId} {x xo : Operand} (hop : o.op = .store t x xo) (hdst : o.dst = none) {b off k : Nat} {bx : Box} {cs : List AV} (hx : s.ev x = .ptr b off) (hk : tsize P t = some k) (hc : cellsOf (s.ev xo) = some cs) (hb : s.b b = some bx) (hst : bx.st = true) (hl : cs.length = k) (hoff : off + k ≤ bx.cs.length) (hz : bx.sz = 0) :
    Step1 P N w0 M V0 K o (({ val := .bad, set := given xo (s.ev xo), put := [(b, { bx with cs := bx.cs.take off ++ cs ++ bx.cs.drop (off + k) })], rd := [b] } : Eff).apply o.dst s) a w := by
  obtain ⟨f1, _, _, _, h1⟩ := R.ev x
  rw [hx] at h1
  obtain ⟨e1, -⟩ := inv_ptr h1
  obtain ⟨fp, q1, q2, q3, q4⟩ := R.ev xo
  obtain ⟨us, hv, hr, -⟩ := cells_rep q4 hc
  subst hl
  refine store_box (P := P) R o hdst hb hst xo us cs hoff hz q1 q2 q3 (ownless_v q4) (by simpa [hz] using hr) [b] ?_
  intro arr T fz hg ht hsz
  have := run_storeVar (P := P) (w := w) (t := t) (g := (K b).1) (o := off) hk (a.eval xo) us hv hr.len hg ht hr.oc hsz
  simp [execOp, hop, e1, Instr.storeAt, Instr.sureAddr, this]

theorem RelG.takeL (R : RelG N w0 M V0 K V O s a w) (set : List (Nat × AV)) (hset : ∀ t z, lookup t set = some z → z = share (s.t t)) (dst : Option Nat) (v : Value) (y : AV) (rd : List Nat) (hd : ∀ d, dst = some d → d < N) {fp : List Nat} (hn : fp.Nodup) (ho : ∀ g ∈ fp, ∃ t, O g = some (true, t) ∧ lookup t set ≠ none) (h : RepV V w K fp v y) :
    ∃ O', RelG N w0 M V0 K V O' (({ val := y, set := set, rd := rd } : Eff).apply dst s) (a.put dst v) w := by
  refine ⟨fun g => if g ∈ fp then dst.map (fun d => (true, d)) else if O g = dst.map (fun d => (true, d)) then none else O g, R.apply _ dst v hd (Next.refl V w) (fun _ _ => rfl) ?_ ?_ ?_ ?_ ?_ R.vr R.fr (fun _ _ _ => rfl)⟩
  · intro g l hl ht hb
    refine ⟨rfl, rfl, ?_⟩
    have hg : g ∉ fp := by
      intro hg
      obtain ⟨t, e, hne⟩ := ho g hg
      rw [hl] at e; cases e
      exact hne (ht t rfl).2
    rw [if_neg hg, if_neg ?_]; exact hl
    rw [hl]
    cases dst with
    | none => simp
    | some d => simp only [Option.map_some]; intro e; cases e; exact (ht d rfl).1 rfl
  · intro t z hne hl
    obtain rfl := hset t z hl
    obtain ⟨fq, h1, h2, h3⟩ := R.tm t
    exact ⟨[], List.nodup_nil, by simp, h3.share⟩
  · intro d hd; subst hd
    exact ⟨fp, hn, fun g hg => by simp [hg], h⟩
  · intro b x hl; simp [lookup] at hl
  · intro g l hl
    split at hl
    · rename_i hg
      obtain ⟨t, e, -⟩ := ho g hg
      exact R.rg g _ e
    · split at hl
      · cases hl
      · exact R.rg g l hl

theorem lookup_given {t : Nat} {z : AV} {x : Operand} (h : lookup t (given x (s.ev x)) = some z) : x = .tmp t ∧ z = share (s.t t) ∧ hasOwn (s.ev x) = true := by
  cases x with
  | tmp t' =>
    simp only [given] at h
    split at h
    · rename_i hh
      simp only [lookup] at h
      split at h
      · rename_i e; subst e; cases h; exact ⟨rfl, rfl, hh⟩
      · cases h
    · simp [lookup] at h
  | _ => simp [given, lookup] at h

theorem lookup_append {α : Type} (t : Nat) : ∀ (l l' : List (Nat × α)), lookup t (l ++ l') = match lookup t l with | some z => some z | none => lookup t l'
  | [], l' => by simp [lookup]
  | (k, z) :: l, l' => by
    simp only [List.cons_append, lookup]
    split
    · rfl
    · exact lookup_append t l l'
theorem lookup_mem {α : Type} {t : Nat} : ∀ {l : List (Nat × α)}, lookup t l ≠ none ↔ t ∈ l.map (·.1)
  | [] => by simp [lookup]
  | (k, z) :: l => by
    simp only [lookup, List.map_cons, List.mem_cons]
    split
    · rename_i e; simp [e]
    · rename_i e; rw [lookup_mem (l := l)]; simp [Ne.symm e]

/-- The real parts laid into the real cells. -/
theorem fill_one (arr : Array Value) (off : Nat) (vs : List Value) (h : off + vs.length ≤ arr.size) :
    (vs.toArray.zipIdx.foldl (fun cs (c, j) => cs.setIfInBounds (off + j) c) arr).toList = arr.toList.take off ++ vs ++ arr.toList.drop (off + vs.length) := by
  rw [← Array.foldl_toList]
  simp only [Array.toList_zipIdx]
  have key : ∀ (vs : List Value) (i : Nat) (arr : Array Value), off + i + vs.length ≤ arr.size → ((vs.zipIdx i).foldl (fun cs (c, j) => cs.setIfInBounds (off + j) c) arr).toList = arr.toList.take (off + i) ++ vs ++ arr.toList.drop (off + i + vs.length) := by
    intro vs
    induction vs with
    | nil => intro i arr _; simp
    | cons v vs ih =>
      intro i arr hl
      simp only [List.zipIdx_cons, List.foldl_cons]
      rw [ih (i + 1) _ (by simp at hl ⊢; omega)]
      have hl' : off + i < arr.toList.length := by simp at hl ⊢; omega
      simp only [Array.toList_setIfInBounds]
      rw [List.take_set, List.drop_set_of_lt (by omega)]
      rw [← Nat.add_assoc, List.take_succ_eq_append_getElem hl']
      rw [List.set_append]
      simp only [List.length_take, Nat.min_eq_left (Nat.le_of_lt hl'), Nat.lt_irrefl, if_false, Nat.sub_self, List.set_cons_zero]
      simp [Nat.add_assoc, Nat.add_comm, Nat.add_left_comm]
  have := key vs 0 arr (by simpa using h)
  simpa using this

theorem noDup_iff : ∀ {l : List Nat}, noDup l = true → l.Nodup
  | [], _ => List.nodup_nil
  | x :: l, h => by
    simp only [noDup, Bool.and_eq_true, Bool.not_eq_true', List.contains_eq_mem, decide_eq_false_iff_not] at h
    exact List.nodup_cons.2 ⟨h.1, noDup_iff h.2⟩

theorem partsGiven_share : ∀ {ps : List (Nat × Operand)} {t : Nat} {z : AV}, lookup t (partsGiven s ps) = some z → z = share (s.t t)
  | [], t, z, h => by simp [partsGiven, lookup] at h
  | (i, x) :: ps, t, z, h => by
    simp only [partsGiven, lookup_append] at h
    split at h
    · rename_i y hy; cases h; exact (lookup_given hy).2.1
    · exact partsGiven_share h

/-- Parts laid into cells, in both machines. -/
theorem fill_both (R : RelG N w0 M V0 K V O s a w) (pl : Nat → Option (Nat × Nat)) : ∀ (ps : List (Nat × Operand)) (qs : List (Nat × List AV)) (cs cs' : List AV) (arr : Array Value) (fp : List Nat) (pre : List Nat),
    partsOf s ps = some qs → fillG pl qs cs = some cs' → (pre ++ (partsGiven s ps).map (·.1)).Nodup → Rep V w K true fp arr.toList cs → fp.Nodup → (∀ g ∈ fp, ∃ t, O g = some (true, t) ∧ t ∈ pre) →
    ∃ arr' fp', Instr.fill pl arr (ps.map fun p => (p.1, a.eval p.2)) = some arr' ∧ Rep V w K true fp' arr'.toList cs' ∧ fp'.Nodup ∧ ∀ g ∈ fp', ∃ t, O g = some (true, t) ∧ t ∈ pre ++ (partsGiven s ps).map (·.1) := by
  intro ps
  induction ps with
  | nil =>
    intro qs cs cs' arr fp pre hq hf hn hr hnd ho
    cases hq
    simp only [fillG, Option.some.injEq] at hf; subst hf
    exact ⟨arr, fp, rfl, hr, hnd, by simpa [partsGiven] using ho⟩
  | cons p ps ih =>
    obtain ⟨i, x⟩ := p
    intro qs cs cs' arr fp pre hq hf hn hr hnd ho
    simp only [partsOf] at hq
    split at hq
    · rename_i xs r hx hps
      cases hq
      simp only [fillG] at hf
      split at hf
      · rename_i off size hpl
        simp only [Option.ite_none_right_eq_some] at hf
        obtain ⟨⟨hl, hle⟩, hf⟩ := hf
        obtain ⟨fx, n1, o1, e1, r1⟩ := R.ev x
        obtain ⟨us, hv, hru, -⟩ := cells_rep r1 hx
        obtain ⟨u1, u2, u3, f1, f2, f3, hu, rfl, l1, l2, s1, s2, s3⟩ := hr.seg off size hle
        obtain ⟨m1, m2, m3⟩ := nodup3 hnd
        have hul : us.length = size := hru.len.trans hl
        have hsz : off + us.length ≤ arr.size := by
          have := hr.len; simp at this; omega
        let arr1 : Array Value := (u1 ++ (us ++ u3)).toArray
        have hfill : ((a.eval x).cells.zipIdx.foldl (fun cs (c, j) => cs.setIfInBounds (off + j) c) arr) = arr1 := by
          apply Array.ext'
          rw [hv, fill_one arr off us hsz, hu]
          simp only [arr1]
          rw [List.take_left' l1]
          have : (u1 ++ (u2 ++ u3)).drop (off + us.length) = u3 := by
            rw [← List.append_assoc]; exact List.drop_left' (by simp [l1, l2, hul])
          rw [this]; simp
        have hfx : ∀ g ∈ fx, ∃ t, O g = some (true, t) ∧ t ∈ (given x (s.ev x)).map (·.1) := by
          intro g hg
          cases x with
          | tmp t =>
            refine ⟨t, o1 t rfl g hg, ?_⟩
            simp only [given]
            split
            · simp
            · rename_i hh; rw [ownless_v r1 (by simpa using hh)] at hg; cases hg
          | _ => rw [e1 (by intro t e; cases e)] at hg; cases hg
        have n0 := List.nodup_append.1 m2
        have hdis : ∀ g ∈ fx, g ∉ f1 ++ f3 := by
          intro g hg hm
          obtain ⟨t, ht, htm⟩ := hfx g hg
          obtain ⟨t', ht', htm'⟩ := ho g (by rcases List.mem_append.1 hm with hm | hm <;> simp [hm])
          rw [ht] at ht'; cases ht'
          exact (List.nodup_append.1 hn).2.2 t htm' t (by simp only [partsGiven, List.map_append, List.mem_append]; exact .inl htm) rfl
        obtain ⟨arr', fp', g1, g2, g3, g4⟩ := ih r _ cs' arr1 (f1 ++ (fx ++ f3)) (pre ++ (given x (s.ev x)).map (·.1)) hps hf
          (by simpa [partsGiven, List.append_assoc] using hn)
          (by have := s1.app (hru.app s3); simp only [arr1]; simpa [List.append_assoc] using this)
          (List.nodup_append.2 ⟨n0.1, List.nodup_append.2 ⟨n1, n0.2.1, fun x hx y hy e => hdis x hx (by subst e; simp [hy])⟩, fun x hx y hy e => by
            subst e
            rcases List.mem_append.1 hy with hy | hy
            · exact hdis x hy (by simp [hx])
            · exact n0.2.2 x hx x hy rfl⟩)
          (by
            intro g hg
            simp only [List.mem_append] at hg
            rcases hg with hg | hg | hg
            · obtain ⟨t, h1, h2⟩ := ho g (by simp [hg]); exact ⟨t, h1, by simp [h2]⟩
            · obtain ⟨t, h1, h2⟩ := hfx g hg; exact ⟨t, h1, by simp only [List.mem_append]; exact .inr h2⟩
            · obtain ⟨t, h1, h2⟩ := ho g (by simp [hg]); exact ⟨t, h1, by simp [h2]⟩)
        refine ⟨arr', fp', ?_, g2, g3, by simpa [partsGiven, List.append_assoc] using g4⟩
        simp only [List.map_cons, Instr.fill, hpl, hfill]
        rw [if_neg]
        · exact g1
        · rw [hv]; simp [hul]; have := hr.len; simp at this; omega
      · cases hf
    · cases hq

theorem tplace_run {t : TypeId} {pl : Nat → Option (Nat × Nat)} {z : List AV} (hz : tzero P t = some z) (h : tplace P t = some pl) (parts : Array (Nat × Value)) (arr : Array Value) (hf : ∀ zv : Value, (P.info? t).bind (·.zero) = some zv → Instr.fill pl zv.cells parts.toList = some arr) (w : World) :
    (Instr.build t parts).run P w = .ok (.agg arr) w := by
  obtain ⟨i, zv, hi, hzv, -, -⟩ := tzero_of hz
  have hfill := hf zv (by rw [hi]; exact hzv)
  unfold tplace at h
  split at h
  · rename_i n k hta
    cases h
    obtain ⟨e, j, hu, hj, hs⟩ := tarr_of hta
    simp [Instr.build, zeroValue, Go.typeInfo, hi, hzv, underlying, hu, Go.sizeOf, hj, hs, hfill]
  · simp only [Option.map_eq_some_iff] at h
    obtain ⟨l, hl, rfl⟩ := h
    unfold tfields at hl
    split at hl
    · rename_i fs hu
      have hm : ∀ (fl : List Field) (l : List (Nat × Nat)), allSome (fl.map fun f => (tsize P f.type).map fun k => (f.offset, k)) = some l →
          (fl.mapM (m := Sem) fun f => (do pure (f.offset, ← Go.sizeOf f.type))).run P w = .ok l w := by
        intro fl
        induction fl with
        | nil => intro l h; cases h; simp
        | cons f fl ih =>
          intro l h
          simp only [List.map_cons] at h
          cases hf : tsize P f.type with
          | none => simp [hf, allSome] at h
          | some k =>
            simp only [hf, Option.map_some, allSome, Option.map_eq_some_iff] at h
            obtain ⟨l', hl', rfl⟩ := h
            obtain ⟨j, hj, hs⟩ := info_of hf
            have h1 : ((do pure (f.offset, ← Go.sizeOf f.type)) : Sem (Nat × Nat)).run P w = .ok (f.offset, k) w := by simp [Go.sizeOf, Go.typeInfo, hj, hs]
            rw [List.mapM_cons, Sem.run_bind, h1, Result.andThen_ok, Sem.run_bind, ih l' hl', Result.andThen_ok]; rfl
      have := hm fs.toList l hl
      have hfl : (fs.mapM (m := Sem) fun f => (do pure (f.offset, ← Go.sizeOf f.type))).run P w = .ok l.toArray w := by
        rw [← Array.toList_mapM] at this
        simp only [Sem.run_map] at this
        cases hr : (fs.mapM (m := Sem) fun f => (do pure (f.offset, ← Go.sizeOf f.type))).run P w with
        | ok b w1 => rw [hr] at this; simp at this; obtain ⟨rfl, rfl⟩ := this; simp
        | halt b w1 => rw [hr] at this; simp at this
      simp only [Instr.build, zeroValue, Go.typeInfo, underlying, Sem.run_bind, run_program, Result.andThen_ok, hi, hzv, hu, Sem.run_pure, hfl]
      have e : (fun x : Nat => l.toArray[x]?) = fun i : Nat => l[i]? := by funext x; simp
      rw [e, hfill]; rfl
    · cases hl

theorem sound_build (R : RelG N w0 M V0 K V O s a w) (o : Oper) (hd : ∀ d, o.dst = some d → d < N) {e : Eff} (h : opE P H fid o s = some e) {t parts} (hop : o.op = .build t parts) :
    Step1 P N w0 M V0 K o (e.apply o.dst s) a w := by
  simp only [opE, hop] at h
  split at h
  · rename_i z ps pl hz hps hpl
    simp only [Option.ite_none_right_eq_some, Option.map_eq_some_iff] at h
    obtain ⟨hnd, cs, hf, rfl⟩ := h
    obtain ⟨i, zv, hi, hzv, rfl, hoc⟩ := tzero_of hz
    have hr0 := rep_of_values (V := V) (w := w) (K := K) (m := true) zv.cells.toList hoc
    obtain ⟨arr', fp', g1, g2, g3, g4⟩ := fill_both R pl parts.toList ps _ cs zv.cells [] [] hps hf (by simpa using noDup_iff hnd) hr0 List.nodup_nil (by simp)
    have hrun := tplace_run (P := P) hz hpl (parts.map fun p => (p.1, a.eval p.2)) arr' (fun zv' hz' => by
      rw [hi] at hz'; simp only [Option.bind_some, hzv, Option.some.injEq] at hz'; subst hz'
      simpa using g1) w
    obtain ⟨O', h⟩ := R.takeL (partsGiven s parts.toList) (fun t z => partsGiven_share) o.dst (.agg arr'.toList.toArray) (.agg cs) [] hd g3 (fun g hg => by
      obtain ⟨t, h1, h2⟩ := g4 g hg
      exact ⟨t, h1, lookup_mem.2 (by simpa using h2)⟩) (.u (.agg g2))
    refine ⟨.agg arr'.toList.toArray, w, K, V, O', .inl ?_, h, fun _ _ => rfl⟩
    simp only [execOp, hop, Sem.run_bind, hrun, Result.andThen_ok, Sem.run_pure, Array.toArray_toList]
  · cases h

end Evl
