/- Rows made and rows changed: both machines do the same. No condition. -/
import Derived.Test.YtpjeibdllddkjaaEvw
import Derived.ArgAppend
namespace Evl
open Go

variable {P : Program} {H : Hints} {fid : FuncId} {N : Nat} {w0 w w' : World} {M : Nat → Prop} {V0 V V' : Nat → Nat} {K K' : Nat → Nat × Nat} {O O' : Nat → Option Loc} {s : S} {a : Act} {fp : List Nat} {v : Value}

/-- A step that ends in a row of its own: a new one, or one that takes an older one's place. -/
theorem row_step (R : RelG N w0 M V0 K V O s a w) (o : Oper) {d : Nat} (hdst : o.dst = some d) (hd : d < N) (hk : d < 1000) (set : List (Nat × AV)) (hset : ∀ t z, lookup t set = some z → z = share (s.t t)) (ks : List Nat) (hks : ks.all (· < 1000) = true) (rd : List Nat) (n : Nat) (x : Box) (g0 cap : Nat)
    (hold : ∀ g, g < w.heap.size → g ≠ g0 → w'.heap[g]? = w.heap[g]?) (hn : Next V V' w w') (ho : w'.os = w.os ∧ w'.tape = w.tape ∧ w'.output = w.output) (hg0 : g0 < w'.heap.size)
    (hV : ∀ g, g ≠ g0 → (∀ r ∈ ks, O g = some (false, r) → g ≠ (K r).1) → V' g = V g) (hvr : ∀ g, 0 < V' g → g < w'.heap.size)
    {fb : List Nat} {arr : Array Value} {T : TypeId} {fz : Nat × Nat} {us : List Value} (hnd : (g0 :: fb).Nodup) (hg0' : g0 = w.heap.size ∨ ∃ r ∈ ks, O g0 = some (false, r))
    (hfb : ∀ g ∈ fb, (∃ t, O g = some (true, t) ∧ lookup t set ≠ none) ∨ ∃ r ∈ ks, O g = some (false, r))
    (hbox : ∀ K' : Nat → Nat × Nat, K' d = (g0, cap + 1) → BoxOk V' w' K' d x fb arr T fz us) (hnc : n ≤ cap) (hr : (execOp a.eval o).run P w = .ok (.value (.slice (some ⟨g0, 0, none⟩) n cap)) w') :
    Step1 P N w0 M V0 K o (({ val := .msl d n, set := set, kl := d :: ks, put := [(d, x)], rd := rd } : Eff).apply o.dst s) a w := by
  let K' : Nat → Nat × Nat := fun b => if b = d then (g0, cap + 1) else K b
  have hK : ∀ b, b ∉ d :: ks → K' b = K b := fun b hb => by simp at hb; simp [K', hb.1]
  have hfr : ∀ g l, O g = some l → (∀ t, l = (true, t) → some d ≠ some t ∧ lookup t set = none) → (∀ b, l = (false, b) → lookup b [(d, x)] = none ∧ b ∉ d :: ks) → g ∉ g0 :: fb := by
    intro g l hl ht hb hm
    rcases List.mem_cons.1 hm with rfl | hm
    · rcases hg0' with e | ⟨r, hr, e⟩
      · have := (R.rg g l hl).2; omega
      · rw [hl] at e; cases e; exact (hb r rfl).2 (by simp [hr])
    · rcases hfb g hm with ⟨t, e, h⟩ | ⟨r, hr, e⟩
      · rw [hl] at e; cases e; exact h (ht t rfl).2
      · rw [hl] at e; cases e; exact (hb r rfl).2 (by simp [hr])
  refine ⟨_, w', K', V', fun g => if g ∈ g0 :: fb then some (false, d) else if O g = some (true, d) ∨ O g = some (false, d) then none else O g, .inl hr, ?_, fun b hb => by simp only [K']; rw [if_neg (by omega)]⟩
  rw [hdst]
  refine R.apply _ (some d) _ (fun d' h => by cases h; exact hd) hn hK ?_ ?_ ?_ ?_ ?_ hvr ?_ ?_
  · intro g l hl ht hb
    have hnm := hfr g l hl ht hb
    have hne : g ≠ g0 := fun e => hnm (by simp [e])
    refine ⟨hold g (R.rg g l hl).2 hne, hV g hne fun r hr e => ?_, ?_⟩
    · rw [hl] at e; cases e; exact absurd (List.mem_cons_of_mem _ hr) (hb r rfl).2
    · rw [if_neg hnm, if_neg ?_]; exact hl
      rw [hl]; rintro (e | e)
      · cases e; exact (ht d rfl).1 rfl
      · cases e; exact (hb d rfl).2 (by simp)
  · intro t z hne hl
    obtain rfl := hset t z hl
    obtain ⟨fq, h1, h2, h3⟩ := R.tm t
    exact ⟨[], List.nodup_nil, by simp, h3.share.next hn (by simp) _ hK⟩
  · intro d' e; cases e
    refine ⟨[], List.nodup_nil, by simp, ?_⟩
    have hKd : K' d = (g0, cap + 1) := by simp [K']
    have := Rep.ms (V := V') (w := w') (K := K') (fp := []) (us := []) (cs := []) (n := n) (cap := cap) d (by rw [hKd]) hnc .nil
    rw [hKd] at this
    exact .u (.one this)
  · intro b y hl
    simp only [lookup] at hl
    split at hl
    · rename_i e; subst e; cases hl
      have hKd : K' d = (g0, cap + 1) := by simp [K']
      exact .inr ⟨fb, arr, T, fz, us, by rw [hKd]; exact hnd, by rw [hKd]; intro g hg; exact if_pos hg, hbox K' hKd⟩
    · cases hl
  · intro g l hl
    split at hl
    · rename_i hg
      rcases List.mem_cons.1 hg with rfl | hg
      · refine ⟨?_, hg0⟩
        rcases hg0' with e | ⟨r, hr, e⟩
        · rw [e]; exact .inl R.fr.sz
        · exact (R.rg _ _ e).1
      · rcases hfb g hg with ⟨t, e, h⟩ | ⟨r, hr, e⟩
        · have := R.rg _ _ e; exact ⟨this.1, Nat.lt_of_lt_of_le this.2 hn.sz⟩
        · have := R.rg _ _ e; exact ⟨this.1, Nat.lt_of_lt_of_le this.2 hn.sz⟩
    · split at hl
      · cases hl
      · have := R.rg _ _ hl; exact ⟨this.1, Nat.lt_of_lt_of_le this.2 hn.sz⟩
  · refine ⟨ho.1.trans R.fr.os, ho.2.1.trans R.fr.tape, ho.2.2.trans R.fr.output, Nat.le_trans R.fr.sz hn.sz, fun g hg hm => ?_⟩
    rw [hold g (Nat.lt_of_lt_of_le hg R.fr.sz) ?_]; exact R.fr.old g hg hm
    rintro rfl
    rcases hg0' with e | ⟨r, hr, e⟩
    · have := R.fr.sz; omega
    · rcases (R.rg _ _ e).1 with h | h
      · omega
      · exact hm h
  · intro g hg hm
    refine hV g ?_ fun r hr e => ?_
    · rintro rfl
      rcases hg0' with e | ⟨r, hr, e⟩
      · have := R.fr.sz; omega
      · rcases (R.rg _ _ e).1 with h | h
        · omega
        · exact hm h
    · rcases (R.rg _ _ e).1 with h | h
      · omega
      · exact absurd h hm

theorem next_alloc (R : RelG N w0 M V0 K V O s a w) (V1 : Nat → Nat) (hV : ∀ g, V g ≤ V1 g) {w' : World} (ob : Obj) (hw : w'.heap = w.heap.push ob) : Next V V1 w w' :=
  ⟨fun g off ho => by
      have hg := R.vr g (by omega)
      simp only [World.cell?, hw, Array.getElem?_push]; rw [if_neg (by omega)], hV, by rw [hw]; simp⟩

theorem zeros_list (z : Array Value) (n : Nat) : ((Array.range (n * z.size)).map (z[· % z.size]!)).toList = (List.replicate n z.toList).flatten := by
  have h0 : (List.range z.size).map (fun j => z[j]!) = z.toList := by
    apply List.ext_getElem?
    intro j
    simp only [List.getElem?_map, Array.getElem?_toList]
    by_cases hj : j < z.size
    · simp [hj]
    · rw [List.getElem?_eq_none (by simpa using hj), Array.getElem?_eq_none (by omega)]; rfl
  rw [Array.toList_map, Array.toList_range]
  induction n with
  | zero => simp
  | succ n ih =>
    rw [List.replicate_succ', List.flatten_append, ← ih, Nat.succ_mul, List.range_add, List.map_append]
    congr 1
    rw [List.map_map]
    simp only [List.flatten_cons, List.flatten_nil, List.append_nil]
    rw [← h0]
    apply List.map_congr_left
    intro j hj
    have : j < z.size := by simpa using hj
    simp [Function.comp, Nat.mul_add_mod, Nat.mod_eq_of_lt this]

theorem sound_makeFunc (R : RelG N w0 M V0 K V O s a w) (o : Oper) (hd : ∀ d, o.dst = some d → d < N) {e : Eff} (h : opE P H fid o s = some e) {fn fs cs} (hop : o.op = .makeFunc fn fs cs) :
    Step1 P N w0 M V0 K o (e.apply o.dst s) a w := by
  cases fn with
  | func f =>
    simp only [opE, hop, Option.ite_none_right_eq_some, Option.some.injEq] at h
    obtain ⟨⟨rfl, hall⟩, rfl⟩ := h
    have hps : ∀ l : List Operand, (l.map s.ev).all isP = true → RepPs V w K (l.map a.eval) (l.map s.ev) := by
      intro l
      induction l with
      | nil => intro _; exact .nil
      | cons x l ih =>
        intro h
        simp only [List.map_cons, List.all_cons, Bool.and_eq_true] at h
        obtain ⟨fp, _, _, _, h1⟩ := R.ev x
        refine .cons ?_ (ih h.2)
        cases hx : s.ev x with
        | ptr b off => rw [hx] at h1; rw [(inv_ptr h1).1]; exact .ptr b off
        | cptr cs =>
          rw [hx] at h1
          obtain ⟨ad, vs, e1, -, e2, e3, e4, e5, e6⟩ := inv_cptr h1
          rw [e1]; exact .cptr ad vs e2 e3 e4 e5 e6
        | _ => rw [hx] at h; exact absurd h.1 (by simp [isP])
    refine step_pure R o hd (.func (.func f) #[] (cs.toList.map a.eval).toArray) _ [] ?_ (.u (.fnv (hps _ hall)))
    have e : (cs.toList.map a.eval).toArray = cs.map a.eval := by apply Array.ext'; simp
    simp [execOp, hop, Instr.makeFunc, e]
  | _ => simp [opE, hop] at h

theorem sound_buildSlice (R : RelG N w0 M V0 K V O s a w) (o : Oper) (hd : ∀ d, o.dst = some d → d < N) {e : Eff} (h : opE P H fid o s = some e) (hk : e.kl.all (· < 1000) = true) {t n ps} (hop : o.op = .buildSlice t n ps) :
    Step1 P N w0 M V0 K o (e.apply o.dst s) a w := by
  simp only [opE, hop] at h
  split at h
  · rename_i d el sz by' qs hdst ht hqs
    split at h
    · rename_i z hz
      simp only [Option.ite_none_right_eq_some] at h
      obtain ⟨⟨hsz, hzl, hlim, hdup⟩, h⟩ := h
      split at h
      · rename_i cs hcs
        split at h
        · rename_i ys ks hf
          cases h
          simp only [List.all_cons, Bool.and_eq_true, decide_eq_true_eq] at hk
          obtain ⟨i, zv, hi, hzv, rfl, hoc⟩ := tzero_of hz
          obtain ⟨i', hu, hi', hs', -⟩ := tslice_of ht
          rw [hi] at hi'; cases hi'
          have hzsz : zv.cells.size = sz := by simpa using hzl
          let zs : Array Value := (Array.range (n * sz)).map (zv.cells[· % zv.cells.size]!)
          have hzs : zs.toList = (List.replicate n zv.cells.toList).flatten := by
            have := zeros_list zv.cells n
            rw [hzsz] at this
            simpa [zs, hzsz] using this
          have hrep0 : Rep V w K true [] zs.toList ((List.replicate n (zv.cells.toList.map ofValue)).flatten) := by
            rw [hzs]
            have : (List.replicate n (zv.cells.toList.map ofValue)).flatten = ((List.replicate n zv.cells.toList).flatten).map ofValue := by
              rw [List.map_flatten, List.map_replicate]
            rw [this]
            refine rep_of_values _ fun v hv => ?_
            obtain ⟨l, hl, hv⟩ := List.mem_flatten.1 hv
            rw [(List.mem_replicate.1 hl).2] at hv; exact hoc v hv
          obtain ⟨arr, fp, g1, g2, g3, g4⟩ := fill_both R (fun i => some (i * sz, sz)) ps.toList qs _ cs zs [] [] hqs hcs (by simpa using noDup_iff hdup) hrep0 List.nodup_nil (by simp)
          have F := frz R ks
          have hdis : ∀ g ∈ fp, ∀ r, O g ≠ some (false, r) := fun g hg r e => by
            obtain ⟨t, e', _⟩ := g4 g hg; rw [e] at e'; cases e'
          obtain ⟨fq, q1, q2, q3⟩ := freeze_rep R _ F.le ks F.other F.row cs ys arr.toList fp ks hf g2 (fun _ h => h) g3 (fun g hg r _ e => absurd e (hdis g hg r)) (fun g hg r _ => hdis g hg r)
          have hlt : ∀ g ∈ fq, g < w.heap.size := fun g hg => by
            rcases q3 g hg with h | ⟨r, _, e⟩
            · obtain ⟨t, e', _⟩ := g4 g h; exact (R.rg g _ e').2
            · exact (R.rg g _ e).2
          have hlen : arr.size = n * sz := by
            have h1 := g2.len
            have h2 : ∀ (qs : List (Nat × List AV)) (cs cs' : List AV), fillG (fun i => some (i * sz, sz)) qs cs = some cs' → cs'.length = cs.length := by
              intro qs; induction qs with
              | nil => intro cs cs' h; cases h; rfl
              | cons q qs ih =>
                intro cs cs' h
                obtain ⟨i, xs⟩ := q
                simp only [fillG, Option.ite_none_right_eq_some] at h
                rw [ih _ _ h.2]; simp; omega
            rw [h2 _ _ _ hcs] at h1
            simp only [Array.length_toList] at h1
            rw [h1]; simp [List.length_flatten, hzsz]
          have hsup : w.heap.size + 0 = w.heap.size := rfl
          refine row_step (w' := w.alloc (.cells arr el)) (V' := vfz V K O s ks) (T := el) (fz := (0, 0)) (us := arr.toList) (fb := fq) (arr := arr) R o hdst (hd d hdst) hk.1 (partsGiven s ps.toList) (fun t z hl => partsGiven_share hl) ks hk.2 ks n ⟨true, sz, ys⟩ w.heap.size n ?_ (next_alloc R _ F.le _ rfl) ⟨rfl, rfl, rfl⟩ (by simp) ?_ ?_ ?_ (.inl rfl) ?_ ?_ (Nat.le_refl _) ?_
          · intro g hg _; simp only [World.alloc, Array.getElem?_push]; rw [if_neg (by omega)]
          · intro g _ h; exact F.other g h
          · intro g hg; have := vfz_vr R ks g hg; simp; omega
          · exact List.nodup_cons.2 ⟨fun hm => by have := hlt _ hm; omega, q2⟩
          · intro g hg
            rcases q3 g hg with h | h
            · obtain ⟨t, e', ht⟩ := g4 g h
              exact .inl ⟨t, e', lookup_mem.2 (by simpa using ht)⟩
            · exact .inr h
          · intro K' hK'
            have hsz0 : (sz == 0) = false := by simp [hsz]
            refine ⟨?_, .inl rfl, fun j v hj => by simpa using hj, ?_, ?_, fun e => absurd e hsz, fun _ => ⟨n, by rw [hK'], hlen, by simp, by simp [hlen]⟩⟩
            · rw [hK']; show (w.heap.push _)[w.heap.size]? = _; simp
            · show Rep _ _ _ (sz == 0) _ _ _
              rw [hsz0]
              exact (q1.chK (q1.noIds rfl) K').mono (K := K') (fun g off ho => by
                have hg := vfz_vr R ks g (by omega)
                simp only [World.cell?, World.alloc, Array.getElem?_push]; rw [if_neg (by omega)]) (fun _ => Nat.le_refl _) (by simp) (fun g hg => ⟨by have := hlt g hg; simp only [World.alloc, Array.getElem?_push]; rw [if_neg (by omega)], rfl⟩) (fun _ _ => rfl)
            · rw [hK', F.other w.heap.size (fun r _ e => by have := (R.rg _ _ e).2; omega)]
              simp only [if_true]
              exact Nat.eq_zero_of_not_pos fun hp => by have := R.vr _ hp; omega
          · have hrun : (Instr.buildSlice t n (ps.map fun p => (p.1, a.eval p.2))).run P w = .ok (.slice (some ⟨w.heap.size, 0, none⟩) n n) (w.alloc (.cells arr el)) := by
              have hz0 : n * sz = 0 → zs = #[] := by intro e; simp [zs, e]
              have hlim' : ¬ (n * sz > 2 ^ 24) := by simp only [limCells] at hlim; omega
              simp only [Instr.buildSlice, underlying, Sem.run_bind, run_program, Result.andThen_ok, hu, Sem.run_pure, Go.sizeOf, Go.typeInfo, hi, hs', if_neg hlim']
              have g1' : Instr.fill (fun i => some (i * sz, sz)) ((Array.range (n * sz)).map (zv.cells[· % zv.cells.size]!)) (ps.map fun p => (p.1, a.eval p.2)).toList = some arr := by
                rw [Array.toList_map]; exact g1
              by_cases h0 : n * sz = 0
              · have e0 : (Array.range (n * sz)).map (zv.cells[· % zv.cells.size]!) = (Array.range (n * sz)).map ((#[] : Array Value)[· % (#[] : Array Value).size]!) := by
                  rw [h0]; simp
                rw [e0] at g1'
                simp [h0] at g1' ⊢
                simp [g1', newRow]
              · rw [if_neg h0]
                simp only [zeroValue, Go.typeInfo, Sem.run_bind, run_program, Result.andThen_ok, hi, hzv, Sem.run_pure, g1', newRow]
                simp
            have e0 : (ps.map fun (x : Nat × Operand) => (x.1, a.eval x.2)) = ps.map fun p => (p.1, a.eval p.2) := rfl
            simp only [execOp, hop, Sem.run_bind, hrun]; rfl
        · cases h
      · cases h
    · cases h
  · cases h
end Evl
