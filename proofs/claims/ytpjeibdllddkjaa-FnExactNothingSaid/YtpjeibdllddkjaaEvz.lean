/- Cuts of rows, appends, any operation: both machines do the same. No condition. -/
import Derived.Test.YtpjeibdllddkjaaEvy
import Derived.Laws.BitsLemmas
namespace Evl
open Go

variable {P : Program} {H : Hints} {fid : FuncId} {N : Nat} {w0 w w' : World} {M : Nat → Prop} {V0 V V' : Nat → Nat} {K K' : Nat → Nat × Nat} {O O' : Nat → Option Loc} {s : S} {a : Act} {fp : List Nat} {v : Value}

theorem rep_share_row {b : Nat} {x : Box} {fb arr T fz us} (h3 : BoxOk V w K b x fb arr T fz us) (hz : x.sz ≠ 0) : Rep V w K false [] us (shareL x.cs) := by
  have := h3.rep
  have hxz : (x.sz == 0) = false := by simp [hz]
  rw [hxz] at this; exact this.share

/-- A step that only tells a slot anew and keeps one box, its row seen by others from now on; its block may have got another mark. -/
theorem keep_step (R : RelG N w0 M V0 K V O s a w) (o : Oper) (hd : ∀ d, o.dst = some d → d < N) {b : Nat} {x x' : Box} (hb : s.b b = some x) (hcs : x'.cs = x.cs) (hsz : x'.sz = x.sz) (hz : x.sz ≠ 0) (hre : (K b).2 ≠ 0) (y : AV) (v : Value) (hst : V (K b).1 ≤ (if x'.st then 0 else x'.cs.length))
    (hw : ∀ g, g ≠ (K b).1 → w'.heap[g]? = w.heap[g]?) (hs : w'.heap.size = w.heap.size) (ho : w'.os = w.os ∧ w'.tape = w.tape ∧ w'.output = w.output) (hbk : ∀ arr T fz, w.heap[(K b).1]? = some (.cells arr T fz) → thawed arr fz → ∃ fz', w'.heap[(K b).1]? = some (.cells arr T fz') ∧ thawed arr fz')
    (hr : (execOp a.eval o).run P w = .ok (.value v) w') (hval : RepV (fun g => if g = (K b).1 then (if x'.st then 0 else x'.cs.length) else V g) w' K [] v y) :
    Step1 P N w0 M V0 K o (({ val := y, put := [(b, x')], rd := [b] } : Eff).apply o.dst s) a w := by
  obtain ⟨fb, arr, T, fz, us, h1, h2, h3⟩ := R.bxr b x hb (.inr (.inr hre))
  have hn1 := List.nodup_cons.1 h1
  obtain ⟨fz', hb1, hb2⟩ := hbk arr T fz h3.hp h3.th
  have hcell : ∀ g off, w'.cell? ⟨g, off, none⟩ = w.cell? ⟨g, off, none⟩ := fun g off => by
    by_cases e : g = (K b).1
    · subst e; rw [cell_of_heap hb1, cell_of_heap h3.hp]
    · simp only [World.cell?, hw g e]
  have hOb : O (K b).1 = some (false, b) := h2 _ List.mem_cons_self
  have hle : ∀ g, V g ≤ (if g = (K b).1 then (if x'.st then 0 else x'.cs.length) else V g) := fun g => by
    by_cases e : g = (K b).1
    · rw [if_pos e, e]; exact hst
    · rw [if_neg e]; exact Nat.le_refl _
  have hnx : Next V (fun g => if g = (K b).1 then (if x'.st then 0 else x'.cs.length) else V g) w w' := ⟨fun g off _ => hcell g off, hle, Nat.le_of_eq hs.symm⟩
  refine ⟨v, w', K, _, O, .inl hr, R.apply _ _ v hd hnx (fun _ _ => rfl) ?_ ?_ ?_ ?_ ?_ ?_ ?_ ?_, fun _ _ => rfl⟩
  · intro g l hl ht hb'
    have hne : g ≠ (K b).1 := fun e => by
      rw [e, hOb] at hl; cases hl
      have := (hb' b rfl).1; simp [lookup] at this
    exact ⟨hw g hne, by simp [hne], hl⟩
  · intro t z _ hl; simp [lookup] at hl
  · intro d hdd; exact ⟨[], List.nodup_nil, by simp, hval⟩
  · intro b' z hl
    simp only [lookup] at hl
    split at hl
    · rename_i e; subst e; cases hl
      refine .inr ⟨fb, arr, T, fz', us, h1, h2, ⟨hb1, hb2, h3.pre, ?_, by simp, fun e => absurd (hsz ▸ e) hz, fun _ => by rw [hsz]; exact h3.row hz⟩⟩
      show Rep _ _ _ (x'.sz == 0) _ _ x'.cs
      rw [hsz]
      have hrep := h3.rep
      rw [← hcs] at hrep
      refine hrep.mono (fun g off _ => hcell g off) hle (Nat.le_of_eq hs.symm) (fun g hg => ?_) (fun _ _ => rfl)
      have hne : g ≠ (K b).1 := fun e => hn1.1 (by rw [← e]; exact hg)
      exact ⟨hw g hne, by simp [hne]⟩
    · cases hl
  · intro g l hl; have := R.rg g l hl; exact ⟨this.1, by rw [hs]; exact this.2⟩
  · intro g hg
    rw [hs]
    by_cases e : g = (K b).1
    · rw [e]; exact lt_of_heap h3.hp
    · rw [if_neg e] at hg; exact R.vr g hg
  · refine ⟨ho.1.trans R.fr.os, ho.2.1.trans R.fr.tape, ho.2.2.trans R.fr.output, by rw [hs]; exact R.fr.sz, fun g hg hm => ?_⟩
    rw [hw g ?_]; exact R.fr.old g hg hm
    rintro rfl
    rcases (R.rg _ _ hOb).1 with h | h
    · omega
    · exact hm h
  · intro g hg hm
    rw [if_neg ?_]
    rintro rfl
    rcases (R.rg _ _ hOb).1 with h | h
    · omega
    · exact hm h

/-- A row that is nil as yet stays so. -/
theorem keep_virt (R : RelG N w0 M V0 K V O s a w) (o : Oper) (hd : ∀ d, o.dst = some d → d < N) {b : Nat} {x' : Box} (hsz : x'.sz ≠ 0) (hcs : x'.cs = []) (h0 : (K b).2 = 0) (y : AV) (v : Value)
    (hr : (execOp a.eval o).run P w = .ok (.value v) w) (hval : RepV V w K [] v y) :
    Step1 P N w0 M V0 K o (({ val := y, put := [(b, x')], rd := [b] } : Eff).apply o.dst s) a w := by
  refine ⟨v, w, K, V, O, .inl hr, R.apply _ _ v hd (Next.refl V w) (fun _ _ => rfl) ?_ ?_ ?_ ?_ R.rg R.vr R.fr (fun _ _ _ => rfl), fun _ _ => rfl⟩
  · intro g l hl _ _; exact ⟨rfl, rfl, hl⟩
  · intro t z _ hl; simp [lookup] at hl
  · intro d hdd; exact ⟨[], List.nodup_nil, by simp, hval⟩
  · intro b' z hl
    simp only [lookup] at hl
    split at hl
    · rename_i e; subst e; cases hl
      exact .inl ⟨hsz, hcs, h0⟩
    · cases hl

/-- A row that is nil as yet. -/
theorem virt_row (R : RelG N w0 M V0 K V O s a w) (o : Oper) {d : Nat} (hdst : o.dst = some d) (hd : d < N) (hk : d < 1000) (ks : List Nat) (hks : ks.all (· < 1000) = true) (rd : List Nat) {x : Box} (hsz : x.sz ≠ 0) (hcs : x.cs = [])
    (hr : (execOp a.eval o).run P w = .ok (.value (.slice none 0 0)) w) :
    Step1 P N w0 M V0 K o (({ val := .msl d 0, kl := d :: ks, put := [(d, x)], rd := rd } : Eff).apply o.dst s) a w := by
  let K' : Nat → Nat × Nat := fun b => if b = d then (0, 0) else K b
  have hKd : (K' d).2 = 0 := by simp [K']
  have hK : ∀ b, b ∉ d :: ks → K' b = K b := fun b hb => by simp at hb; simp [K', hb.1]
  refine ⟨_, w, K', V, O, .inl hr, ?_, fun b hb => by simp only [K']; rw [if_neg (by omega)]⟩
  rw [hdst]
  refine R.apply _ (some d) _ (fun d' h => by cases h; exact hd) (Next.refl V w) hK ?_ ?_ ?_ ?_ R.rg R.vr R.fr (fun _ _ _ => rfl)
  · intro g l hl _ _; exact ⟨rfl, rfl, hl⟩
  · intro t z _ hl; simp [lookup] at hl
  · intro d' e; cases e; exact ⟨[], List.nodup_nil, by simp, .u (.one (.mv d hKd .nil))⟩
  · intro b y hl
    simp only [lookup] at hl
    split at hl
    · rename_i e; subst e; cases hl; exact .inl ⟨hsz, hcs, hKd⟩
    · cases hl

theorem run_cut_none {t e z by' : Nat} (ht : tslice P t = some (e, z, by')) (lo hi : Option Value)
    (hlo : (lo = none ∧ (0 : Int) = 0) ∨ ∃ k, lo = some (.int k 0)) (hhi : (hi = none ∧ (0 : Int) = ((0 : Nat) : Int)) ∨ ∃ k, hi = some (.int k 0)) (w : World) :
    (Instr.sliceAt t (.slice none 0 0) lo hi none).run P w = .ok (.slice none 0 0) w := by
  obtain ⟨i, hu, hi', hs, -⟩ := tslice_of ht
  have hb : (Instr.sliceBounds true 0 0 lo hi none).run P w = .ok (0, 0, 0) w := by
    rcases hlo with ⟨rfl, -⟩ | ⟨k, rfl⟩ <;> rcases hhi with ⟨rfl, -⟩ | ⟨k', rfl⟩ <;>
      simp [Instr.sliceBounds, Instr.sliceBound, asIntOf]
  simp only [Instr.sliceAt, underlying, Sem.run_bind, run_program, Result.andThen_ok, hu, Sem.run_pure, Instr.slice, hb, Go.sizeOf, Go.typeInfo, hi', hs]
  simp

theorem sound_slice (R : RelG N w0 M V0 K V O s a w) (o : Oper) (hd : ∀ d, o.dst = some d → d < N) {e : Eff} (h : opE P H fid o s = some e) {t x lo hi mx} (hop : o.op = .slice t x lo hi mx) :
    Step1 P N w0 M V0 K o (e.apply o.dst s) a w := by
  simp only [opE, hop, Option.ite_none_left_eq_some] at h
  obtain ⟨hmx, h⟩ := h
  obtain rfl : mx = none := by cases mx with | none => rfl | some m => simp at hmx
  obtain ⟨fp, _, _, _, h1⟩ := R.ev x
  cases hx : s.ev x with
  | lit v =>
    rw [hx] at h h1
    obtain ⟨e1, -, -⟩ := inv_lit h1
    cases v with
    | string v =>
      simp only [sliceE] at h
      split at h
      · rename_i l u hl hu
        simp only [Option.ite_none_right_eq_some, Option.some.injEq] at h
        obtain ⟨⟨g1, g2, g3, g4⟩, rfl⟩ := h
        refine step_pure R o hd _ _ [] ?_ (.lit rfl)
        have := run_cut_str (P := P) g1 v _ _ l u g2 g3 g4 (bnd_run R hl) (bnd_run R hu) w
        simp only [execOp, hop, e1, Sem.run_bind, Option.map_none, this]; rfl
      · cases h
    | _ => simp [sliceE] at h
  | sl ow z n cs =>
    rw [hx] at h h1
    simp only [sliceE] at h
    split at h
    · rename_i l u e' z' by' hl hu ht
      simp only [Option.ite_none_right_eq_some, Option.some.injEq] at h
      obtain ⟨⟨rfl, g1, g2, g3, g4⟩, rfl⟩ := h
      obtain ⟨ev, rfl, rfl⟩ | ⟨ad, cap, ev, rfl, rfl⟩ | ⟨ab, ao, cap, vs, ev, hn, i2, i3, i4, i5⟩ := inv_sl h1
      rotate_left
      · have e1 : l = 0 := by omega
        have e2 : u = 0 := by omega
        subst e1; subst e2
        have := run_cut_empty (P := P) ht ad cap _ _ (bnd_run R hl) (bnd_run R hu) w
        refine step_pure R o hd _ _ [] (by simp only [execOp, hop, ev, Sem.run_bind, Option.map_none, this]; rfl) ?_
        have e3 : (if ow = true then shareL [] else ([] : List AV)) = [] := by cases ow <;> rfl
        simp only [e3, List.drop_nil, List.take_nil]
        exact .u (.one (.sh ad [] (Nat.zero_le _) (.inl ⟨rfl, rfl⟩) (by simp) .nil .nil))
      rotate_left
      · have e1 : l = 0 := by omega
        have e2 : u = 0 := by omega
        subst e1; subst e2
        have := run_cut_none (P := P) ht _ _ (bnd_run R hl) (bnd_run R hu) w
        refine step_pure R o hd _ _ [] (by simp only [execOp, hop, ev, Sem.run_bind, Option.map_none, this]; rfl) ?_
        have e3 : (if ow = true then shareL [] else ([] : List AV)) = [] := by cases ow <;> rfl
        simp only [e3, List.drop_nil, List.take_nil]
        exact .u (.one (.ns .nil))
      have := run_cut_sl (P := P) ht ab ao n cap hn _ _ l u g2 g3 g4 (bnd_run R hl) (bnd_run R hu) w
      refine step_pure R o hd _ _ [] (by simp only [execOp, hop, ev, Sem.run_bind, Option.map_none, this]; rfl) ?_
      have := sub_sl (V := V) (K := K) (w := w) hn (l := l.toNat) (u := u.toNat) (by omega) (by omega) (by rw [show (if ow = true then shareL cs else cs).length = cs.length by cases ow <;> simp [shareL_length]]; exact g1) i2 i3 i4 i5
      exact this
    · cases h
  | msl b n =>
    rw [hx] at h h1
    obtain ⟨-, hinv⟩ := inv_msl h1
    simp only [sliceE] at h
    split at h
    · rename_i r hb
      split at h
      · rename_i l u e' z' by' hl hu ht
        simp only [Option.ite_none_right_eq_some, Option.some.injEq] at h
        obtain ⟨⟨rfl, g1, g0, g2, g3, g4⟩, rfl⟩ := h
        obtain ⟨ev, rfl, hv0⟩ | ⟨cap, ev, hre, hn⟩ := hinv
        · have e1 : l = 0 := by omega
          have e2 : u = 0 := by omega
          subst e1; subst e2
          have hcs : r.cs = [] := List.eq_nil_of_length_eq_zero (by simpa using g1)
          have := run_cut_none (P := P) ht _ _ (bnd_run R hl) (bnd_run R hu) w
          refine keep_virt (P := P) R o hd (x' := { r with st := false }) g0 hcs hv0 _ _ (by simp only [execOp, hop, ev, Sem.run_bind, Option.map_none, this]; rfl) ?_
          simp only [hcs, shareL, List.drop_nil, List.take_nil]
          exact .u (.one (.ns .nil))
        obtain ⟨fb, arr, T, fz, us, q1, q2, q3⟩ := R.bxr b r hb (.inr (.inr (by omega)))
        have := run_cut_sl (P := P) ht (K b).1 0 n cap hn _ _ l u g2 g3 g4 (bnd_run R hl) (bnd_run R hu) w
        have hle : V (K b).1 ≤ r.cs.length := by rw [q3.vis]; split <;> omega
        have hrep := rep_share_row q3 g0
        refine keep_step (P := P) (w' := w) R o hd hb (x' := { r with st := false }) rfl rfl g0 (by omega) _ _ (by simpa using hle) (fun _ _ => rfl) rfl ⟨rfl, rfl, rfl⟩ (fun arr T fz h1 h2 => ⟨fz, h1, h2⟩) (by simp only [execOp, hop, ev, Sem.run_bind, Option.map_none, this]; rfl) ?_
        have hle2 : ∀ g, V g ≤ (if g = (K b).1 then (if ({ r with st := false } : Box).st = true then 0 else ({ r with st := false } : Box).cs.length) else V g) := fun g => by
          by_cases e : g = (K b).1
          · rw [if_pos e, e]; simpa using hle
          · rw [if_neg e]; exact Nat.le_refl _
        exact sub_sl (K := K) (w := w) hn (l := l.toNat) (u := u.toNat) (by omega) (by omega) (by rw [shareL_length]; exact g1) (fun j v hj => by rw [Nat.zero_add]; exact q3.cell hj) (by simp [hrep.len, shareL_length]) (lt_of_heap q3.hp) (hrep.vmono hle2 (by simp))
      · cases h
    · cases h
  | _ => rw [hx] at h; cases h

theorem sound_convert (R : RelG N w0 M V0 K V O s a w) (o : Oper) (hd : ∀ d, o.dst = some d → d < N) {e : Eff} (h : opE P H fid o s = some e) {t t' x} (hop : o.op = .convert t t' x) :
    Step1 P N w0 M V0 K o (e.apply o.dst s) a w := by
  simp only [opE, hop] at h
  obtain ⟨f1, _, _, _, h1⟩ := R.ev x
  split at h
  · rename_i k n hx
    rw [hx] at h1
    obtain ⟨e1, -, -⟩ := inv_lit h1
    split at h
    · rename_i k' hk'
      simp only [Option.ite_none_right_eq_some, Option.some.injEq] at h
      obtain ⟨hu, rfl⟩ := h
      obtain ⟨ds, hds⟩ := tund_of hu
      refine step_pure R o hd _ _ [] ?_ (.lit rfl)
      have := tint_of hk'
      simp only [execOp, hop, e1, convert, underlying, Sem.run_bind, run_program, Result.andThen_ok, hds, this, Sem.run_pure]
      simp [Conv.intToInt]
    · cases h
  · rename_i b n hx
    rw [hx] at h1
    obtain ⟨-, hinv⟩ := inv_msl h1
    split at h
    · rename_i r e' by' hb ht
      simp only [Option.ite_none_right_eq_some, Option.some.injEq] at h
      obtain ⟨⟨rfl, he, hz, hne⟩, rfl⟩ := h
      have hne' : r.cs ≠ [] := by intro e; rw [e] at hne; cases hne
      obtain ⟨cap, ev, hre, hn⟩ : ∃ cap, a.eval x = .slice (some ⟨(K b).1, 0, none⟩) n cap ∧ (K b).2 = cap + 1 ∧ n ≤ cap := by
        obtain ⟨ev, rfl, hv0⟩ | h := hinv
        · rcases R.bx b r hb with ⟨_, h2, _⟩ | ⟨fb, arr, T, fz, us, q1, q2, q3⟩
          · exact absurd h2 hne'
          · obtain ⟨cap, hc, _⟩ := q3.row (by omega); omega
        · exact h
      obtain ⟨i, hu, hi', hs, -⟩ := tslice_of ht
      have hu8 := tint_of he
      obtain ⟨fb, arr, T, fz, us, q1, q2, q3⟩ := R.bxr b r hb (.inr (.inr (by omega)))
      have hst : (if r.st then 0 else r.cs.length) = V (K b).1 := q3.vis.symm
      let fz' : Nat × Nat := if fz.1 == fz.2 then (arr.size, arr.size + 1) else (min fz.1 arr.size, max fz.2 (arr.size + 1))
      have hfz : thawed arr fz' := by
        rcases q3.th with h | h
        · have : (fz.1 == fz.2) = true := by simpa using h
          simp only [fz', this, if_true]; exact .inr (Nat.le_refl _)
        · simp only [fz']; split
          · exact .inr (Nat.le_refl _)
          · exact .inr (by simp only; omega)
      let w' : World := { w with heap := w.heap.setIfInBounds (K b).1 (.cells arr T fz') }
      have hg := lt_of_heap q3.hp
      have hw : w.freeze ⟨(K b).1, arr.size, none⟩ 1 = w' := by
        unfold World.freeze
        rw [if_neg (by decide)]
        simp only [w']
        congr 1
        apply Array.ext_getElem?
        intro j
        rw [Array.getElem?_modify, Array.getElem?_setIfInBounds]
        by_cases e : (K b).1 = j
        · subst e
          rw [if_pos rfl, if_pos rfl, if_pos hg, q3.hp]
          rfl
        · rw [if_neg e, if_neg e]
      have hrun : (convert t t (.slice (some ⟨(K b).1, 0, none⟩) n cap)).run P w = .ok (.slice (some ⟨(K b).1, 0, none⟩) n cap) w' := by
        have hsh : w.shape? (K b).1 = some (T, arr.size) := by unfold World.shape?; rw [q3.hp]
        simp [convert, run_underlying hu, run_underlying hu8, markStringish, hsh, hw]
      have hrz : r.sz ≠ 0 := by omega
      refine keep_step (P := P) (w' := w') R o hd hb (x' := r) rfl rfl hrz (by omega) _ _ (Nat.le_of_eq q3.vis) ?_ (by simp [w']) ⟨rfl, rfl, rfl⟩ ?_ (by simp only [execOp, hop, ev, Sem.run_bind, hrun]; rfl) ?_
      · intro g hne; simp only [w']; rw [Array.getElem?_setIfInBounds, if_neg (fun e => hne e.symm)]
      · intro arr' T' fz'' h1 h2
        rw [q3.hp] at h1; cases h1
        exact ⟨fz', by simp only [w']; rw [Array.getElem?_setIfInBounds, if_pos rfl, if_pos hg], hfz⟩
      · exact .u (.one (.ms b hre hn .nil))
    · cases h
  · cases h

theorem sound_makeSlice (R : RelG N w0 M V0 K V O s a w) (o : Oper) (hd : ∀ d, o.dst = some d → d < N) {e : Eff} (h : opE P H fid o s = some e) (hk : e.kl.all (· < 1000) = true) {t x y} (hop : o.op = .makeSlice t x y) :
    Step1 P N w0 M V0 K o (e.apply o.dst s) a w := by
  simp only [opE, hop] at h
  split at h
  · rename_i d el sz by' k c hdst ht hx hy
    split at h
    · rename_i z hz
      simp only [Option.ite_none_right_eq_some, Option.some.injEq] at h
      obtain ⟨⟨hsz, hzl, rfl, h0, h63, hlim⟩, rfl⟩ := h
      simp only [List.all_cons, Bool.and_eq_true, decide_eq_true_eq] at hk
      obtain ⟨f1, _, _, _, h1⟩ := R.ev x
      obtain ⟨f2, _, _, _, h2⟩ := R.ev y
      rw [hx] at h1; rw [hy] at h2
      obtain ⟨ex, -, -⟩ := inv_lit h1
      obtain ⟨ey, -, -⟩ := inv_lit h2
      obtain ⟨i, zv, hi, hzv, rfl, hoc⟩ := tzero_of hz
      obtain ⟨i', hu, hi', hs', hb'⟩ := tslice_of ht
      rw [hi] at hi'; cases hi'
      have hzsz : zv.cells.size = sz := by simpa using hzl
      let n := c.toNat
      let zs : Array Value := (Array.range (n * sz)).map (zv.cells[· % zv.cells.size]!)
      have hzs : zs.toList = (List.replicate n zv.cells.toList).flatten := by
        have := zeros_list zv.cells n
        rw [hzsz] at this
        simpa [zs, hzsz] using this
      have hrep0 : Rep V w K false [] zs.toList ((List.replicate n (zv.cells.toList.map ofValue)).flatten) := by
        rw [hzs]
        have : (List.replicate n (zv.cells.toList.map ofValue)).flatten = ((List.replicate n zv.cells.toList).flatten).map ofValue := by
          rw [List.map_flatten, List.map_replicate]
        rw [this]
        refine rep_of_values _ fun v hv => ?_
        obtain ⟨l, hl, hv⟩ := List.mem_flatten.1 hv
        rw [(List.mem_replicate.1 hl).2] at hv; exact hoc v hv
      have hlen : zs.size = n * sz := by simp [zs]
      have hrun : (Instr.makeSlice t (.int .i64 c) (.int .i64 c)).run P w = .ok (.slice (some ⟨w.heap.size, 0, none⟩) n n) (w.alloc (.cells zs el)) := by
        have hwr : IntKind.i64.wrap c = c := by rw [IntKind.wrap_i64]; omega
        have hc : ((c.toNat : Nat) : Int) = c := Int.toNat_of_nonneg h0
        have hbig : ¬ ((i.bytes : Int) * c > 281474976710656) := by
          have h' : c.toNat * i.bytes ≤ 140737488355328 := by rw [hb']; exact hlim
          have e : (i.bytes : Int) * c = ((c.toNat * i.bytes : Nat) : Int) := by rw [Int.natCast_mul, hc, Int.mul_comm]
          omega
        have hneg : ¬ (c < 0) := by omega
        have h48 : (2 : Int) ^ 48 = 281474976710656 := by decide
        by_cases hn0 : c.toNat * sz = 0
        · have e0 : (Array.range (n * sz)).map (zv.cells[· % zv.cells.size]!) = #[] := by
            have : n * sz = 0 := hn0
            rw [this]; simp
          have ez : zs = #[] := e0
          simp [Instr.makeSlice, underlying, hu, asInt, asIntOf, Go.typeInfo, hi, hwr, h48, hbig, hneg, Go.sizeOf, hs', hn0, newRow, ez, n]
          congr 2
          simp
        · simp [Instr.makeSlice, underlying, hu, asInt, asIntOf, Go.typeInfo, hi, hwr, h48, hbig, hneg, Go.sizeOf, hs', hn0, zeroValue, hzv, newRow, n, zs]
      refine row_step (w' := w.alloc (.cells zs el)) (V' := V) (T := el) (fz := (0, 0)) (us := zs.toList) (fb := []) (arr := zs) R o hdst (hd d hdst) hk.1 [] (by simp [lookup]) [] rfl [] n ⟨true, sz, _⟩ w.heap.size n ?_ (next_alloc R V (fun _ => Nat.le_refl _) _ rfl) ⟨rfl, rfl, rfl⟩ (by simp) (fun _ _ _ => rfl) ?_ (by simp) (.inl rfl) (by simp) ?_ (Nat.le_refl _) ?_
      · intro g hg _; simp only [World.alloc, Array.getElem?_push]; rw [if_neg (by omega)]
      · intro g hg; have := R.vr g hg; simp; omega
      · intro K' hK'
        have hsz0 : (sz == 0) = false := by simp [hsz]
        refine ⟨?_, .inl rfl, fun j v hj => by simpa using hj, ?_, ?_, fun e => absurd e hsz, fun _ => ⟨n, by rw [hK'], hlen, by simp, by simp [hlen]⟩⟩
        · rw [hK']; show (w.heap.push _)[w.heap.size]? = _; simp
        · show Rep _ _ _ (sz == 0) _ _ _
          rw [hsz0]
          exact (hrep0.chK (hrep0.noIds rfl) K').mono (K := K') (fun g off ho => by
            have hg := R.vr g (by omega)
            simp only [World.cell?, World.alloc, Array.getElem?_push]; rw [if_neg (by omega)]) (fun _ => Nat.le_refl _) (by simp) (by simp) (fun _ _ => rfl)
        · rw [hK']
          simp only [if_true]
          exact Nat.eq_zero_of_not_pos fun hp => by have := R.vr _ hp; omega
      · simp only [execOp, hop, ex, ey, Sem.run_bind, hrun]; rfl
    · cases h
  · cases h
end Evl
