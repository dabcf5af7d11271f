/- Local memory: both machines do the same. No condition. -/
import Derived.Test.YtpjeibdllddkjaaEvi
import Derived.Laws.IdiomCopy
namespace Evl
open Go

variable {P : Program} {H : Hints} {fid : FuncId} {N : Nat} {w0 w w' : World} {M : Nat → Prop} {V0 V V' : Nat → Nat} {K K' : Nat → Nat × Nat} {O O' : Nat → Option Loc} {s : S} {a : Act} {fp : List Nat} {v : Value}

theorem oc_one {v : Value} (h : oc v = true) : v.oneCell' = true := by cases v <;> simp_all [oc, Value.oneCell']

/-! reading -/
theorem tagg_run {t : TypeId} {g : Bool} (h : tagg P t = some g) (w : World) : (isAgg t).run P w = .ok g w := by
  unfold tagg at h
  simp only [Option.map_eq_some_iff] at h
  obtain ⟨d, hd, hg⟩ := h
  cases d <;> simp_all [isAgg, underlying]

theorem run_loadVar_agg {t k : Nat} (ht : tagg P t = some true) (hk : tsize P t = some k) (b o : Nat) (vs : List Value) (hl : vs.length = k) (hc : ∀ (j : Nat) (v : Value), vs[j]? = some v → w.cell? ⟨b, o + j, none⟩ = some v) :
    (loadVar t ⟨b, o, none⟩).run P w = .ok (.agg vs.toArray) w := by
  obtain ⟨i, hi, hs⟩ := info_of hk
  have := run_loadCells_list (P := P) (w := w) ⟨b, o, none⟩ vs (fun j v hj => by rw [add_none]; exact hc j v hj)
  subst hl
  simp [loadVar, tagg_run ht, Go.sizeOf, Go.typeInfo, hi, hs, this]
theorem run_loadVar_one {t : Nat} (ht : tagg P t = some false) (b o : Nat) (v : Value) (hc : w.cell? ⟨b, o, none⟩ = some v) :
    (loadVar t ⟨b, o, none⟩).run P w = .ok v w := by
  simp [loadVar, tagg_run ht, hc]

/-! writing -/
/-- A row of a block, after a store. -/
def splice (arr : Array Value) (o : Nat) (vs : List Value) : Array Value := (arr.toList.take o ++ vs ++ arr.toList.drop (o + vs.length)).toArray
def putRow (w : World) (g : Nat) (arr : Array Value) (T : TypeId) (fz : Nat × Nat) : World := { w with heap := w.heap.setIfInBounds g (.cells arr T fz) }

theorem run_storeCells {g : Nat} {T : TypeId} {fz : Nat × Nat} : ∀ (vs : List Value) (o i : Nat) (arr : Array Value) (w : World), w.heap[g]? = some (.cells arr T fz) → thawed arr fz → (∀ v ∈ vs, oc v = true) → o + i + vs.length ≤ arr.size →
    (storeCells ⟨g, o, none⟩ vs i).run P w = .ok () (putRow w g (splice arr (o + i) vs) T fz) := by
  intro vs
  induction vs with
  | nil =>
    intro o i arr w hg ht ho hl
    have : splice arr (o + i) [] = arr := by simp [splice]
    rw [this]
    have hw : putRow w g arr T fz = w := by
      unfold putRow
      have : w.heap.setIfInBounds g (.cells arr T fz) = w.heap := by
        apply Array.ext_getElem?
        intro j
        rw [Array.getElem?_setIfInBounds]
        split
        · rename_i e; subst e
          split
          · rw [hg]
          · rename_i h; exact absurd (lt_of_heap hg) h
        · rfl
      rw [this]
    rw [hw]; simp [storeCells]
  | cons v vs ih =>
    intro o i arr w hg ht ho hl
    have hv : v.oneCell' = true := oc_one (ho v (by simp))
    have hlt : o + i < arr.size := by simp at hl; omega
    have hc : w.cell? ⟨g, o + i, none⟩ = some arr[o + i] := by rw [cell_of_heap hg]; simp [hlt]
    have hf : w.frozen? ⟨g, o + i, none⟩ = false := by
      simp only [World.frozen?, hg]
      have := ht.not _ hlt
      simpa using this
    simp only [storeCells, Sem.run_bind]
    have h1 : (store ((⟨g, o, none⟩ : Addr).add i) v).run P w = .ok () (w.setCell ⟨g, o + i, none⟩ v) := by
      rw [add_none]
      have := run_store P w ⟨g, o + i, none⟩ v .plain hv
      rw [this]; simp [hc, hf]
    rw [h1]
    simp only [Result.andThen_ok]
    have hg' : (w.setCell ⟨g, o + i, none⟩ v).heap[g]? = some (.cells (arr.setIfInBounds (o + i) v) T fz) := by
      simp [World.setCell, Array.getElem?_modify, hg]
    rw [ih o (i + 1) _ _ hg' (by unfold thawed; rw [Array.size_setIfInBounds]; exact ht) (fun u hu => ho u (by simp [hu])) (by simp at hl ⊢; omega)]
    congr 1
    have e1 : splice (arr.setIfInBounds (o + i) v) (o + (i + 1)) vs = splice arr (o + i) (v :: vs) := by
      unfold splice
      apply Array.ext'
      simp only [Array.toList_setIfInBounds]
      have hl' : o + i < arr.toList.length := by simpa using hlt
      rw [List.take_set, List.drop_set_of_lt (by omega)]
      rw [← Nat.add_assoc, List.take_succ_eq_append_getElem hl']
      rw [List.set_append]
      simp only [List.length_take, Nat.min_eq_left (Nat.le_of_lt hl'), Nat.lt_irrefl, if_false, Nat.sub_self, List.set_cons_zero]
      simp [Nat.add_assoc, Nat.add_comm, Nat.add_left_comm]
    rw [e1]
    unfold putRow World.setCell
    congr 1
    apply Array.ext_getElem?
    intro j
    simp only [Array.getElem?_setIfInBounds, Array.getElem?_modify, Array.size_modify]
    split
    · rfl
    · rfl

theorem run_storeVar {t k g o : Nat} {T : TypeId} {fz : Nat × Nat} {arr : Array Value} (hk : tsize P t = some k) (v : Value) (vs : List Value) (hv : v.cells = vs.toArray) (hl : vs.length = k) (hg : w.heap[g]? = some (.cells arr T fz)) (ht : thawed arr fz) (ho : ∀ v ∈ vs, oc v = true) (hb : o + vs.length ≤ arr.size) :
    (storeVar t ⟨g, o, none⟩ v).run P w = .ok () (putRow w g (splice arr o vs) T fz) := by
  obtain ⟨i, hi, hs⟩ := info_of hk
  have := run_storeCells (P := P) vs o 0 arr w hg ht ho (by simpa using hb)
  simp only [Nat.add_zero] at this
  subst hl
  simp [storeVar, hv, Go.sizeOf, Go.typeInfo, hi, hs, this]

theorem splice_size (arr : Array Value) (o : Nat) (vs : List Value) (h : o + vs.length ≤ arr.size) : (splice arr o vs).size = arr.size := by
  simp [splice]; omega
theorem putRow_same {g : Nat} {ob : Obj} (h : w.heap[g]? = some ob) (arr : Array Value) (T : TypeId) (fz : Nat × Nat) : (putRow w g arr T fz).heap[g]? = some (.cells arr T fz) := by
  have := lt_of_heap h
  simp [putRow, this]
theorem putRow_other {g g' : Nat} (h : g' ≠ g) (arr : Array Value) (T : TypeId) (fz : Nat × Nat) : (putRow w g arr T fz).heap[g']? = w.heap[g']? := by
  simp only [putRow, Array.getElem?_setIfInBounds]
  rw [if_neg (fun e => h e.symm)]
theorem putRow_size (g : Nat) (arr : Array Value) (T : TypeId) (fz : Nat × Nat) : (putRow w g arr T fz).heap.size = w.heap.size := by simp [putRow]

/-- The cells of what stands in a slot. -/
theorem cells_rep {x : AV} {cs : List AV} (h : RepV V w K fp v x) (hc : cellsOf x = some cs) : ∃ us : List Value, v.cells = us.toArray ∧ Rep V w K true fp us cs ∧ (x = .agg cs ∧ v = .agg us.toArray ∨ ∃ c u, cs = [c] ∧ us = [u] ∧ v = u ∧ x = c ∧ oc u = true) := by
  cases x with
  | agg ds =>
    cases hc
    obtain ⟨us, rfl, r⟩ := inv_agg h
    exact ⟨us, rfl, r, .inl ⟨rfl, rfl⟩⟩
  | lit u =>
    cases hc
    obtain ⟨rfl, rfl, hp⟩ := inv_lit h
    exact ⟨[v], by cases v <;> simp_all [plain, Value.cells], .lit hp .nil, .inr ⟨_, _, rfl, rfl, rfl, rfl, plain_oc hp⟩⟩
  | nil =>
    cases hc
    obtain ⟨rfl, rfl⟩ := inv_nil h
    exact ⟨[_], rfl, .nl .nil, .inr ⟨_, _, rfl, rfl, rfl, rfl, rfl⟩⟩
  | sl o z n ds =>
    cases hc
    obtain ⟨rfl, -⟩ | ⟨ad, cap, rfl, -⟩ | ⟨ab, ao, cap, vs, rfl, -⟩ := inv_sl h
    · exact ⟨[_], rfl, inv_one h (.inl ⟨_, _, _, _, rfl⟩), .inr ⟨_, _, rfl, rfl, rfl, rfl, rfl⟩⟩
    · exact ⟨[_], rfl, inv_one h (.inl ⟨_, _, _, _, rfl⟩), .inr ⟨_, _, rfl, rfl, rfl, rfl, rfl⟩⟩
    exact ⟨[_], rfl, inv_one h (.inl ⟨_, _, _, _, rfl⟩), .inr ⟨_, _, rfl, rfl, rfl, rfl, rfl⟩⟩
  | msl b n =>
    cases hc
    obtain ⟨rfl, ⟨rfl, -⟩ | ⟨cap, rfl, -⟩⟩ := inv_msl h
    · exact ⟨[_], rfl, inv_one h (.inr ⟨_, _, rfl⟩), .inr ⟨_, _, rfl, rfl, rfl, rfl, rfl⟩⟩
    exact ⟨[_], rfl, inv_one h (.inr ⟨_, _, rfl⟩), .inr ⟨_, _, rfl, rfl, rfl, rfl, rfl⟩⟩
  | _ => cases hc

/-! a new box -/
theorem newBox (R : RelG N w0 M V0 K V O s a w) (o : Oper) {d : Nat} (hdst : o.dst = some d) (hd : d < N) (hk : d < 1000) (x : Operand) (us : List Value) (cs : List AV) (T : TypeId) {fp : List Nat} (hn : fp.Nodup) (ho : ∀ t, x = .tmp t → ∀ g ∈ fp, O g = some (true, t)) (he : (∀ t, x ≠ .tmp t) → fp = [])
    (hw : hasOwn (s.ev x) = false → fp = []) (h : Rep V w K true fp us cs) (hr : (execOp a.eval o).run P w = .ok (.value (.pointer (some ⟨w.heap.size, 0, none⟩))) (w.alloc (.cells us.toArray T))) :
    Step1 P N w0 M V0 K o (({ val := .ptr d 0, set := given x (s.ev x), kl := [d], put := [(d, ⟨true, 0, killL d cs⟩)] } : Eff).apply o.dst s) a w := by
  let K' : Nat → Nat × Nat := fun b => if b = d then (w.heap.size, 0) else K b
  have hK : ∀ b, b ∉ [d] → K' b = K b := fun b hb => by simp at hb; simp [K', hb]
  have hV : ∀ g, w.heap.size ≤ g → V g = 0 := fun g hg => Nat.eq_zero_of_not_pos fun hp => by have := R.vr g hp; omega
  have hold : ∀ g, g < w.heap.size → (w.alloc (.cells us.toArray T)).heap[g]? = w.heap[g]? := fun g hg => by
    simp only [World.alloc, Array.getElem?_push]; rw [if_neg (by omega)]
  have hnx : Next V V w (w.alloc (.cells us.toArray T)) := ⟨fun g off ho => by
      have hg := R.vr g (by omega)
      simp only [World.cell?, hold g hg], fun _ => Nat.le_refl _, by simp⟩
  have hlt : ∀ g ∈ fp, g < w.heap.size := fun g hg => by
    cases x with
    | tmp t => exact (R.rg g _ (ho t rfl g hg)).2
    | _ => rw [he (by intro t e; cases e)] at hg; cases hg
  refine ⟨_, _, K', V, fun g => if g = w.heap.size ∨ g ∈ fp then some (false, d) else if O g = some (true, d) ∨ O g = some (false, d) then none else O g, .inl hr, ?_, fun b hb => by simp only [K']; rw [if_neg (by omega)]⟩
  rw [hdst]
  refine R.apply _ (some d) _ (fun d' h => by cases h; exact hd) hnx hK ?_ ?_ ?_ ?_ ?_ ?_ ?_ (fun _ _ _ => rfl)
  · intro g l hl ht hb
    have hg := (R.rg g l hl).2
    refine ⟨hold g hg, rfl, ?_⟩
    have hgf : ¬(g = w.heap.size ∨ g ∈ fp) := by
      rintro (e | hg')
      · omega
      · cases x with
        | tmp t =>
          have e := ho t rfl g hg'
          rw [hl] at e; cases e
          have := (ht t rfl).2
          simp only [given] at this
          split at this
          · simp [lookup] at this
          · rename_i hh; rw [hw (by simpa using hh)] at hg'; cases hg'
        | _ => rw [he (by intro t e; cases e)] at hg'; cases hg'
    rw [if_neg hgf, if_neg ?_]; exact hl
    rw [hl]; rintro (e | e)
    · cases e; exact (ht d rfl).1 rfl
    · cases e; have := (hb d rfl).1; simp [lookup] at this
  · intro t z hne hl
    cases x with
    | tmp t' =>
      simp only [given] at hl
      split at hl
      · simp only [lookup] at hl
        split at hl
        · rename_i e; subst e; cases hl
          obtain ⟨fq, h1, h2, h3⟩ := R.tm t'
          exact ⟨[], List.nodup_nil, by simp, h3.share.next hnx (by simp) [d] hK⟩
        · cases hl
      · simp [lookup] at hl
    | _ => simp [given, lookup] at hl
  · intro d' e; cases e
    refine ⟨[], List.nodup_nil, by simp, ?_⟩
    have := RepP.ptr (V := V) (w := w.alloc (.cells us.toArray T)) (K := K') d 0
    simp only [K', if_true] at this
    exact .u (.p this)
  · intro b y hl
    simp only [lookup] at hl
    split at hl
    · rename_i e; subst e; cases hl
      have hKd : K' d = (w.heap.size, 0) := by simp [K']
      refine .inr ⟨fp, us.toArray, T, (0, 0), us, ?_, ?_, ?_⟩
      · rw [hKd]; exact List.nodup_cons.2 ⟨fun hm => by have := hlt _ hm; omega, hn⟩
      · rw [hKd]; intro g hg
        refine if_pos ?_
        rcases List.mem_cons.1 hg with rfl | hg
        · exact .inl rfl
        · exact .inr hg
      · refine ⟨?_, ?_, ?_, ?_, ?_, ?_, ?_⟩
        · rw [hKd]; show (w.heap.push _)[w.heap.size]? = _; simp
        · exact .inl rfl
        · intro j v hj; simpa using hj
        · exact h.next hnx (fun g hg => ⟨hold g (hlt g hg), rfl⟩) [d] hK
        · rw [hKd]; simp [hV w.heap.size (Nat.le_refl _)]
        · intro _; exact ⟨by simp, rfl⟩
        · intro hz; exact absurd rfl hz
    · cases hl
  · intro g l hl
    split at hl
    · rename_i hg
      rcases hg with rfl | hg
      · exact ⟨.inl R.fr.sz, by simp⟩
      · refine ⟨?_, by have := hlt g hg; simp; omega⟩
        cases x with
        | tmp t => exact (R.rg g _ (ho t rfl g hg)).1
        | _ => rw [he (by intro t e; cases e)] at hg; cases hg
    · split at hl
      · cases hl
      · have := R.rg g l hl; exact ⟨this.1, by simp; omega⟩
  · intro g hg; have := R.vr g hg; simp; omega
  · refine ⟨R.fr.os, R.fr.tape, R.fr.output, by have := R.fr.sz; simp; omega, fun g hg hm => ?_⟩
    rw [hold g (by have := R.fr.sz; omega)]; exact R.fr.old g hg hm

theorem tzero_of {t : TypeId} {z : List AV} (h : tzero P t = some z) : ∃ i zv, P.info? t = some i ∧ i.zero = some zv ∧ z = zv.cells.toList.map ofValue ∧ ∀ v ∈ zv.cells.toList, oc v = true := by
  simp only [tzero, Option.bind_eq_some_iff, Option.ite_none_right_eq_some, Option.some.injEq] at h
  obtain ⟨zv, ⟨i, hi, hz⟩, ha, e⟩ := h
  exact ⟨i, zv, hi, hz, e.symm, List.all_eq_true.1 ha⟩

theorem kill_ofValue (d : Nat) (v : Value) : kill d (ofValue v) = ofValue v := by
  unfold ofValue; split <;> rfl
theorem killL_ofValue (d : Nat) : ∀ l : List Value, killL d (l.map ofValue) = l.map ofValue
  | [] => rfl
  | v :: l => by simp [killL, kill_ofValue, killL_ofValue d l]

theorem rep_of_values {V w K m} : ∀ l : List Value, (∀ v ∈ l, oc v = true) → Rep V w K m [] l (l.map ofValue) := by
  intro l; induction l with
  | nil => intro _; exact .nil
  | cons v l ih =>
    intro h
    have h1 : Rep V w K m [] [v] [ofValue v] := by
      unfold ofValue; split
      · exact .lit rfl .nil
      · exact .lit rfl .nil
      · exact .lit rfl .nil
      · exact .lit rfl .nil
      · exact .nl .nil
      · exact .bd _ (h _ (by simp)) .nil
    exact h1.app (ih fun u hu => h u (by simp [hu]))

theorem sound_alloc (R : RelG N w0 M V0 K V O s a w) (o : Oper) (hd : ∀ d, o.dst = some d → d < N) {e : Eff} (h : opE P H fid o s = some e) (hk : e.kl.all (· < 1000) = true) {t} (hop : o.op = .alloc t) :
    Step1 P N w0 M V0 K o (e.apply o.dst s) a w := by
  simp only [opE, hop] at h
  split at h
  · rename_i d z k hdst hzz hs
    simp only [Option.ite_none_right_eq_some, Option.some.injEq] at h
    obtain ⟨hl, rfl⟩ := h
    obtain ⟨i, zv, hi, hz', rfl, hz⟩ := tzero_of hzz
    have hr := rep_of_values (V := V) (w := w) (K := K) (m := true) zv.cells.toList hz
    have := newBox (P := P) R o hdst (hd d hdst) (by simpa using hk) (.const (.bool false)) zv.cells.toList _ t (fp := []) List.nodup_nil (by simp) (fun _ => rfl) (fun _ => rfl) hr (by
      simp [execOp, hop, Instr.alloc, zeroValue, Go.typeInfo, hi, hz', newVar, newRow])
    rw [killL_ofValue] at this
    exact this
  · cases h

theorem sound_box (R : RelG N w0 M V0 K V O s a w) (o : Oper) (hd : ∀ d, o.dst = some d → d < N) {e : Eff} (h : opE P H fid o s = some e) (hk : e.kl.all (· < 1000) = true) {t x} (hop : o.op = .box t x) :
    Step1 P N w0 M V0 K o (e.apply o.dst s) a w := by
  simp only [opE, hop] at h
  split at h
  · rename_i d cs k hdst hc hs
    simp only [Option.ite_none_right_eq_some, Option.some.injEq] at h
    obtain ⟨hl, rfl⟩ := h
    obtain ⟨fp, h1, h2, h3, h4⟩ := R.ev x
    obtain ⟨us, hv, hr, -⟩ := cells_rep h4 hc
    refine newBox (P := P) R o hdst (hd d hdst) (by simpa using hk) x us cs t h1 h2 h3 (ownless_v h4) hr ?_
    simp [execOp, hop, Instr.box, newVar, newRow, hv]
  · cases h

end Evl
