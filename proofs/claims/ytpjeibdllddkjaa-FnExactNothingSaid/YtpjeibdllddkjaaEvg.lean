/- Addresses, elements, lengths: both machines do the same. No condition. -/
import Derived.Test.YtpjeibdllddkjaaEvf
namespace Evl
open Go

variable {P : Program} {H : Hints} {fid : FuncId} {N : Nat} {w0 w w' : World} {M : Nat → Prop} {V0 V V' : Nat → Nat} {K K' : Nat → Nat × Nat} {O O' : Nat → Option Loc} {s : S} {a : Act} {fp : List Nat} {v : Value}

theorem add_none (b o n : Nat) : (⟨b, o, none⟩ : Addr).add n = ⟨b, o + n, none⟩ := by
  unfold Addr.add; split <;> simp_all

theorem shareL_drop : ∀ (n : Nat) (cs : List AV), shareL (cs.drop n) = (shareL cs).drop n
  | 0, _ => rfl
  | _ + 1, [] => rfl
  | n + 1, c :: cs => by simpa [shareL] using shareL_drop n cs
theorem shareL_take : ∀ (n : Nat) (cs : List AV), shareL (cs.take n) = (shareL cs).take n
  | 0, _ => rfl
  | _ + 1, [] => rfl
  | n + 1, c :: cs => by simpa [shareL] using shareL_take n cs

/-- From a place in a row on. -/
theorem RepP.drop {ab ao : Nat} {vs : List Value} {cs : List AV} (k : Nat) (hk : k ≤ cs.length) (h2 : ∀ (j : Nat) (v : Value), vs[j]? = some v → w.cell? ⟨ab, ao + j, none⟩ = some v) (h3 : ao + vs.length ≤ V ab) (h4 : ab < w.heap.size) (h5 : Rep V w K false [] vs cs) :
    RepV V w K [] (.pointer (some ⟨ab, ao + k, none⟩)) (.cptr (cs.drop k)) := by
  obtain ⟨p1, p2, u1, u2, hp, rfl, r1, r2⟩ := Rep.split (cs.take k) (cs₂ := cs.drop k) (by rw [List.take_append_drop]; exact h5)
  have hu1 : u1.length = k := by rw [r1.len, List.length_take]; omega
  obtain ⟨rfl, rfl⟩ : p1 = [] ∧ p2 = [] := by simpa using hp.symm
  refine .u (.p (.cptr ⟨ab, ao + k, none⟩ u2 rfl (fun j v hj => ?_) ?_ h4 r2))
  · have := h2 (k + j) v (by rw [List.getElem?_append_right (by omega)]; rw [← hj]; congr 1; omega)
    rw [← this]; simp [Nat.add_assoc]
  · simp only [List.length_append, hu1] at h3 ⊢; omega

/-- A slice that is not nil, as something that is looked at. -/
theorem inv_sl {o : Bool} {sz n : Nat} {cs : List AV} (h : RepV V w K fp v (.sl o sz n cs)) : (v = .slice none 0 0 ∧ n = 0 ∧ cs = []) ∨ (∃ (ad : Addr) (cap : Nat), v = .slice (some ad) 0 cap ∧ n = 0 ∧ cs = []) ∨ ∃ (ab ao cap : Nat) (vs : List Value), v = .slice (some ⟨ab, ao, none⟩) n cap ∧ n ≤ cap ∧ (∀ (j : Nat) (v : Value), vs[j]? = some v → w.cell? ⟨ab, ao + j, none⟩ = some v) ∧ ao + vs.length ≤ V ab ∧ ab < w.heap.size ∧ Rep V w K false [] vs (if o then shareL cs else cs) := by
  have := inv_one h (.inl ⟨_, _, _, _, rfl⟩)
  cases this with
  | ns h => cases h; exact .inl ⟨rfl, rfl, rfl⟩
  | on h => cases h; exact .inl ⟨rfl, rfl, rfl⟩
  | sh ad vs h1 h2 h3 h6 h7 =>
    cases h7
    rcases h2 with ⟨rfl, rfl⟩ | ⟨h2, h4, h5⟩
    · cases h6
      exact .inr (.inl ⟨ad, _, rfl, rfl, rfl⟩)
    obtain ⟨ab, ao, as⟩ := ad
    obtain rfl : as = none := h2
    exact .inr (.inr ⟨ab, ao, _, vs, rfl, h1, h3, h4, h5, by simpa using h6⟩)
  | ow g T arr fz vs h1 h2 h3 h4 h5 h6 h7 h8 h9 h10 =>
    cases h10
    refine .inr (.inr ?_)
    exact ⟨g, 0, _, vs, rfl, h1, fun j v hj => by rw [Nat.zero_add, cell_of_heap h2]; exact h7 j v hj, by simp [h8], lt_of_heap h2, by simpa using h9.share⟩

theorem tarr_of {t n z : Nat} (h : tarr P t = some (n, z)) : ∃ e i, P.underlying t = some (.array n e) ∧ P.info? e = some i ∧ i.size = z := by
  unfold tarr at h
  split at h
  · rename_i n' e he
    simp only [Option.map_eq_some_iff, Prod.mk.injEq] at h
    obtain ⟨k, hk, rfl, rfl⟩ := h
    obtain ⟨i, hi, hs⟩ := info_of hk
    exact ⟨e, i, he, hi, hs⟩
  · cases h
theorem tslice_of {t e z b : Nat} (h : tslice P t = some (e, z, b)) : ∃ i, P.underlying t = some (.slice e) ∧ P.info? e = some i ∧ i.size = z ∧ i.bytes = b := by
  unfold tslice at h
  split at h
  · rename_i e' he
    split at h
    · rename_i z' b' hz hb
      cases h
      obtain ⟨i, hi, hs⟩ := info_of hz
      simp only [tbytes, hi, Option.map_some, Option.some.injEq] at hb
      exact ⟨i, he, hi, hs, hb⟩
    · cases h
  · cases h
theorem tarr_none {t e z b : Nat} (h : tslice P t = some (e, z, b)) : ∃ i, P.underlying t = some (.slice e) ∧ P.info? e = some i ∧ i.size = z ∧ i.bytes = b := tslice_of h

theorem run_index_arr {t n z : Nat} (h : tarr P t = some (n, z)) (b o : Nat) (k : IntKind) (j : Int) (h0 : 0 ≤ j) (h1 : j < n) (w : World) :
    (Instr.indexAt t (.pointer (some ⟨b, o, none⟩)) (.int k j)).run P w = .ok (.pointer (some ⟨b, o + j.toNat * z, none⟩)) w := by
  obtain ⟨e, i, hu, hi, hs⟩ := tarr_of h
  simp [Instr.indexAt, asIntOf, underlying, hu, Instr.sureAddr, Go.sizeOf, Go.typeInfo, hi, hs, h0, h1, add_none]
theorem run_index_sl {t e z by' : Nat} (h : tslice P t = some (e, z, by')) (b o : Nat) (n cap : Nat) (k : IntKind) (j : Int) (h0 : 0 ≤ j) (h1 : j < n) (w : World) :
    (Instr.indexAt t (.slice (some ⟨b, o, none⟩) n cap) (.int k j)).run P w = .ok (.pointer (some ⟨b, o + j.toNat * z, none⟩)) w := by
  obtain ⟨i, hu, hi, hs, -⟩ := tslice_of h
  simp [Instr.indexAt, asIntOf, underlying, hu, Go.sizeOf, Go.typeInfo, hi, hs, h0, h1, add_none]

theorem sound_indexAddr (R : RelG N w0 M V0 K V O s a w) (o : Oper) (hd : ∀ d, o.dst = some d → d < N) {e : Eff} (h : opE P H fid o s = some e) {t x i} (hop : o.op = .indexAddr t x i) :
    Step1 P N w0 M V0 K o (e.apply o.dst s) a w := by
  simp only [opE, hop] at h
  obtain ⟨f1, _, _, _, h1⟩ := R.ev x
  obtain ⟨f2, _, _, _, h2⟩ := R.ev i
  split at h
  · rename_i k j hj
    rw [hj] at h2
    obtain ⟨e2, -, -⟩ := inv_lit h2
    split at h
    · rename_i b q n z hx ht
      simp only [Option.ite_none_right_eq_some, Option.some.injEq] at h
      obtain ⟨⟨g1, g2⟩, rfl⟩ := h
      rw [hx] at h1
      obtain ⟨e1, rfl⟩ := inv_ptr h1
      refine step_pure R o hd _ _ [] ?_ (.u (.p (.ptr b (q + j.toNat * z))))
      simp only [execOp, hop, e1, e2, Sem.run_bind, run_index_arr ht _ _ _ _ g1 g2]; rfl
    · rename_i cs n z hx ht
      simp only [Option.ite_none_right_eq_some, Option.some.injEq] at h
      obtain ⟨⟨g1, g2, g3⟩, rfl⟩ := h
      rw [hx] at h1
      obtain ⟨⟨ab, ao, as⟩, vs, e1, rfl, q1, q2, q3, q4, q5⟩ := inv_cptr h1
      obtain rfl : as = none := q1
      refine step_pure R o hd _ _ [] ?_ (RepP.drop _ g3 q2 q3 q4 q5)
      simp only [execOp, hop, e1, e2, Sem.run_bind, run_index_arr ht _ _ _ _ g1 g2]; rfl
    · rename_i z n cs el z' bb hx hq0 ht
      simp only [Option.ite_none_right_eq_some, Option.some.injEq] at h
      obtain ⟨⟨rfl, g1, g2, g3⟩, rfl⟩ := h
      rw [hx] at h1
      obtain ⟨-, e, -⟩ | ⟨ad, cap, -, e, -⟩ | ⟨ab, ao, cap, vs, e1, hc, q2, q3, q4, q5⟩ := inv_sl h1
      · omega
      · omega
      simp only [if_true] at q5
      rw [shareL_drop]
      refine step_pure R o hd _ _ [] ?_ (RepP.drop _ (by rw [shareL_length]; exact g3) q2 q3 q4 q5)
      simp only [execOp, hop, e1, e2, Sem.run_bind, run_index_sl ht _ _ _ _ _ _ g1 g2]; rfl
    · rename_i z n cs el z' bb hx hq0 ht
      simp only [Option.ite_none_right_eq_some, Option.some.injEq] at h
      obtain ⟨⟨rfl, g1, g2, g3⟩, rfl⟩ := h
      rw [hx] at h1
      obtain ⟨-, e, -⟩ | ⟨ad, cap, -, e, -⟩ | ⟨ab, ao, cap, vs, e1, hc, q2, q3, q4, q5⟩ := inv_sl h1
      · omega
      · omega
      simp only [Bool.false_eq_true, if_false] at q5
      refine step_pure R o hd _ _ [] ?_ (RepP.drop _ g3 q2 q3 q4 q5)
      simp only [execOp, hop, e1, e2, Sem.run_bind, run_index_sl ht _ _ _ _ _ _ g1 g2]; rfl
    · rename_i b n el z' bb hx hq0 ht
      split at h
      · rename_i r hr
        simp only [Option.ite_none_right_eq_some, Option.some.injEq] at h
        obtain ⟨⟨_, g1, g2⟩, rfl⟩ := h
        rw [hx] at h1
        obtain ⟨rfl, ⟨-, e, -⟩ | ⟨cap, e1, h0, hn⟩⟩ := inv_msl h1
        · omega
        refine step_pure R o hd _ _ [b] ?_ (.u (.p (.ptr b (j.toNat * z'))))
        simp only [execOp, hop, e1, e2, Sem.run_bind, run_index_sl ht _ _ _ _ _ _ g1 g2, Nat.zero_add]; rfl
      · cases h
    · cases h
  · cases h

theorem sound_index (R : RelG N w0 M V0 K V O s a w) (o : Oper) (hd : ∀ d, o.dst = some d → d < N) {e : Eff} (h : opE P H fid o s = some e) {t x i} (hop : o.op = .index t x i) :
    Step1 P N w0 M V0 K o (e.apply o.dst s) a w := by
  simp only [opE, hop] at h
  obtain ⟨f1, _, _, _, h1⟩ := R.ev x
  obtain ⟨f2, _, _, _, h2⟩ := R.ev i
  split at h
  · rename_i st k j hx hj
    rw [hx] at h1; rw [hj] at h2
    obtain ⟨e1, -, -⟩ := inv_lit h1
    obtain ⟨e2, -, -⟩ := inv_lit h2
    split at h
    · rename_i hb
      simp only [Option.ite_none_right_eq_some, Option.some.injEq] at h
      obtain ⟨ht, rfl⟩ := h
      refine step_pure R o hd _ _ [] ?_ (.lit rfl)
      unfold tstr at ht
      split at ht
      · rename_i hu
        have : st[j.toNat]? = some (st[j.toNat]'hb.2) := by simp [hb.2]
        simp [execOp, hop, e1, e2, Instr.index, asIntOf, underlying, hu, hb.1, this]
      · cases ht
    · cases h
  · cases h

theorem foldl_max {k : IntKind} {x : Int} : ∀ (l : List AV) (vs : List Value), (∀ (j : Nat) c, l[j]? = some c → ∃ v, vs[j]? = some v ∧ ∀ u, c = .lit u → v = u) → l.length = vs.length → ∀ (k0 : IntKind) (x0 : Int), maxInts (.lit (.int k0 x0) :: l) = some (k, x) → ∀ w, (vs.foldlM Builtin.max2 (.int k0 x0)).run P w = .ok (.int k x) w := by
  intro l
  induction l with
  | nil =>
    intro vs _ hl k0 x0 h w
    cases vs with
    | nil => simp [maxInts] at h; obtain ⟨rfl, rfl⟩ := h; simp [List.foldlM]
    | cons _ _ => simp at hl
  | cons c l ih =>
    intro vs hv hl k0 x0 h w
    cases vs with
    | nil => simp at hl
    | cons v vs =>
      unfold maxInts at h
      split at h
      · simp_all
      · simp_all
      · rename_i k1 y1 k2 y2 rest e
        simp only [List.cons.injEq, AV.lit.injEq, Value.int.injEq] at e
        obtain ⟨⟨rfl, rfl⟩, rfl, rfl⟩ := e
        simp only [Option.ite_none_right_eq_some] at h
        obtain ⟨rfl, h⟩ := h
        obtain ⟨v', hv', hc⟩ := hv 0 _ rfl
        simp only [List.getElem?_cons_zero, Option.some.injEq] at hv'; subst hv'
        obtain rfl := hc _ rfl
        simp only [List.foldlM, Sem.run_bind, Builtin.max2, Sem.run_pure, Result.andThen_ok]
        exact ih vs (fun j c hj => hv (j + 1) c hj) (by simpa using hl) _ _ h w
      · cases h

theorem foldl_min {k : IntKind} {x : Int} : ∀ (l : List AV) (vs : List Value), (∀ (j : Nat) c, l[j]? = some c → ∃ v, vs[j]? = some v ∧ ∀ u, c = .lit u → v = u) → l.length = vs.length → ∀ (k0 : IntKind) (x0 : Int), minInts (.lit (.int k0 x0) :: l) = some (k, x) → ∀ w, (vs.foldlM Builtin.min2 (.int k0 x0)).run P w = .ok (.int k x) w := by
  intro l
  induction l with
  | nil =>
    intro vs _ hl k0 x0 h w
    cases vs with
    | nil => simp [minInts] at h; obtain ⟨rfl, rfl⟩ := h; simp [List.foldlM]
    | cons _ _ => simp at hl
  | cons c l ih =>
    intro vs hv hl k0 x0 h w
    cases vs with
    | nil => simp at hl
    | cons v vs =>
      unfold minInts at h
      split at h
      · simp_all
      · simp_all
      · rename_i k1 y1 k2 y2 rest e
        simp only [List.cons.injEq, AV.lit.injEq, Value.int.injEq] at e
        obtain ⟨⟨rfl, rfl⟩, rfl, rfl⟩ := e
        simp only [Option.ite_none_right_eq_some] at h
        obtain ⟨rfl, h⟩ := h
        obtain ⟨v', hv', hc⟩ := hv 0 _ rfl
        simp only [List.getElem?_cons_zero, Option.some.injEq] at hv'; subst hv'
        obtain rfl := hc _ rfl
        simp only [List.foldlM, Sem.run_bind, Builtin.min2, Sem.run_pure, Result.andThen_ok]
        exact ih vs (fun j c hj => hv (j + 1) c hj) (by simpa using hl) _ _ h w
      · cases h

theorem args_ev (R : RelG N w0 M V0 K V O s a w) (l : List Operand) : ∀ (j : Nat) c, (l.map s.ev)[j]? = some c → ∃ v, (l.map a.eval)[j]? = some v ∧ ∀ u, c = .lit u → v = u := by
  intro j c hj
  simp only [List.getElem?_map, Option.map_eq_some_iff] at hj ⊢
  obtain ⟨x, hx, rfl⟩ := hj
  refine ⟨_, ⟨x, hx, rfl⟩, fun u hu => ?_⟩
  obtain ⟨f, _, _, _, h⟩ := R.ev x
  rw [hu] at h
  exact (inv_lit h).1

theorem run_max (R : RelG N w0 M V0 K V O s a w) (l : List Operand) {k x} (h : maxInts (l.map s.ev) = some (k, x)) (ts : Array TypeId) (t : TypeId) : (Builtin.max_ ts t ((l.map a.eval).toArray)).run P w = .ok (.int k x) w := by
  cases l with
  | nil => simp [maxInts] at h
  | cons y l =>
    have h0 := args_ev R (y :: l) 0 (s.ev y) rfl
    obtain ⟨v, hv, hc⟩ := h0
    simp only [List.map_cons] at h hv
    simp only [List.getElem?_cons_zero, Option.some.injEq] at hv
    have : ∃ k0 x0, s.ev y = .lit (.int k0 x0) := by
      unfold maxInts at h; split at h <;> simp_all
    obtain ⟨k0, x0, hy⟩ := this
    have hv' := hc _ hy
    rw [hy] at h
    simp only [Builtin.max_, List.map_cons]
    rw [hv, hv']
    exact foldl_max _ _ (fun j c hj => args_ev R l j c hj) (by simp) k0 x0 h w
theorem run_min (R : RelG N w0 M V0 K V O s a w) (l : List Operand) {k x} (h : minInts (l.map s.ev) = some (k, x)) (ts : Array TypeId) (t : TypeId) : (Builtin.min_ ts t ((l.map a.eval).toArray)).run P w = .ok (.int k x) w := by
  cases l with
  | nil => simp [minInts] at h
  | cons y l =>
    have h0 := args_ev R (y :: l) 0 (s.ev y) rfl
    obtain ⟨v, hv, hc⟩ := h0
    simp only [List.map_cons] at h hv
    simp only [List.getElem?_cons_zero, Option.some.injEq] at hv
    have : ∃ k0 x0, s.ev y = .lit (.int k0 x0) := by
      unfold minInts at h; split at h <;> simp_all
    obtain ⟨k0, x0, hy⟩ := this
    have hv' := hc _ hy
    rw [hy] at h
    simp only [Builtin.min_, List.map_cons]
    rw [hv, hv']
    exact foldl_min _ _ (fun j c hj => args_ev R l j c hj) (by simp) k0 x0 h w

end Evl
