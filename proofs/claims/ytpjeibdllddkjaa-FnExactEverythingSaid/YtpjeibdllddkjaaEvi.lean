/- Lengths, cuts, conversions of numbers, functions made: both machines do the same. No condition. -/
import Derived.Test.YtpjeibdllddkjaaEvh
namespace Evl
open Go

variable {P : Program} {H : Hints} {fid : FuncId} {N : Nat} {w0 w w' : World} {M : Nat → Prop} {V0 V V' : Nat → Nat} {K K' : Nat → Nat × Nat} {O O' : Nat → Option Loc} {s : S} {a : Act} {fp : List Nat} {v : Value}

theorem tstr_of {t : TypeId} (h : tstr P t = true) : P.underlying t = some .string := by
  unfold tstr at h; split at h
  · assumption
  · cases h
theorem tint_of {t : TypeId} {k : IntKind} (h : tint P t = some k) : P.underlying t = some (.int k) := by
  unfold tint at h; split at h
  · rename_i k' hk; cases h; exact hk
  · cases h
theorem tund_of {t : TypeId} (h : tund P t = true) : ∃ d, P.underlying t = some d := by
  unfold tund at h; exact Option.isSome_iff_exists.1 h

theorem sound_len (R : RelG N w0 M V0 K V O s a w) (o : Oper) (hd : ∀ d, o.dst = some d → d < N) {e : Eff} (h : opE P H fid o s = some e) {args ts} (hop : o.op = .call { callee := .builtin .len, args := args, argTypes := ts }) :
    Step1 P N w0 M V0 K o (e.apply o.dst s) a w := by
  simp only [opE, hop] at h
  split at h
  · rename_i x t hx ht
    obtain ⟨f1, _, _, _, h1⟩ := R.ev x
    have ha : args = #[x] := by cases args; simp_all
    have hts : ts = #[t] := by cases ts; simp_all
    subst ha; subst hts
    split at h
    · rename_i u hv
      rw [hv] at h1
      obtain ⟨e1, -, -⟩ := inv_lit h1
      simp only [Option.ite_none_right_eq_some, Option.some.injEq] at h
      obtain ⟨hs, rfl⟩ := h
      refine step_pure R o hd _ _ [] ?_ (.lit rfl)
      simp [execOp, hop, resolve, invoke, builtin, Builtin.len_, e1, underlying, tstr_of hs, goInt]
    · rename_i hv
      rw [hv] at h1
      obtain ⟨e1, -⟩ := inv_nil h1
      simp only [Option.ite_none_right_eq_some, Option.some.injEq] at h
      obtain ⟨hs, rfl⟩ := h
      obtain ⟨⟨el, z, b⟩, hs⟩ := Option.isSome_iff_exists.1 hs
      obtain ⟨i, hu, -⟩ := tslice_of hs
      refine step_pure R o hd _ _ [] ?_ (.lit rfl)
      simp [execOp, hop, resolve, invoke, builtin, Builtin.len_, e1, underlying, hu, goInt]
    · rename_i ow sz n cs hv
      rw [hv] at h1
      simp only [Option.ite_none_right_eq_some, Option.some.injEq] at h
      obtain ⟨base, cap, e1⟩ : ∃ base cap, a.eval x = .slice base n cap := by
        obtain ⟨e1, e2, -⟩ | ⟨ad, cap, e1, e2, -⟩ | ⟨ab, ao, cap, vs, e1, -⟩ := inv_sl h1
        · exact ⟨none, 0, by rw [e1, e2]⟩
        · exact ⟨_, _, by rw [e1, e2]⟩
        · exact ⟨_, _, e1⟩
      obtain ⟨hs, rfl⟩ := h
      obtain ⟨⟨el, z, b⟩, hs⟩ := Option.isSome_iff_exists.1 hs
      obtain ⟨i, hu, -⟩ := tslice_of hs
      refine step_pure R o hd _ _ [] ?_ (.lit rfl)
      simp [execOp, hop, resolve, invoke, builtin, Builtin.len_, e1, underlying, hu, goInt]
    · rename_i b n hv
      rw [hv] at h1
      obtain ⟨base, cap, e1⟩ : ∃ base cap, a.eval x = .slice base n cap := by
        obtain ⟨-, ⟨e1, e2, -⟩ | ⟨cap, e1, -⟩⟩ := inv_msl h1
        · exact ⟨none, 0, by rw [e1, e2]⟩
        · exact ⟨_, _, e1⟩
      simp only [Option.ite_none_right_eq_some, Option.some.injEq] at h
      obtain ⟨hs, rfl⟩ := h
      obtain ⟨⟨el, z, b⟩, hs⟩ := Option.isSome_iff_exists.1 hs
      obtain ⟨i, hu, -⟩ := tslice_of hs
      refine step_pure R o hd _ _ [] ?_ (.lit rfl)
      simp [execOp, hop, resolve, invoke, builtin, Builtin.len_, e1, underlying, hu, goInt]
    · cases h
  · cases h

theorem sound_max (R : RelG N w0 M V0 K V O s a w) (o : Oper) (hd : ∀ d, o.dst = some d → d < N) {e : Eff} (h : opE P H fid o s = some e) {args ts} (hop : o.op = .call { callee := .builtin .max, args := args, argTypes := ts }) :
    Step1 P N w0 M V0 K o (e.apply o.dst s) a w := by
  simp only [opE, hop, Option.map_eq_some_iff] at h
  obtain ⟨⟨k, x⟩, hm, rfl⟩ := h
  refine step_pure R o hd (.int k x) _ [] ?_ (.lit rfl)
  have := run_max (P := P) R args.toList hm ts o.type
  have e : (args.toList.map a.eval).toArray = args.map a.eval := by apply Array.ext'; simp
  rw [e] at this
  simp only [execOp, hop, resolve, invoke, builtin, Sem.run_bind, Sem.run_pure, Result.andThen_ok, this]
theorem sound_min (R : RelG N w0 M V0 K V O s a w) (o : Oper) (hd : ∀ d, o.dst = some d → d < N) {e : Eff} (h : opE P H fid o s = some e) {args ts} (hop : o.op = .call { callee := .builtin .min, args := args, argTypes := ts }) :
    Step1 P N w0 M V0 K o (e.apply o.dst s) a w := by
  simp only [opE, hop, Option.map_eq_some_iff] at h
  obtain ⟨⟨k, x⟩, hm, rfl⟩ := h
  refine step_pure R o hd (.int k x) _ [] ?_ (.lit rfl)
  have := run_min (P := P) R args.toList hm ts o.type
  have e : (args.toList.map a.eval).toArray = args.map a.eval := by apply Array.ext'; simp
  rw [e] at this
  simp only [execOp, hop, resolve, invoke, builtin, Sem.run_bind, Sem.run_pure, Result.andThen_ok, this]

theorem Rep.sub {m : Bool} {vs : List Value} {ds : List AV} (h : Rep V w K m [] vs ds) (p q : Nat) : Rep V w K m [] ((vs.drop p).take q) ((ds.drop p).take q) := by
  have h1 : Rep V w K m [] (vs.drop p) (ds.drop p) := by
    obtain ⟨p1, p2, u1, u2, hp, rfl, r1, r2⟩ := Rep.split (ds.take p) (cs₂ := ds.drop p) (by rw [List.take_append_drop]; exact h)
    obtain ⟨rfl, rfl⟩ : p1 = [] ∧ p2 = [] := by simpa using hp.symm
    by_cases hl : p ≤ ds.length
    · have : u1.length = p := by rw [r1.len, List.length_take]; omega
      rw [List.drop_left' this]; exact r2
    · have e1 : ds.drop p = [] := List.drop_eq_nil_of_le (by omega)
      have e2 : (u1 ++ u2).drop p = [] := List.drop_eq_nil_of_le (by have := h.len; omega)
      rw [e1, e2]; exact .nil
  obtain ⟨p1, p2, u1, u2, hp, hu, r1, r2⟩ := Rep.split ((ds.drop p).take q) (cs₂ := (ds.drop p).drop q) (by rw [List.take_append_drop]; exact h1)
  obtain ⟨rfl, rfl⟩ : p1 = [] ∧ p2 = [] := by simpa using hp.symm
  by_cases hl : q ≤ (ds.drop p).length
  · have : u1.length = q := by rw [r1.len, List.length_take]; omega
    rw [hu, List.take_left' this]; exact r1
  · have e1 : (ds.drop p).take q = ds.drop p := List.take_of_length_le (by omega)
    have e2 : (vs.drop p).take q = vs.drop p := List.take_of_length_le (by have := h1.len; omega)
    rw [e1, e2]; exact h1

/-- A look at a part of a row. -/
theorem sub_sl {ab ao cap n z l u : Nat} {vs : List Value} {ds : List AV} (hn : n ≤ cap) (hlu : l ≤ u) (hun : u ≤ n) (hl : ds.length = n * z) (h2 : ∀ (j : Nat) (v : Value), vs[j]? = some v → w.cell? ⟨ab, ao + j, none⟩ = some v) (h3 : ao + vs.length ≤ V ab) (h4 : ab < w.heap.size) (h5 : Rep V w K false [] vs ds) :
    RepV V w K [] (.slice (if cap = l then some ⟨ab, ao, none⟩ else some ⟨ab, ao + l * z, none⟩) (u - l) (cap - l)) (.sl false z (u - l) ((ds.drop (l * z)).take ((u - l) * z))) := by
  by_cases hc : cap = l
  · have : u = l := by omega
    subst this
    rw [if_pos hc]
    simp only [Nat.sub_self, Nat.zero_mul, List.take_zero]
    exact .u (.one (.sh ⟨ab, ao, none⟩ [] (by omega) (.inl ⟨rfl, rfl⟩) (by simp) .nil .nil))
  · rw [if_neg hc]
    have hv := h5.len
    refine .u (.one (.sh ⟨ab, ao + l * z, none⟩ ((vs.drop (l * z)).take ((u - l) * z)) (by omega) (.inr ⟨rfl, ?_, h4⟩) (fun j v hj => ?_) (h5.sub _ _) .nil))
    rotate_left
    · have hj' : vs[l * z + j]? = some v := by
        rw [List.getElem?_take] at hj
        split at hj
        · rw [List.getElem?_drop] at hj; exact hj
        · cases hj
      have := h2 _ _ hj'
      rw [← this]; simp [Nat.add_assoc]
    · have e : l * z + (u - l) * z = u * z := by rw [← Nat.add_mul]; congr 1; omega
      have : u * z ≤ n * z := Nat.mul_le_mul_right _ hun
      simp only [List.length_take, List.length_drop]
      omega

theorem bnd_run {x : Option Operand} {l c : Int} (R : RelG N w0 M V0 K V O s a w) (hx : bnd s c x = some l) : (x.map a.eval = none ∧ l = c) ∨ ∃ k, x.map a.eval = some (.int k l) := by
  cases x with
  | none => simp only [bnd, Option.some.injEq] at hx; exact .inl ⟨rfl, hx.symm⟩
  | some y =>
    simp only [bnd] at hx
    split at hx
    · rename_i k j hy
      cases hx
      obtain ⟨f, _, _, _, h⟩ := R.ev y
      rw [hy] at h
      exact .inr ⟨k, by simp [(inv_lit h).1]⟩
    · cases hx

theorem run_cut_sl {t e z by' : Nat} (ht : tslice P t = some (e, z, by')) (ab ao n cap : Nat) (hn : n ≤ cap) (lo hi : Option Value) (l u : Int) (h0 : 0 ≤ l) (hlu : l ≤ u) (hun : u ≤ n)
    (hlo : (lo = none ∧ l = 0) ∨ ∃ k, lo = some (.int k l)) (hhi : (hi = none ∧ u = n) ∨ ∃ k, hi = some (.int k u)) (w : World) :
    (Instr.sliceAt t (.slice (some ⟨ab, ao, none⟩) n cap) lo hi none).run P w = .ok (.slice (if cap = l.toNat then some ⟨ab, ao, none⟩ else some ⟨ab, ao + l.toNat * z, none⟩) (u.toNat - l.toNat) (cap - l.toNat)) w := by
  obtain ⟨i, hu, hi', hs, -⟩ := tslice_of ht
  have h1 : u ≤ (cap : Int) := by omega
  have h2 : 0 ≤ u := by omega
  have h3 : l ≤ (u.toNat : Int) := by omega
  have h5 : l ≤ max u 0 := by omega
  have hb : (Instr.sliceBounds true n cap lo hi none).run P w = .ok (l.toNat, u.toNat, cap) w := by
    rcases hlo with ⟨rfl, rfl⟩ | ⟨k, rfl⟩ <;> rcases hhi with ⟨rfl, rfl⟩ | ⟨k', rfl⟩ <;>
      simp [Instr.sliceBounds, Instr.sliceBound, asIntOf, h0, h1, h2, h5, hlu, hun]
  simp only [Instr.sliceAt, underlying, Sem.run_bind, run_program, Result.andThen_ok, hu, Sem.run_pure, Instr.slice, hb, Go.sizeOf, Go.typeInfo, hi', hs]
  split <;> simp [Addr.add_lit]

/-- A part of a slice that is not nil and has nothing in it. -/
theorem run_cut_empty {t e z by' : Nat} (ht : tslice P t = some (e, z, by')) (ad : Addr) (cap : Nat) (lo hi : Option Value)
    (hlo : (lo = none ∧ (0 : Int) = 0) ∨ ∃ k, lo = some (.int k 0)) (hhi : (hi = none ∧ (0 : Int) = (0 : Nat)) ∨ ∃ k, hi = some (.int k 0)) (w : World) :
    (Instr.sliceAt t (.slice (some ad) 0 cap) lo hi none).run P w = .ok (.slice (some ad) 0 cap) w := by
  obtain ⟨i, hu, hi', hs, -⟩ := tslice_of ht
  have hb : (Instr.sliceBounds true 0 cap lo hi none).run P w = .ok (0, 0, cap) w := by
    rcases hlo with ⟨rfl, -⟩ | ⟨k, rfl⟩ <;> rcases hhi with ⟨rfl, -⟩ | ⟨k', rfl⟩ <;>
      simp [Instr.sliceBounds, Instr.sliceBound, asIntOf]
  simp only [Instr.sliceAt, underlying, Sem.run_bind, run_program, Result.andThen_ok, hu, Sem.run_pure, Instr.slice, hb, Go.sizeOf, Go.typeInfo, hi', hs]
  split <;> simp [Addr.add]

theorem run_cut_str {t : Nat} (ht : tstr P t = true) (v : ByteArray) (lo hi : Option Value) (l u : Int) (h0 : 0 ≤ l) (hlu : l ≤ u) (hun : u ≤ v.size)
    (hlo : (lo = none ∧ l = 0) ∨ ∃ k, lo = some (.int k l)) (hhi : (hi = none ∧ u = v.size) ∨ ∃ k, hi = some (.int k u)) (w : World) :
    (Instr.sliceAt t (.string v) lo hi none).run P w = .ok (.string (v.extract l.toNat u.toNat)) w := by
  have hu := tstr_of ht
  have h2 : 0 ≤ u := by omega
  have h3 : l ≤ (u.toNat : Int) := by omega
  have h5 : l ≤ max u 0 := by omega
  have hb : (Instr.sliceBounds false v.size v.size lo hi none).run P w = .ok (l.toNat, u.toNat, v.size) w := by
    rcases hlo with ⟨rfl, rfl⟩ | ⟨k, rfl⟩ <;> rcases hhi with ⟨rfl, rfl⟩ | ⟨k', rfl⟩ <;>
      simp [Instr.sliceBounds, Instr.sliceBound, asIntOf, h0, h2, h5, hlu, hun]
  simp only [Instr.sliceAt, underlying, Sem.run_bind, run_program, Result.andThen_ok, hu, Sem.run_pure, Instr.slice]
  simp [hb]

end Evl
