/- '==' on structs and arrays of ints: cell by cell. No condition. -/
import Derived.Test.YtpjeibdllddkjaaEwf
import Derived.Laws.StructEq
import Derived.ChangeKeysEq
namespace Evl
open Go

variable {P : Program} {t : TypeId}

/-- A struct of ints. -/
structure EqS (P : Program) (t : TypeId) : Prop where
  u : P.underlying t = some (.struct (P.fieldsOf t))
  f : ((P.fieldsOf t).toList.map fun f => (f.name ≠ "_" && P.plainKey f.type && decide (tint P f.type = some .i64), f.offset)) = (List.range (P.fieldsOf t).size).map fun i => (true, i)
  n : tsize P t = some (P.fieldsOf t).size
  h : P.stoodInHeld t = false
  g : P.eqGuardType P.depth t = false
/-- An array of ints. -/
structure EqA (P : Program) (t : TypeId) : Prop where
  u : ∃ n e i, P.underlying t = some (.array n e) ∧ P.info? e = some i ∧ P.cellsOf e = 1 ∧ P.plainKey e = true ∧ P.underlying e = some (.int .i64) ∧ tsize P t = some n
  g : P.eqGuardType P.depth t = false

theorem same_cons {c d : AV} {cs ds : List AV} {r : Bool} (hc : litInt c = true) (h : sameLits (c :: cs) (d :: ds) = some r) : ∃ k a b r', c = .lit (.int k a) ∧ d = .lit (.int k b) ∧ sameLits cs ds = some r' ∧ r = ((a == b) && r') := by
  unfold sameLits at h
  split at h
  · cases ‹_ :: _ = []›
  · rename_i k a xs k' b ys h1 h2
    cases h1; cases h2
    simp only [Option.ite_none_right_eq_some, Option.map_eq_some_iff] at h
    obtain ⟨rfl, r', h3, rfl⟩ := h
    exact ⟨k, a, b, r', rfl, rfl, h3, rfl⟩
  · rename_i h1 h2; cases h1; simp [litInt] at hc
  · cases h

theorem run_fields (w : World) (d : Nat) (xs ys : List Value) : ∀ (fs : List Field) (k : Nat) (r : Bool), (∀ (i : Nat) f, fs[i]? = some f → f.name ≠ "_" ∧ P.plainKey f.type = true ∧ P.underlying f.type = some (.int .i64) ∧ f.offset = k + i) → xs.length = k + fs.length → xs.length = ys.length →
    ((xs.drop k).map AV.lit).all litInt = true → sameLits ((xs.drop k).map .lit) ((ys.drop k).map .lit) = some r → (Op.eqFields (d + 1) xs.toArray ys.toArray fs).run P w = .ok r w := by
  intro fs
  induction fs with
  | nil =>
    intro k r _ h1 h2 _ h
    simp only [List.length_nil, Nat.add_zero] at h1
    rw [List.drop_eq_nil_of_le (by omega), List.drop_eq_nil_of_le (by omega)] at h
    simp only [List.map_nil, sameLits, Option.some.injEq] at h
    subst h
    simp [Op.eqFields]
  | cons f fs ih =>
    intro k r hf h1 h2 hi h
    simp only [List.length_cons] at h1
    obtain ⟨g1, g2, g3, g4⟩ := hf 0 f rfl
    have hx : k < xs.length := by omega
    have hy : k < ys.length := by omega
    rw [List.drop_eq_getElem_cons hx] at h hi
    rw [List.drop_eq_getElem_cons hy] at h
    simp only [List.map_cons, List.all_cons, Bool.and_eq_true] at h hi
    obtain ⟨kk, a, b, r', e1, e2, e3, rfl⟩ := same_cons hi.1 h
    have q1 : xs.toArray[f.offset]? = some (.int kk a) := by
      rw [g4, Nat.add_zero]
      have : xs[k] = .int kk a := by simpa using e1
      simp [List.getElem?_eq_getElem hx, this]
    have q2 : ys.toArray[f.offset]? = some (.int kk b) := by
      rw [g4, Nat.add_zero]
      have : ys[k] = .int kk b := by simpa using e2
      simp [List.getElem?_eq_getElem hy, this]
    have := ih (k + 1) r' (fun i f' hf' => by
      obtain ⟨j1, j2, j3, j4⟩ := hf (i + 1) f' (by simpa using hf')
      exact ⟨j1, j2, j3, by omega⟩) (by omega) h2 hi.2 e3
    simp only [Op.eqFields, g1, ne_eq, not_false_eq_true, if_true, Sem.run_bind, run_part_plain w g2 q1, run_part_plain w g2 q2, Result.andThen_ok, run_equalIn_int w d f.type kk .i64 a b g3]
    cases hab : (a == b)
    · simp
    · simpa using this

theorem run_items (w : World) (d : Nat) {e : TypeId} (g1 : P.plainKey e = true) (g2 : P.underlying e = some (.int .i64)) (xs ys : List Value) : ∀ (m k : Nat) (r : Bool), xs.length = k + m → xs.length = ys.length →
    ((xs.drop k).map AV.lit).all litInt = true → sameLits ((xs.drop k).map .lit) ((ys.drop k).map .lit) = some r → (Op.eqItems (d + 1) e 1 xs.toArray ys.toArray (List.range' k m)).run P w = .ok r w := by
  intro m
  induction m with
  | zero =>
    intro k r h1 h2 _ h
    rw [List.drop_eq_nil_of_le (by omega), List.drop_eq_nil_of_le (by omega)] at h
    simp only [List.map_nil, sameLits, Option.some.injEq] at h
    subst h
    simp [Op.eqItems]
  | succ m ih =>
    intro k r h1 h2 hi h
    have hx : k < xs.length := by omega
    have hy : k < ys.length := by omega
    rw [List.drop_eq_getElem_cons hx] at h hi
    rw [List.drop_eq_getElem_cons hy] at h
    simp only [List.map_cons, List.all_cons, Bool.and_eq_true] at h hi
    obtain ⟨kk, a, b, r', e1, e2, e3, rfl⟩ := same_cons hi.1 h
    have q1 : xs.toArray[k * 1]? = some (.int kk a) := by
      have : xs[k] = .int kk a := by simpa using e1
      simp [List.getElem?_eq_getElem hx, this]
    have q2 : ys.toArray[k * 1]? = some (.int kk b) := by
      have : ys[k] = .int kk b := by simpa using e2
      simp [List.getElem?_eq_getElem hy, this]
    have := ih (k + 1) r' (by omega) h2 hi.2 e3
    rw [List.range'_succ]
    simp only [Op.eqItems, Sem.run_bind, run_part_plain w g1 q1, run_part_plain w g1 q2, Result.andThen_ok, run_equalIn_int w d e kk .i64 a b g2]
    cases hab : (a == b)
    · simp
    · simpa using this

theorem EqS.run (E : EqS P t) (w : World) (xs ys : List Value) (hl : xs.length = ys.length) {r : Bool} (hn : tsize P t = some (xs.map AV.lit).length) (hi : (xs.map AV.lit).all litInt = true) (h : sameLits (xs.map .lit) (ys.map .lit) = some r) :
    (Op.equalIn 10000 t (.agg xs.toArray) (.agg ys.toArray)).run P w = .ok r w := by
  rw [run_equalIn_agg w 9999 t _ _ E.u E.h]
  refine run_fields w 9998 xs ys _ 0 r (fun i f hf => ?_) ?_ hl (by simpa using hi) (by simpa using h)
  · have := congrArg (fun l => l[i]?) E.f
    have hlt : i < (P.fieldsOf t).size := by simpa using (List.getElem?_eq_some_iff.1 hf).1
    simp only [List.getElem?_map, hf, Option.map_some, List.getElem?_range hlt, Option.some.injEq, Prod.mk.injEq, Bool.and_eq_true, decide_eq_true_eq] at this
    exact ⟨by simpa using this.1.1.1, this.1.1.2, tint_of this.1.2, by omega⟩
  · rw [E.n] at hn; simpa using hn.symm
theorem EqA.run (E : EqA P t) (w : World) (xs ys : List Value) (hl : xs.length = ys.length) {r : Bool} (hn : tsize P t = some (xs.map AV.lit).length) (hi : (xs.map AV.lit).all litInt = true) (h : sameLits (xs.map .lit) (ys.map .lit) = some r) :
    (Op.equalIn 10000 t (.agg xs.toArray) (.agg ys.toArray)).run P w = .ok r w := by
  obtain ⟨n, e, i, e1, e2, e3, e4, e5, e6⟩ := E.u
  rw [run_equalIn_array w 9999 _ _ e1 e2, e3, List.range_eq_range']
  refine run_items w 9998 e4 e5 xs ys n 0 r ?_ hl (by simpa using hi) (by simpa using h)
  rw [e6] at hn; simpa using hn.symm

theorem eqt_of {H : Hints} (h : ∀ t, H.eqt t = true → EqS P t ∨ EqA P t) : EqtOk P H := by
  intro t ht xs ys w hl hx hy cs ds r hc hd hn hi hs op xo yo
  subst hc; subst hd
  have hg : P.eqGuardType P.depth t = false := by rcases h t ht with E | E; exact E.g; exact E.g
  have hr : (Op.equalIn 10000 t (.agg xs.toArray) (.agg ys.toArray)).run P w = .ok r w := by
    rcases h t ht with E | E
    · exact E.run w xs ys hl hn hi hs
    · exact E.run w xs ys hl hn hi hs
  refine ⟨fun e => ?_, fun e => ?_⟩
  · subst e
    simp only [Sem.run_bind, run_eqGuard_agg w .eql t xo yo xs.toArray ys.toArray hg, Result.andThen_ok, run_eql_struct, hr]
  · subst e
    simp only [Sem.run_bind, run_eqGuard_agg w .neq t xo yo xs.toArray ys.toArray hg, Result.andThen_ok, run_neq_struct, hr]
end Evl
