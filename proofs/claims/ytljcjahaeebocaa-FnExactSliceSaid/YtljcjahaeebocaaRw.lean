/- The law FnExactSlice returns true for every input, and its arguments read behind the call as they read before. No condition. -/
import Derived.Test.YtljcjahaeebocaaJl
import Derived.Test.YtljcjahaeebocaaJr
import Derived.Test.YtljcjahaeebocaaRows
open Go Go.RowKit Go.Proofs
namespace Go.Proofs.Ytljcjahaeebocaa.fnExactSlice
open Go.ChangeShapes Go.WideShapes Go.ChangeAt Go.RowKit Evl Evl.T
theorem laidOut : laidOutB Try.prog = true := by kernel_rfl
theorem own : ownKnob Try.prog.godebug = none := by kernel_rfl
theorem eqOk : EqtOk Try.prog Evl.T.H := eqt_of fun t ht => by
  have h : [31, 91].contains t = true := ht
  have : t = 31 ∨ t = 91 := by simpa using h
  rcases this with rfl | rfl
  · exact .inl ⟨by kernel_rfl, by kernel_rfl, by kernel_rfl, by kernel_rfl, by kernel_rfl⟩
  · exact .inr ⟨⟨3, 3, (Try.prog.info? 3).get (by kernel_rfl), by kernel_rfl, (Option.some_get _).symm, by kernel_rfl, by kernel_rfl, by kernel_rfl, by kernel_rfl⟩, by kernel_rfl⟩
theorem solT : SolT Try.prog 26 23 24 4 3 :=
  ⟨⟨_, Try.underlying26, rfl⟩, by kernel_rfl, ⟨⟨_, Try.underlying23, rfl⟩, by kernel_rfl, ⟨Try.underlying3, by kernel_rfl⟩⟩, Try.underlying24, by kernel_rfl, Try.underlying4, by kernel_rfl⟩
theorem ptT : IntsT Try.prog 28 3 3 := ⟨⟨_, Try.underlying28, rfl⟩, by kernel_rfl, ⟨Try.underlying3, by kernel_rfl⟩⟩
theorem walk (a0 : Sol) (g0 : Lens a0) (a1 : Int) (g1 : IntGood a1) (a2 : Pt) (g2 : PtGood a2) (a3 : Pt) (g3 : PtGood a3) (v0 v1 v2 v3 : Value) (W : World) (k0 : RepV (Evl.T.cellsIn W) W (fun _ => (0, 0)) [] v0 (.agg (dSol false a0))) (k1 : RepV (Evl.T.cellsIn W) W (fun _ => (0, 0)) [] v1 (i64 a1)) (k2 : RepV (Evl.T.cellsIn W) W (fun _ => (0, 0)) [] v2 (.agg [i64 a2.X, i64 a2.Y, i64 a2.Z])) (k3 : RepV (Evl.T.cellsIn W) W (fun _ => (0, 0)) [] v3 (.agg [i64 a3.X, i64 a3.Y, i64 a3.Z])) :
    Calls Try.prog 3 #[v0, v1, v2, v3] W fun e w' => e = .returned (.bool true) ∧ Go.RowKit.Below W.heap.size W w' := by
  obtain ⟨n, hn⟩ := plain_Slice a0 g0 a1 g1 a2 g2 a3 g3
  exact law_calls (big_sound eqOk (by decide +kernel) (fun _ _ _ _ _ _ => trivial) (fun _ _ _ _ _ h => h.elim) ys_ok (Tlaws_FnExactSlice n a0 a1 a2 a3 true hn)).1 W [v0, v1, v2, v3] ⟨trivial, fun e => by cases e⟩ (.cons k0 (.cons k1 (.cons k2 (.cons k3 .nil))))
set_option maxRecDepth 100000 in
theorem lifted (os : Os) (started : os.Started) (H : Type) (enc : TypeId × Value → H) :
    ReturnsInHanded {} Try.checked os 3 .any (Rows.fnExactSliceSpec.pre6 enc Try.prog Try.f3 Rows.fnExactSliceRow.domain false) (Rows.fnExactSliceSpec.post enc Try.prog Try.f3 false true false false) := by
  refine returnsInHanded_of_change_sized (C := Try.checked) own started (by kernel_rfl) Try.func3
    (ChangeSpec.witness6 (enc := enc) (C := Try.checked) false ⟨#[], #[.agg #[.bool false, .int .i64 0, .int .i64 0, .int .i64 0, .int .i64 0, .slice none 0 0], .int .i64 0, .agg #[.int .i64 0, .int .i64 0, .int .i64 0], .agg #[.int .i64 0, .int .i64 0, .int .i64 0]], []⟩ 8 (by kernel_rfl) (by kernel_rfl) (by kernel_rfl) (by kernel_rfl)) ?_
  intro W base args ds gs before hval0 hW hcnd hsz0 _
  have hval : ∀ (j : Nat) t v, Try.f3.params[j]? = some t → args[j]? = some v → Value.okWide Try.prog W .any base t v := hval0
  have hW' := hW
  obtain ⟨p, q, hA0, hV, rfl, hfz, hnd⟩ := hW
  have hA : DataW.TrodAll enc Try.prog W 0 (fun _ => true) true Try.f3.params.toList args.toList ds p := hA0
  rw [Try.params3] at hA hval
  obtain ⟨v0, vs0, d0, ds0, p0, q0, hargs, rfl, rfl, h0, r0⟩ := trodAll_cons hA
  obtain ⟨v1, vs1, d1, ds1, p1, q1, rfl, rfl, rfl, h1, r1⟩ := trodAll_cons r0
  obtain ⟨v2, vs2, d2, ds2, p2, q2, rfl, rfl, rfl, h2, r2⟩ := trodAll_cons r1
  obtain ⟨v3, vs3, d3, ds3, p3, q3, rfl, rfl, rfl, h3, r3⟩ := trodAll_cons r2
  obtain ⟨rfl, rfl, rfl⟩ := trodAll_nil r3
  obtain rfl : args = #[v0, v1, v2, v3] := by cases args; simp_all
  obtain ⟨rfl, rfl⟩ := trodVars_none hV
  have hlt0 : ∀ x ∈ p0, x.block < W.heap.size := fun x hx => hW'.lt x (by simp [hx])
  obtain ⟨a0, g0, k0⟩ := opens_sol solT (hval 0 26 v0 rfl rfl) h0
  have hlt1 : ∀ x ∈ p1, x.block < W.heap.size := fun x hx => hW'.lt x (by simp [hx])
  obtain ⟨a1, g1, k1⟩ := opens_int Try.underlying3 (hval 1 3 v1 rfl rfl) h1
  have hlt2 : ∀ x ∈ p2, x.block < W.heap.size := fun x hx => hW'.lt x (by simp [hx])
  obtain ⟨a2, g2, k2⟩ := opens_pt ptT (hval 2 28 v2 rfl rfl) h2
  have hlt3 : ∀ x ∈ p3, x.block < W.heap.size := fun x hx => hW'.lt x (by simp [hx])
  obtain ⟨a3, g3, k3⟩ := opens_pt ptT (hval 3 28 v3 rfl rfl) h3
  clear hA0 hval0 hsz0
  refine (walk a0 g0 a1 g1 a2 g2 a3 g3 v0 v1 v2 v3 W k0 k1 k2 k3).mono fun e W' ⟨he, bel⟩ => ?_
  subst he
  exact ⟨_, rfl, _, _, _, [], _, [], hW', trodAll_mk1 (shut_bool Try.underlying4 _), (trodAll_cons_mk (Below.trod laidOut (by kernel_rfl) (of_decide_eq_true (by kernel_rfl)) h0 bel hlt0) (trodAll_cons_mk (Below.trod laidOut (by kernel_rfl) (of_decide_eq_true (by kernel_rfl)) h1 bel hlt1) (trodAll_cons_mk (Below.trod laidOut (by kernel_rfl) (of_decide_eq_true (by kernel_rfl)) h2 bel hlt2) (trodAll_cons_mk (Below.trod laidOut (by kernel_rfl) (of_decide_eq_true (by kernel_rfl)) h3 bel hlt3) trodAll_mk0)))), rfl, bel.frame _, fun h => by cases h⟩
theorem over : Rows.fnExactSliceRow.holds Try.pinned (OpenSpec.ofChange Rows.fnExactSliceSpec) :=
  OpenClaim.holds_of_wide 3 Try.f3 rfl rfl rfl rfl rfl rfl rfl ⟨rfl, rfl, rfl, rfl, rfl⟩ rfl rfl rfl rfl rfl (by kernel_rfl) Try.func3 (by kernel_rfl)
    (of_decide_eq_true (by kernel_rfl)) (by unfold Func.isWrapper; first | (rw [if_pos (by decide +kernel)]; kernel_rfl) | (rw [if_neg (by decide +kernel)]; exact ⟨rfl, rfl⟩))
    (fun os started H enc _ => lifted os started H enc)
theorem proved : Rows.FnExactSliceSaid := over
end Go.Proofs.Ytljcjahaeebocaa.fnExactSlice
namespace Go.Proofs.Ytljcjahaeebocaa
theorem fnExactSlice_holds : Rows.FnExactSliceSaid := fnExactSlice.proved
end Go.Proofs.Ytljcjahaeebocaa
