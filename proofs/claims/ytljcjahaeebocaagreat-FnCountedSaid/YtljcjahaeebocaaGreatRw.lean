/- The law FnCounted returns true for every input, and its arguments read behind the call as they read before. No condition. -/
import Derived.Test.YtljcjahaeebocaaGreatJl
import Derived.Test.YtljcjahaeebocaaGreatJr
import Derived.Test.YtljcjahaeebocaaGreatRows
open Go Go.RowKit Go.Proofs
namespace Go.Proofs.YtljcjahaeebocaaGreat.fnCounted
open Go.ChangeShapes Go.WideShapes Go.ChangeAt Go.RowKit Evl Evl.T
theorem laidOut : laidOutB Tryz.prog = true := by kernel_rfl
theorem own : ownKnob Tryz.prog.godebug = none := by kernel_rfl
theorem eqOk : EqtOk Tryz.prog Evl.T.H := eqt_of fun t ht => by
  have h : [25, 159].contains t = true := ht
  have : t = 25 ∨ t = 159 := by simpa using h
  rcases this with rfl | rfl
  · exact .inl ⟨by kernel_rfl, by kernel_rfl, by kernel_rfl, by kernel_rfl, by kernel_rfl⟩
  · exact .inr ⟨⟨3, 3, (Tryz.prog.info? 3).get (by kernel_rfl), by kernel_rfl, (Option.some_get _).symm, by kernel_rfl, by kernel_rfl, by kernel_rfl, by kernel_rfl⟩, by kernel_rfl⟩
theorem walk (a0 : List Int) (g0 : a0.length ≤ maxLen ∧ ∀ s ∈ a0, ByGood s) (v0 : Value) (W : World) (k0 : RepV (Evl.T.cellsIn W) W (fun _ => (0, 0)) [] v0 (.sl false 1 a0.length (eU8.f a0))) :
    Calls Tryz.prog 3 #[v0] W fun e w' => e = .returned (.bool true) ∧ Go.RowKit.Below W.heap.size W w' := by
  obtain ⟨n, hn⟩ := plain_FnCounted a0 g0
  exact law_calls (big_sound eqOk (by decide +kernel) (fun _ _ _ _ _ _ => trivial) (fun _ _ _ _ _ h => h.elim) ys_ok (Tlaws_FnCounted n a0 true hn)).1 W [v0] ⟨trivial, fun e => by cases e⟩ (.cons k0 .nil)
set_option maxRecDepth 100000 in
theorem lifted (os : Os) (started : os.Started) (H : Type) (enc : TypeId × Value → H) :
    ReturnsInHanded {} Tryz.checked os 3 .any (Rows.fnCountedSpec.pre6 enc Tryz.prog Tryz.f3 Rows.fnCountedRow.domain false) (Rows.fnCountedSpec.post enc Tryz.prog Tryz.f3 false true false false) := by
  refine returnsInHanded_of_change_sized (C := Tryz.checked) own started (by kernel_rfl) Tryz.func3
    (ChangeSpec.witness6 (enc := enc) (C := Tryz.checked) false ⟨#[], #[.slice none 0 0], []⟩ 8 (by kernel_rfl) (by kernel_rfl) (by kernel_rfl) (by kernel_rfl)) ?_
  intro W base args ds gs before hval0 hW hcnd hsz0 _
  have hval : ∀ (j : Nat) t v, Tryz.f3.params[j]? = some t → args[j]? = some v → Value.okWide Tryz.prog W .any base t v := hval0
  have hW' := hW
  obtain ⟨p, q, hA0, hV, rfl, hfz, hnd⟩ := hW
  have hA : DataW.TrodAll enc Tryz.prog W 0 (fun _ => true) true Tryz.f3.params.toList args.toList ds p := hA0
  rw [Tryz.params3] at hA hval
  obtain ⟨v0, vs0, d0, ds0, p0, q0, hargs, rfl, rfl, h0, r0⟩ := trodAll_cons hA
  obtain ⟨rfl, rfl, rfl⟩ := trodAll_nil r0
  obtain rfl : args = #[v0] := by cases args; simp_all
  obtain ⟨rfl, rfl⟩ := trodVars_none hV
  have hlt0 : ∀ x ∈ p0, x.block < W.heap.size := fun x hx => hW'.lt x (by simp [hx])
  obtain ⟨a0, g0, k0⟩ := opens_bys Tryz.underlying5 (by kernel_rfl) Tryz.underlying22 (hval 0 22 v0 rfl rfl) h0
  clear hA0 hval0 hsz0
  refine (walk a0 g0 v0 W k0).mono fun e W' ⟨he, bel⟩ => ?_
  subst he
  exact ⟨_, rfl, _, _, _, [], _, [], hW', trodAll_mk1 (shut_bool Tryz.underlying4 _), (trodAll_cons_mk (Below.trod laidOut (by kernel_rfl) (of_decide_eq_true (by kernel_rfl)) h0 bel hlt0) trodAll_mk0), rfl, bel.frame _, fun h => by cases h⟩
theorem over : Rows.fnCountedRow.holds Tryz.pinned (OpenSpec.ofChange Rows.fnCountedSpec) :=
  OpenClaim.holds_of_wide 3 Tryz.f3 rfl rfl rfl rfl rfl rfl rfl ⟨rfl, rfl, rfl, rfl, rfl⟩ rfl rfl rfl rfl rfl (by kernel_rfl) Tryz.func3 (by kernel_rfl)
    (of_decide_eq_true (by kernel_rfl)) (by unfold Func.isWrapper; first | (rw [if_pos (by decide +kernel)]; kernel_rfl) | (rw [if_neg (by decide +kernel)]; exact ⟨rfl, rfl⟩))
    (fun os started H enc _ => lifted os started H enc)
theorem proved : Rows.FnCountedSaid := over
end Go.Proofs.YtljcjahaeebocaaGreat.fnCounted
namespace Go.Proofs.YtljcjahaeebocaaGreat
theorem fnCounted_holds : Rows.FnCountedSaid := fnCounted.proved
end Go.Proofs.YtljcjahaeebocaaGreat
