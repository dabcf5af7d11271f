/- The law FnExactFaceCount returns true for every input, and its arguments read behind the call as they read before. No condition. -/
import Derived.Test.YtgaenniknmphcaaJl
import Derived.Test.YtgaenniknmphcaaJr
import Derived.Test.YtgaenniknmphcaaRows
open Go Go.RowKit Go.Proofs
namespace Go.Proofs.Ytgaenniknmphcaa.fnExactFaceCount
open Go.ChangeShapes Go.WideShapes Go.ChangeAt Go.RowKit Evl Evl.T
theorem laidOut : laidOutB Try.prog = true := by kernel_rfl
theorem own : ownKnob Try.prog.godebug = none := by kernel_rfl
theorem eqOk : EqtOk Try.prog Evl.T.H := eqt_of fun t ht => by
  have h : [31, 80, 121].contains t = true := ht
  have : t = 31 ∨ t = 80 ∨ t = 121 := by simpa using h
  rcases this with rfl | rfl | rfl
  · exact .inl ⟨by kernel_rfl, by kernel_rfl, by kernel_rfl, by kernel_rfl, by kernel_rfl⟩
  · exact .inl ⟨by kernel_rfl, by kernel_rfl, by kernel_rfl, by kernel_rfl, by kernel_rfl⟩
  · exact .inr ⟨⟨3, 3, (Try.prog.info? 3).get (by kernel_rfl), by kernel_rfl, (Option.some_get _).symm, by kernel_rfl, by kernel_rfl, by kernel_rfl, by kernel_rfl⟩, by kernel_rfl⟩
theorem plT : IntsT Try.prog 23 3 4 := ⟨⟨_, Try.underlying23, rfl⟩, by kernel_rfl, ⟨Try.underlying3, by kernel_rfl⟩⟩
theorem walk (a0 : List Pl) (g0 : a0.length ≤ maxLen ∧ ∀ s ∈ a0, PlGood s) (v0 : Value) (W : World) (k0 : RepV (Evl.T.cellsIn W) W (fun _ => (0, 0)) [] v0 (.sl false 4 a0.length ((ePl).f a0))) :
    Calls Try.prog 5 #[v0] W fun e w' => e = .returned (.bool true) ∧ Go.RowKit.Below W.heap.size W w' := by
  obtain ⟨n, hn⟩ := plain_FaceCount a0 g0
  exact law_calls (big_sound (Y := fun _ _ _ _ _ => False) eqOk (by decide +kernel) (fun _ _ _ _ _ _ => trivial) (fun _ _ _ _ _ h => zc_to h) (fun _ _ _ _ _ h => h.elim) (Tlaws_FnExactFaceCount n a0 true hn)).1 W [v0] ⟨trivial, fun e => by cases e⟩ (.cons k0 .nil)
set_option maxRecDepth 100000 in
theorem lifted (os : Os) (started : os.Started) (H : Type) (enc : TypeId × Value → H) :
    ReturnsInHanded {} Try.checked os 5 .any (Rows.fnExactFaceCountSpec.pre6 enc Try.prog Try.f5 Rows.fnExactFaceCountRow.domain false) (Rows.fnExactFaceCountSpec.post enc Try.prog Try.f5 false true false false) := by
  refine returnsInHanded_of_change_sized (C := Try.checked) own started (by kernel_rfl) Try.func5
    (ChangeSpec.witness6 (enc := enc) (C := Try.checked) false ⟨#[], #[.slice none 0 0], []⟩ 8 (by kernel_rfl) (by kernel_rfl) (by kernel_rfl) (by kernel_rfl)) ?_
  intro W base args ds gs before hval0 hW hcnd hsz0 _
  have hval : ∀ (j : Nat) t v, Try.f5.params[j]? = some t → args[j]? = some v → Value.okWide Try.prog W .any base t v := hval0
  have hW' := hW
  obtain ⟨p, q, hA0, hV, rfl, hfz, hnd⟩ := hW
  have hA : DataW.TrodAll enc Try.prog W 0 (fun _ => true) true Try.f5.params.toList args.toList ds p := hA0
  rw [Try.params5] at hA hval
  obtain ⟨v0, vs0, d0, ds0, p0, q0, hargs, rfl, rfl, h0, r0⟩ := trodAll_cons hA
  obtain ⟨rfl, rfl, rfl⟩ := trodAll_nil r0
  obtain rfl : args = #[v0] := by cases args; simp_all
  obtain ⟨rfl, rfl⟩ := trodVars_none hV
  have hlt0 : ∀ x ∈ p0, x.block < W.heap.size := fun x hx => hW'.lt x (by simp [hx])
  obtain ⟨a0, g0, k0⟩ := opens_pls plT Try.underlying42 (hval 0 42 v0 rfl rfl) h0
  clear hA0 hval0 hsz0
  refine (walk a0 g0 v0 W k0).mono fun e W' ⟨he, bel⟩ => ?_
  subst he
  exact ⟨_, rfl, _, _, _, [], _, [], hW', trodAll_mk1 (shut_bool Try.underlying4 _), (trodAll_cons_mk (Below.trod laidOut (by kernel_rfl) (of_decide_eq_true (by kernel_rfl)) h0 bel hlt0) trodAll_mk0), rfl, bel.frame _, fun h => by cases h⟩
theorem over : Rows.fnExactFaceCountRow.holds Try.pinned (OpenSpec.ofChange Rows.fnExactFaceCountSpec) :=
  OpenClaim.holds_of_wide 5 Try.f5 rfl rfl rfl rfl rfl rfl rfl ⟨rfl, rfl, rfl, rfl, rfl⟩ rfl rfl rfl rfl rfl (by kernel_rfl) Try.func5 (by kernel_rfl)
    (of_decide_eq_true (by kernel_rfl)) (by unfold Func.isWrapper; first | (rw [if_pos (by decide +kernel)]; kernel_rfl) | (rw [if_neg (by decide +kernel)]; exact ⟨rfl, rfl⟩))
    (fun os started H enc _ => lifted os started H enc)
theorem proved : Rows.FnExactFaceCountSaid := over
end Go.Proofs.Ytgaenniknmphcaa.fnExactFaceCount
namespace Go.Proofs.Ytgaenniknmphcaa
theorem fnExactFaceCount_holds : Rows.FnExactFaceCountSaid := fnExactFaceCount.proved
end Go.Proofs.Ytgaenniknmphcaa
