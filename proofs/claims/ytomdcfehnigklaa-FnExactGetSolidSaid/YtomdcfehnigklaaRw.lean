/- The law FnExactGetSolid returns true for every input, and its arguments read behind the call as they read before. No condition. -/
import Derived.Test.YtomdcfehnigklaaJl
import Derived.Test.YtomdcfehnigklaaJr
import Derived.Test.YtomdcfehnigklaaRows
open Go Go.RowKit Go.Proofs
namespace Go.Proofs.Ytomdcfehnigklaa.fnExactGetSolid
open Go.ChangeShapes Go.WideShapes Go.ChangeAt Go.RowKit Evl Evl.T
theorem laidOut : laidOutB Try.prog = true := by kernel_rfl
theorem own : ownKnob Try.prog.godebug = none := by kernel_rfl
theorem eqOk : EqtOk Try.prog Evl.T.H := eqt_of fun t ht => by
  have h : [30, 104].contains t = true := ht
  have : t = 30 ∨ t = 104 := by simpa using h
  rcases this with rfl | rfl
  · exact .inl ⟨by kernel_rfl, by kernel_rfl, by kernel_rfl, by kernel_rfl, by kernel_rfl⟩
  · exact .inr ⟨⟨3, 3, (Try.prog.info? 3).get (by kernel_rfl), by kernel_rfl, (Option.some_get _).symm, by kernel_rfl, by kernel_rfl, by kernel_rfl, by kernel_rfl⟩, by kernel_rfl⟩
theorem walk (a0 : List Int) (g0 : a0.length ≤ maxLen ∧ ∀ s ∈ a0, ByGood s) (v0 : Value) (W : World) (k0 : RepV (Evl.T.cellsIn W) W (fun _ => (0, 0)) [] v0 (.sl false 1 a0.length (eU8.f a0))) :
    Calls Try.prog 7 #[v0] W fun e w' => e = .returned (.bool true) ∧ Go.RowKit.Below W.heap.size W w' := by
  obtain ⟨o0, m0⟩ := law_old k0
  obtain ⟨n, hn⟩ := plain_GetSolid a0 g0
  refine law_calls (mark_law eqOk (by decide +kernel) (Tlaws_FnExactGetSolid v0 eqOk (by decide +kernel) n a0 (law_len o0) a0 true hn)).1 W [v0] (gd_law fun q hq => ?_) (.cons m0 .nil)
  simp only [List.mem_cons, List.not_mem_nil, or_false] at hq
  subst hq; exact o0
set_option maxRecDepth 100000 in
theorem lifted (os : Os) (started : os.Started) (H : Type) (enc : TypeId × Value → H) :
    ReturnsInHanded {} Try.checked os 7 .any (Rows.fnExactGetSolidSpec.pre6 enc Try.prog Try.f7 Rows.fnExactGetSolidRow.domain false) (Rows.fnExactGetSolidSpec.post enc Try.prog Try.f7 false true false false) := by
  refine returnsInHanded_of_change_sized (C := Try.checked) own started (by kernel_rfl) Try.func7
    (ChangeSpec.witness6 (enc := enc) (C := Try.checked) false ⟨#[], #[.slice none 0 0], []⟩ 8 (by kernel_rfl) (by kernel_rfl) (by kernel_rfl) (by kernel_rfl)) ?_
  intro W base args ds gs before hval0 hW hcnd hsz0 _
  have hval : ∀ (j : Nat) t v, Try.f7.params[j]? = some t → args[j]? = some v → Value.okWide Try.prog W .any base t v := hval0
  have hW' := hW
  obtain ⟨p, q, hA0, hV, rfl, hfz, hnd⟩ := hW
  have hA : DataW.TrodAll enc Try.prog W 0 (fun _ => true) true Try.f7.params.toList args.toList ds p := hA0
  rw [Try.params7] at hA hval
  obtain ⟨v0, vs0, d0, ds0, p0, q0, hargs, rfl, rfl, h0, r0⟩ := trodAll_cons hA
  obtain ⟨rfl, rfl, rfl⟩ := trodAll_nil r0
  obtain rfl : args = #[v0] := by cases args; simp_all
  obtain ⟨rfl, rfl⟩ := trodVars_none hV
  have hlt0 : ∀ x ∈ p0, x.block < W.heap.size := fun x hx => hW'.lt x (by simp [hx])
  obtain ⟨a0, g0, k0⟩ := opens_bys Try.underlying5 (by kernel_rfl) Try.underlying28 (hval 0 28 v0 rfl rfl) h0
  clear hA0 hval0 hsz0
  refine (walk a0 g0 v0 W k0).mono fun e W' ⟨he, bel⟩ => ?_
  subst he
  exact ⟨_, rfl, _, _, _, [], _, [], hW', trodAll_mk1 (shut_bool Try.underlying4 _), (trodAll_cons_mk (Below.trod laidOut (by kernel_rfl) (of_decide_eq_true (by kernel_rfl)) h0 bel hlt0) trodAll_mk0), rfl, bel.frame _, fun h => by cases h⟩
theorem over : Rows.fnExactGetSolidRow.holds Try.pinned (OpenSpec.ofChange Rows.fnExactGetSolidSpec) :=
  OpenClaim.holds_of_wide 7 Try.f7 rfl rfl rfl rfl rfl rfl rfl ⟨rfl, rfl, rfl, rfl, rfl⟩ rfl rfl rfl rfl rfl (by kernel_rfl) Try.func7 (by kernel_rfl)
    (of_decide_eq_true (by kernel_rfl)) (by unfold Func.isWrapper; first | (rw [if_pos (by decide +kernel)]; kernel_rfl) | (rw [if_neg (by decide +kernel)]; exact ⟨rfl, rfl⟩))
    (fun os started H enc _ => lifted os started H enc)
theorem proved : Rows.FnExactGetSolidSaid := over
end Go.Proofs.Ytomdcfehnigklaa.fnExactGetSolid
namespace Go.Proofs.Ytomdcfehnigklaa
theorem fnExactGetSolid_holds : Rows.FnExactGetSolidSaid := fnExactGetSolid.proved
end Go.Proofs.Ytomdcfehnigklaa
