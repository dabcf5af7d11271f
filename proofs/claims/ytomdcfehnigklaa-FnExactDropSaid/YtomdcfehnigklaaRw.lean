/- The law FnExactDrop returns true for every input, and its arguments read behind the call as they read before. No condition. -/
import Derived.Test.YtomdcfehnigklaaJl
import Derived.Test.YtomdcfehnigklaaJr
import Derived.Test.YtomdcfehnigklaaRows
open Go Go.RowKit Go.Proofs
namespace Go.Proofs.Ytomdcfehnigklaa.fnExactDrop
open Go.ChangeShapes Go.WideShapes Go.ChangeAt Go.RowKit Evl Evl.T
theorem laidOut : laidOutB Try.prog = true := by kernel_rfl
theorem own : ownKnob Try.prog.godebug = none := by kernel_rfl
theorem eqOk : EqtOk Try.prog Evl.T.H := eqt_of fun t ht => by
  have h : [30, 104].contains t = true := ht
  have : t = 30 ∨ t = 104 := by simpa using h
  rcases this with rfl | rfl
  · exact .inl ⟨by kernel_rfl, by kernel_rfl, by kernel_rfl, by kernel_rfl, by kernel_rfl⟩
  · exact .inr ⟨⟨3, 3, (Try.prog.info? 3).get (by kernel_rfl), by kernel_rfl, (Option.some_get _).symm, by kernel_rfl, by kernel_rfl, by kernel_rfl, by kernel_rfl⟩, by kernel_rfl⟩
theorem solT : SolT Try.prog 26 23 24 4 3 :=
  ⟨⟨_, Try.underlying26, rfl⟩, by kernel_rfl, ⟨⟨_, Try.underlying23, rfl⟩, by kernel_rfl, ⟨Try.underlying3, by kernel_rfl⟩⟩, Try.underlying24, by kernel_rfl, Try.underlying4, by kernel_rfl⟩
theorem deskT : DeskT Try.prog 65 62 63 26 23 24 4 3 := ⟨⟨_, Try.underlying65, rfl⟩, by kernel_rfl, Try.underlying62, by kernel_rfl, Try.underlying63, by kernel_rfl, solT⟩
theorem walk (a0 : Desk) (g0 : LensD a0) (a1 : Int) (g1 : IntGood a1) (v0 v1 : Value) (W : World) (k0 : RepV (Evl.T.cellsIn W) W (fun _ => (0, 0)) [] v0 (.agg (dDesk a0))) (k1 : RepV (Evl.T.cellsIn W) W (fun _ => (0, 0)) [] v1 (i64 a1)) :
    Calls Try.prog 9 #[v0, v1] W fun e w' => e = .returned (.bool true) ∧ Go.RowKit.Below W.heap.size W w' := by
  obtain ⟨u0_0, u0_1, u0_2, u0_3, u0_4, u0_5, u0_6, u0_7, o0_0, o0_1, o0_2, o0_3, o0_4, o0_5, o0_6, o0_7, m0⟩ := law_desk k0
  obtain ⟨n, hn⟩ := plain_Drop a0 g0 a1 g1
  refine law_calls (mark_law eqOk (by decide +kernel) (Tlaws_FnExactDrop u0_0 u0_1 u0_2 u0_3 u0_4 u0_5 u0_6 u0_7 eqOk (by decide +kernel) n a0.1.1.kids a0.1.2.1.kids a0.1.2.2.1.kids a0.1.2.2.2.1.kids a0.1.2.2.2.2.1.kids a0.1.2.2.2.2.2.1.kids a0.1.2.2.2.2.2.2.1.kids a0.1.2.2.2.2.2.2.2.kids a0 a1 true hn)).1 W [v0, v1] (gd_law fun q hq => ?_) (.cons m0 (.cons k1 .nil))
  simp only [List.mem_cons, List.not_mem_nil, or_false] at hq
  rcases hq with rfl | rfl | rfl | rfl | rfl | rfl | rfl | rfl
  · exact o0_0
  · exact o0_1
  · exact o0_2
  · exact o0_3
  · exact o0_4
  · exact o0_5
  · exact o0_6
  · exact o0_7
set_option maxRecDepth 100000 in
theorem lifted (os : Os) (started : os.Started) (H : Type) (enc : TypeId × Value → H) :
    ReturnsInHanded {} Try.checked os 9 .any (Rows.fnExactDropSpec.pre6 enc Try.prog Try.f9 Rows.fnExactDropRow.domain false) (Rows.fnExactDropSpec.post enc Try.prog Try.f9 false true false false) := by
  refine returnsInHanded_of_change_sized (C := Try.checked) own started (by kernel_rfl) Try.func9
    (ChangeSpec.witness6 (enc := enc) (C := Try.checked) false ⟨#[], #[.agg #[.bool false, .int .i64 0, .int .i64 0, .int .i64 0, .int .i64 0, .slice none 0 0, .bool false, .int .i64 0, .int .i64 0, .int .i64 0, .int .i64 0, .slice none 0 0, .bool false, .int .i64 0, .int .i64 0, .int .i64 0, .int .i64 0, .slice none 0 0, .bool false, .int .i64 0, .int .i64 0, .int .i64 0, .int .i64 0, .slice none 0 0, .bool false, .int .i64 0, .int .i64 0, .int .i64 0, .int .i64 0, .slice none 0 0, .bool false, .int .i64 0, .int .i64 0, .int .i64 0, .int .i64 0, .slice none 0 0, .bool false, .int .i64 0, .int .i64 0, .int .i64 0, .int .i64 0, .slice none 0 0, .bool false, .int .i64 0, .int .i64 0, .int .i64 0, .int .i64 0, .slice none 0 0, .bool false, .bool false, .bool false, .bool false, .bool false, .bool false, .bool false, .bool false], .int .i64 0], []⟩ 8 (by kernel_rfl) (by kernel_rfl) (by kernel_rfl) (by kernel_rfl)) ?_
  intro W base args ds gs before hval0 hW hcnd hsz0 _
  have hval : ∀ (j : Nat) t v, Try.f9.params[j]? = some t → args[j]? = some v → Value.okWide Try.prog W .any base t v := hval0
  have hW' := hW
  obtain ⟨p, q, hA0, hV, rfl, hfz, hnd⟩ := hW
  have hA : DataW.TrodAll enc Try.prog W 0 (fun _ => true) true Try.f9.params.toList args.toList ds p := hA0
  rw [Try.params9] at hA hval
  obtain ⟨v0, vs0, d0, ds0, p0, q0, hargs, rfl, rfl, h0, r0⟩ := trodAll_cons hA
  obtain ⟨v1, vs1, d1, ds1, p1, q1, rfl, rfl, rfl, h1, r1⟩ := trodAll_cons r0
  obtain ⟨rfl, rfl, rfl⟩ := trodAll_nil r1
  obtain rfl : args = #[v0, v1] := by cases args; simp_all
  obtain ⟨rfl, rfl⟩ := trodVars_none hV
  have hlt0 : ∀ x ∈ p0, x.block < W.heap.size := fun x hx => hW'.lt x (by simp [hx])
  obtain ⟨a0, g0, k0⟩ := opens_desk deskT (hval 0 65 v0 rfl rfl) h0
  have hlt1 : ∀ x ∈ p1, x.block < W.heap.size := fun x hx => hW'.lt x (by simp [hx])
  obtain ⟨a1, g1, k1⟩ := opens_int Try.underlying3 (hval 1 3 v1 rfl rfl) h1
  clear hA0 hval0 hsz0
  refine (walk a0 g0 a1 g1 v0 v1 W k0 k1).mono fun e W' ⟨he, bel⟩ => ?_
  subst he
  exact ⟨_, rfl, _, _, _, [], _, [], hW', trodAll_mk1 (shut_bool Try.underlying4 _), (trodAll_cons_mk (Below.trod laidOut (by kernel_rfl) (of_decide_eq_true (by kernel_rfl)) h0 bel hlt0) (trodAll_cons_mk (Below.trod laidOut (by kernel_rfl) (of_decide_eq_true (by kernel_rfl)) h1 bel hlt1) trodAll_mk0)), rfl, bel.frame _, fun h => by cases h⟩
theorem over : Rows.fnExactDropRow.holds Try.pinned (OpenSpec.ofChange Rows.fnExactDropSpec) :=
  OpenClaim.holds_of_wide 9 Try.f9 rfl rfl rfl rfl rfl rfl rfl ⟨rfl, rfl, rfl, rfl, rfl⟩ rfl rfl rfl rfl rfl (by kernel_rfl) Try.func9 (by kernel_rfl)
    (of_decide_eq_true (by kernel_rfl)) (by unfold Func.isWrapper; first | (rw [if_pos (by decide +kernel)]; kernel_rfl) | (rw [if_neg (by decide +kernel)]; exact ⟨rfl, rfl⟩))
    (fun os started H enc _ => lifted os started H enc)
theorem proved : Rows.FnExactDropSaid := over
end Go.Proofs.Ytomdcfehnigklaa.fnExactDrop
namespace Go.Proofs.Ytomdcfehnigklaa
theorem fnExactDrop_holds : Rows.FnExactDropSaid := fnExactDrop.proved
end Go.Proofs.Ytomdcfehnigklaa
