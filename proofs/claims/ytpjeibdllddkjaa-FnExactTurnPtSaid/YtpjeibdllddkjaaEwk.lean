/- The law FnExactTurnPt returns true for every input, and its arguments read behind the call as they read before. No condition. -/
import Derived.Test.YtpjeibdllddkjaaEwj
import Derived.Test.YtpjeibdllddkjaaRows
import Derived.WalkKit
import Derived.ProofKit
import Derived.OpenShut
import Derived.ShutString
import Derived.ChangeOld
import Derived.Below
import Derived.SizedLaws
import Derived.Lib.SmallJoins
import Derived.Laws.BitsLemmas
namespace Evl.T
open Go Evl
theorem d47 (n : Nat) (a b c : Int) : D47 n a b c = some (decide (a ≥ b) && decide (a ≤ c)) := by
  unfold D47 D47_0 frk; cases decide (a ≥ b) <;> simp
theorem d93 (n : Nat) (a b c : Int) : D93 n a b c = some (decide (a ≥ b) && decide (a ≤ c)) := by
  unfold D93 D93_0 frk; cases decide (a ≥ b) <;> simp
theorem w64_id (x : Int) (h : -9223372036854775808 ≤ x) (h2 : x ≤ 9223372036854775807) : w64 x = x := by
  show IntKind.i64.wrap x = x
  rw [IntKind.wrap_i64]; omega
theorem quarters (q : Int) : Int.tmod (w64 (Int.tmod q 4 + 4)) 4 = 0 ∨ Int.tmod (w64 (Int.tmod q 4 + 4)) 4 = 1 ∨ Int.tmod (w64 (Int.tmod q 4 + 4)) 4 = 2 ∨ Int.tmod (w64 (Int.tmod q 4 + 4)) 4 = 3 := by
  have h1 : -4 < Int.tmod q 4 := Int.lt_tmod_of_pos q (by decide)
  have h2 : Int.tmod q 4 < 4 := Int.tmod_lt_of_pos q (by decide)
  generalize Int.tmod q 4 = m at h1 h2
  rw [w64_id _ (by omega) (by omega)]
  have h3 : 0 ≤ m + 4 := by omega
  rw [Int.tmod_eq_emod_of_nonneg h3]; omega
theorem both (x y z a1 a2 : Int) : ∃ r, D13 6 (x, y, z) a1 a2 = some r ∧ D15 6 (x, y, z) a1 a2 = some r := by
  simp only [D13, D15, D46, D50, D51, d47, d93, D46_0, D51_0, Option.bind_some]
  by_cases ha : (decide (a1 ≥ 0) && decide (a1 ≤ 2)) = true
  · by_cases hx : (decide (x ≥ -1000000) && decide (x ≤ 1000000)) = true <;> by_cases hy : (decide (y ≥ -1000000) && decide (y ≤ 1000000)) = true <;> by_cases hz : (decide (z ≥ -1000000) && decide (z ≤ 1000000)) = true <;>
      simp only [ha, hx, hy, hz, frk, Bool.not_true, Bool.not_false, Bool.false_eq_true, if_true, if_false, Option.bind_some, D13_0, D15_0, D48]
    · have hq := quarters a2
      unfold D52
      generalize Int.tmod (w64 (Int.tmod a2 4 + 4)) 4 = k at hq
      have ha' : a1 = 0 ∨ a1 = 1 ∨ a1 = 2 := by simp at ha; omega
      rcases ha' with rfl | rfl | rfl <;> rcases hq with rfl | rfl | rfl | rfl <;> exact ⟨_, rfl, rfl⟩
    all_goals exact ⟨_, rfl, rfl⟩
  · by_cases hx : (decide (x ≥ -1000000) && decide (x ≤ 1000000)) = true <;> by_cases hy : (decide (y ≥ -1000000) && decide (y ≤ 1000000)) = true <;> by_cases hz : (decide (z ≥ -1000000) && decide (z ≤ 1000000)) = true <;>
      simp only [ha, hx, hy, hz, frk, Bool.not_true, Bool.not_false, Bool.false_eq_true, if_true, if_false, Option.bind_some, D13_0, D15_0, D48] <;> exact ⟨_, rfl, rfl⟩
theorem plain (a0 : Int × Int × Int) (a1 a2 : Int) : ∃ n, D3 n a0 a1 a2 = some true := by
  obtain ⟨x, y, z⟩ := a0
  obtain ⟨⟨p, q, r⟩, h1, h2⟩ := both x y z a1 a2
  refine ⟨6, ?_⟩
  simp [D3, D14, D16, frk, h1, h2]
end Evl.T

namespace Evl
open Go.RowKit
open Go
/-- A law's call, out of the abstract machine's run: it returns true, and nothing that was there is turned. -/
theorem law_calls {P : Program} {f : FuncId} {args : List AV} (h : CallOk P f args nob (bl true) nob) (W : World) (vs : List Value) (V0 : Nat → Nat) (hvr : ∀ g, 0 < V0 g → g < W.heap.size) (hl : vs.length = args.length) (ha : ∀ (i : Nat) (x : AV), args[i]? = some x → ∃ v, vs[i]? = some v ∧ RepV V0 W (fun _ => (0, 0)) [] v x) :
    Calls P f vs.toArray W fun e w' => e = .returned (.bool true) ∧ Go.RowKit.Below W.heap.size W w' := by
  refine Calls.mono (h W V0 (fun _ => (0, 0)) (fun _ => none) vs ⟨hl, fun i x hx => ?_, fun b x hb => (by cases hb), fun g l hg => (by cases hg), hvr⟩) fun e w' hen => ?_
  · obtain ⟨v, h1, h2⟩ := ha i x hx
    exact ⟨v, [], h1, List.nodup_nil, by simp, h2⟩
  · obtain ⟨v, rfl, V1, O1, fp, b1, b2, b3, b4, b5, b6, hq, b7, b8⟩ := hen
    have hv : v = .bool true := by
      cases hq with
      | one _ _ _ hr => cases hr with
        | v K _ _ _ hu hi => cases hu with
          | one h => cases h with
            | lit hp h => rfl
          | p h => cases h
    subst hv
    exact ⟨rfl, ⟨b1.os, b1.tape, b1.output, b1.sz, fun k hk => b1.old k hk (by simp)⟩⟩
end Evl
namespace Go.Proofs.Ytpjeibdllddkjaa.fnExactTurnPt
open Go.ChangeShapes Go.WideShapes Go.ChangeAt Go.RowKit Evl
theorem walk (x y z a1 a2 : Int) (W : World) (hx : (Lit.int .i64 x).wf = true) (hy : (Lit.int .i64 y).wf = true) (hz : (Lit.int .i64 z).wf = true) (h1 : (Lit.int .i64 a1).wf = true) (h2 : (Lit.int .i64 a2).wf = true) :
    Calls Try.prog 3 #[.agg #[.int .i64 x, .int .i64 y, .int .i64 z], .int .i64 a1, .int .i64 a2] W fun e w' => e = .returned (.bool true) ∧ Go.RowKit.Below W.heap.size W w' := by
  obtain ⟨n, hn⟩ := Evl.T.plain (x, y, z) a1 a2
  have hb := (big_sound (Y := fun _ _ _ _ _ => False) (fun t ht => by cases ht) (by decide +kernel) (fun _ _ _ _ _ h => h.elim) (Evl.T.T3 n (x, y, z) a1 a2 true hn)).1
  refine law_calls hb W [.agg #[.int .i64 x, .int .i64 y, .int .i64 z], .int .i64 a1, .int .i64 a2] (fun _ => 0) (fun g h => by cases h) rfl fun i v hv => ?_
  match i, hv with
  | 0, hv => cases hv; exact ⟨_, rfl, .u (.agg (us := [_, _, _]) (.lit rfl (.lit rfl (.lit rfl .nil))))⟩
  | 1, hv => cases hv; exact ⟨_, rfl, .lit rfl⟩
  | 2, hv => cases hv; exact ⟨_, rfl, .lit rfl⟩
end Go.Proofs.Ytpjeibdllddkjaa.fnExactTurnPt
namespace Go.Proofs.Ytpjeibdllddkjaa.fnExactTurnPt
open Go.ChangeShapes Go.WideShapes Go.ChangeAt Go.RowKit
theorem own : ownKnob Try.prog.godebug = none := by kernel_rfl
set_option maxRecDepth 100000 in
theorem lifted (os : Os) (started : os.Started) (H : Type) (enc : TypeId × Value → H) :
    ReturnsInHanded {} Try.checked os 3 .any (Rows.fnExactTurnPtSpec.pre6 enc Try.prog Try.f3 Rows.fnExactTurnPtRow.domain false) (Rows.fnExactTurnPtSpec.post enc Try.prog Try.f3 false true false false) := by
  refine returnsInHanded_of_change_sized (C := Try.checked) own started (by kernel_rfl) Try.func3
    (ChangeSpec.witness6 (enc := enc) (C := Try.checked) false ⟨#[], #[.agg #[.int .i64 0, .int .i64 0, .int .i64 0], .int .i64 0, .int .i64 0], []⟩ 8 (by kernel_rfl) (by kernel_rfl) (by kernel_rfl) (by kernel_rfl)) ?_
  intro W base args ds gs before hval0 hW hcnd hsz0 _
  have hval : ∀ (j : Nat) t v, Try.f3.params[j]? = some t → args[j]? = some v → Value.okWide Try.prog W .any base t v := hval0
  have hW' := hW
  obtain ⟨p, q, hA0, hV, rfl, hfz, hnd⟩ := hW
  have hA : DataW.TrodAll enc Try.prog W 0 (fun _ => true) true Try.f3.params.toList args.toList ds p := hA0
  rw [Try.params3] at hA hval
  obtain ⟨v0, vs0, d0, ds0, p0, q0, hargs, rfl, rfl, h0, r0⟩ := trodAll_cons hA
  obtain ⟨v1, vs1, d1, ds1, p1, q1, rfl, rfl, rfl, h1, r1⟩ := trodAll_cons r0
  obtain ⟨v2, vs2, d2, ds2, p2, q2, rfl, rfl, rfl, h2, r2⟩ := trodAll_cons r1
  obtain ⟨rfl, rfl, rfl⟩ := trodAll_nil r2
  obtain rfl : args = #[v0, v1, v2] := by cases args; simp_all
  obtain ⟨rfl, rfl⟩ := trodVars_none hV
  obtain ⟨x, y, z, y0, y1, y2, n, rfl, rfl, rfl, t0, t1, t2⟩ := Joins.open_agg3 Try.underlying23 (by kernel_rfl) (by kernel_rfl) (hval 0 23 v0 rfl rfl) h0
  obtain ⟨x', e0, rfl, w0⟩ := DataW.trod_int Try.underlying3 t0
  obtain ⟨y', e1, rfl, w1⟩ := DataW.trod_int Try.underlying3 t1
  obtain ⟨z', e2, rfl, w2⟩ := DataW.trod_int Try.underlying3 t2
  simp only [List.cons.injEq, and_true] at e0 e1 e2
  subst e0; subst e1; subst e2
  obtain ⟨a1, rfl, rfl, rfl, k1⟩ := open_int Try.underlying3 (hval 1 3 v1 rfl rfl) h1
  obtain ⟨a2, rfl, rfl, rfl, k2⟩ := open_int Try.underlying3 (hval 2 3 v2 rfl rfl) h2
  clear hA0 hval0 hsz0
  refine (walk x' y' z' a1 a2 W w0 w1 w2 k1 k2).mono fun e W' ⟨he, bel⟩ => ?_
  subst he
  exact ⟨_, rfl, _, _, _, [], _, [], hW', trodAll_mk1 (shut_bool Try.underlying4 _), trodAll_cons_mk (Joins.shut_agg3 (y0 := (_, [])) (y1 := (_, [])) (y2 := (_, [])) Try.underlying23 (by kernel_rfl) (by kernel_rfl) ⟨1, trod_int_mk 0 Try.underlying3 w0⟩ ⟨1, trod_int_mk 0 Try.underlying3 w1⟩ ⟨1, trod_int_mk 0 Try.underlying3 w2⟩) (trodAll_cons_mk (shut_int Try.underlying3 k1) (trodAll_cons_mk (shut_int Try.underlying3 k2) trodAll_mk0)), rfl, bel.frame _, fun h => by cases h⟩
theorem over : Rows.fnExactTurnPtRow.holds Try.pinned (OpenSpec.ofChange Rows.fnExactTurnPtSpec) :=
  OpenClaim.holds_of_wide 3 Try.f3 rfl rfl rfl rfl rfl rfl rfl ⟨rfl, rfl, rfl, rfl, rfl⟩ rfl rfl rfl rfl rfl (by kernel_rfl) Try.func3 (by kernel_rfl)
    (of_decide_eq_true (by kernel_rfl)) (by unfold Func.isWrapper; first | (rw [if_pos (by decide +kernel)]; kernel_rfl) | (rw [if_neg (by decide +kernel)]; exact ⟨rfl, rfl⟩))
    (fun os started H enc _ => lifted os started H enc)
theorem proved : Rows.FnExactTurnPtSaid := over
end Go.Proofs.Ytpjeibdllddkjaa.fnExactTurnPt

namespace Go.Proofs.Ytpjeibdllddkjaa
theorem fnExactTurnPt_holds : Rows.FnExactTurnPtSaid := fnExactTurnPt.proved
end Go.Proofs.Ytpjeibdllddkjaa
