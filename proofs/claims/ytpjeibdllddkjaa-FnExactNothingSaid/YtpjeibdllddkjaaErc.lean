/- The arguments of a law, out of the caller's memory; a law's call. No condition. -/
import Derived.Test.YtpjeibdllddkjaaEra
import Derived.Test.YtpjeibdllddkjaaErb
import Derived.WalkKit
import Derived.ProofKit
import Derived.OpenShut
import Derived.ShutString
import Derived.ChangeOld
import Derived.Below
import Derived.Carry
import Derived.SizedLaws
import Derived.Lib.SmallJoins
namespace Evl.T
open Go.RowKit Go.ChangeShapes Go.WideShapes
open Go Evl

/-- Values stand for arguments. -/
inductive ArgsOk (W : World) : List Value → List AV → Prop
  | nil : ArgsOk W [] []
  | cons {v : Value} {x : AV} {vs : List Value} {xs : List AV} : RepV (cellsIn W) W (fun _ => (0, 0)) [] v x → ArgsOk W vs xs → ArgsOk W (v :: vs) (x :: xs)

/-- A law's call, out of the abstract machine's run: it returns true, and nothing that was there is turned. -/
theorem law_calls {P : Program} {f : FuncId} {args : List AV} (h : CallOk P f args nob (bl true) nob) (W : World) (vs : List Value) (ha : ArgsOk W vs args) :
    Calls P f vs.toArray W fun e w' => e = .returned (.bool true) ∧ Below W.heap.size W w' := by
  have hl : vs.length = args.length := by clear h; induction ha with | nil => rfl | cons _ _ ih => simp [ih]
  have hg : ∀ (i : Nat) (x : AV), args[i]? = some x → ∃ v, vs[i]? = some v ∧ RepV (cellsIn W) W (fun _ => (0, 0)) [] v x := by
    clear h hl
    induction ha with
    | nil => intro i x hx; cases hx
    | cons h _ ih =>
      intro i x hx
      cases i with
      | zero => cases hx; exact ⟨_, rfl, h⟩
      | succ i => exact ih i x hx
  refine Calls.mono (h W (cellsIn W) (fun _ => (0, 0)) (fun _ => none) vs ⟨hl, fun i x hx => ?_, fun b x hb => (by cases hb), fun g l hg => (by cases hg), fun g hg => cellsIn_lt hg⟩) fun e w' hen => ?_
  · obtain ⟨v, h1, h2⟩ := hg i x hx
    exact ⟨v, [], h1, List.nodup_nil, by simp, h2⟩
  · obtain ⟨v, rfl, V1, O1, fp, b1, b2, b3, b4, b5, b6, hq, b7, b8⟩ := hen
    have hv : v = .bool true := by
      cases hq with
      | one _ _ _ hr => cases hr with
        | v K _ _ _ hu hi => cases hu with
          | one h => cases h with
            | lit hp h => rfl
          | p h => cases h
    subst hv
    exact ⟨rfl, ⟨b1.os, b1.tape, b1.output, b1.sz, fun k hk => b1.old k hk (by simp)⟩⟩

/-- How an argument of a type is opened: as a plain value that stands for it. -/
def Opens (P : Program) (t : TypeId) {α : Type} (Good : α → Prop) (c : α → AV) : Prop :=
  ∀ {H : Type} {enc : TypeId × Value → H} {W : World} {r : Reach} {base : Nat} {spare : Nat → Bool} {held : Bool} {v : Value} {d : DataW H} {ps : List MemPlace},
    Value.okWide P W r base t v → DataW.Trod enc P W 0 spare held t v d ps → ∃ a : α, Good a ∧ RepV (cellsIn W) W (fun _ => (0, 0)) [] v (c a)

variable {P : Program}
theorem opens_sol {tS tP tK tB tI : Nat} (T : SolT P tS tP tK tB tI) : Opens P tS Lens fun s => .agg (dSol false s) := by
  intro H enc W r base spare held v d ps hv hd
  obtain ⟨fs, hu, -⟩ := T.u
  obtain ⟨cs, rfl, -⟩ := okWide_struct hu hv
  obtain ⟨n, hn⟩ := hd
  obtain ⟨s, h1, h2⟩ := open_sol (K := fun _ => (0, 0)) T hn
  refine ⟨s, h1, .u ?_⟩
  have := RepU.agg (h2.up true (by simp))
  simpa [Value.cells] using this
def IntGood (x : Int) : Prop := (Lit.int .i64 x).wf = true
theorem opens_int {t : TypeId} (ht : P.underlying t = some (.int .i64)) : Opens P t IntGood fun x => i64 x := by
  intro H enc W r base spare held v d ps hv hd
  obtain ⟨a1, rfl, rfl, rfl, k1⟩ := open_int ht hv hd
  exact ⟨a1, k1, .lit rfl⟩
end Evl.T
