/- Any operation: both machines do the same. No condition. -/
import Derived.Test.YtpjeibdllddkjaaEvm
namespace Evl
open Go

variable {P : Program} {H : Hints} {fid : FuncId} {N : Nat} {w0 w w' : World} {M : Nat → Prop} {V0 V V' : Nat → Nat} {K K' : Nat → Nat × Nat} {O O' : Nat → Option Loc} {s : S} {a : Act} {fp : List Nat} {v : Value}

/-- Two states that an operation sees alike. -/
def agree (looks rd : List Nat) (s u : S) : Prop := (∀ t ∈ looks, u.t t = s.t t) ∧ ∀ b ∈ rd, u.b b = s.b b

/-- What one operation of a region does, wherever it is done. -/
def EntryOk (P : Program) (ops : Array Oper) (x : LogE) (s : S) : Prop :=
  ∀ (N : Nat) (w0 : World) (M : Nat → Prop) (V0 V : Nat → Nat) (K : Nat → Nat × Nat) (O : Nat → Option Loc) (u : S) (a : Act) (w : World), RelG N w0 M V0 K V O u a w → agree x.looks x.eff.rd s u → (∀ d, x.dst = some d → d < N) →
    ∀ (Q : Exit → Act → World → Prop) (C : Act → World → Prop), (∀ a' w' K' V' O', RelG N w0 M V0 K' V' O' (x.eff.apply x.dst u) a' w' → (∀ b, 1000 ≤ b → K' b = K b) → C a' w') → wpOp P ops Q x.i C a w

/-- The entries of a log, one behind the other. -/
inductive Chain (P : Program) (ops : Array Oper) : S → List LogE → S → Prop
  | nil (s1 : S) : Chain P ops s1 [] s1
  | cons (s1 : S) (x : LogE) (lg : List LogE) (s2 : S) : EntryOk P ops x s1 → Chain P ops (x.eff.apply x.dst s1) lg s2 → Chain P ops s1 (x :: lg) s2

theorem chain_wp {ops : Array Oper} {lg : List LogE} {s s' : S} (h : Chain P ops s lg s') : ∀ {N w0 M V0 V K O a w}, RelG N w0 M V0 K V O s a w → (∀ x ∈ lg, ∀ d, x.dst = some d → d < N) →
    ∀ (Q : Exit → Act → World → Prop), (∀ a' w' K' V' O', RelG N w0 M V0 K' V' O' s' a' w' → (∀ b, 1000 ≤ b → K' b = K b) → Q .normal a' w') → wpOps P ops Q (lg.map (·.i)) a w := by
  induction h with
  | nil s => intro N w0 M V0 V K O a w R _ Q hQ; exact hQ a w K V O R (fun _ _ => rfl)
  | cons s x lg s' he _ ih =>
    intro N w0 M V0 V K O a w R hd Q hQ
    simp only [List.map_cons, wpOps_cons]
    refine he N w0 M V0 V K O s a w R ⟨fun _ _ => rfl, fun _ _ => rfl⟩ (hd x (by simp)) Q _ ?_
    intro a' w' K' V' O' R' hK
    exact ih R' (fun y hy => hd y (by simp [hy])) Q (fun a'' w'' K'' V'' O'' R'' hK'' => hQ _ _ _ _ _ R'' fun b hb => (hK'' b hb).trans (hK b hb))

end Evl
