/-
  NARROWER THAN 'FOR EVERY INPUT', by the rows' own cells (each row's printed sentence says how): FnExactAgain: loops.
  DERIVED. THE GIVEN ROWS OF THIS SEAT. 2 by the template 'for every input the law returns true; each argument reads behind the call as it read before'; 0 by the template 'total and deterministic' (their statements: YtaaljnljnkdiaaaTotals.lean).
  GIVEN WITH THE SEED: the statements are not yours to turn. If you find one false, say at which input.
  Laid BY PROGRAM, IN A SANDBOX (cutbox-rows.mjs): the forced cells as the released guide's own fill.sh prints them over the translation bab9ac23a8a09229… (all of the seat's roots in one cut). By AI agents, Wed Nov 11 2026. No macro, syntax, notation, axiom, sorry.
-/
import Derived.Test.YtaaljnljnkdiaaaChecked
import GoSem.Claim
import GoSem.ClaimJoined
import GoSem.ClaimMapViews
import Derived.JoinedTies
import Derived.KernelRfl
namespace Go.Proofs.Ytaaljnljnkdiaaa
/- THE CELL 'sum', in the pinned program and in every row, IS THE sha256 OF THE DUMP (.gsa) THAT YtaaljnljnkdiaaaProg.lean LOADS. Nothing in Lean hashes anything: it is a label: what it is worth is what the hold of that sum in a sandbox is worth. -/
noncomputable def Try.pinned : Pinned := { name := "ytaaljnljnkdiaaa", sum := "bab9ac23a8a092290a1d3849fb6ac66cbb51803df16b2cb3bf18725ca654bffb", checked := Try.checked }
namespace Rows
def none {H : Type} : Left H := { results := [], args := [] }

/-- 'laws.FnExactAgain': WHATEVER THE INPUT: true; the input reads as it did. -/
def fnExactAgainSpec : ChangeSpec := { name := "fnExactAgain", fn := fun _ => fun
  | [d] => { results := [.lit (.bool true)], args := [d] }
  | _ => none }
def fnExactAgainRow : OpenClaim := { program := "ytaaljnljnkdiaaa", sum := "bab9ac23a8a092290a1d3849fb6ac66cbb51803df16b2cb3bf18725ca654bffb", func := "loop.example/g00125/laws.FnExactAgain", spec := "fnExactAgain", unfollowed := true, recurses := true, loops := true, apart := false }
def FnExactAgainSaid : Prop := fnExactAgainRow.holds Try.pinned (OpenSpec.ofChange fnExactAgainSpec)

/-- ITS FALSE NEIGHBOUR: 'it returns false'. Refute it at one input. -/
def fnExactAgainWrong : ChangeSpec := { name := "fnExactAgain", fn := fun _ => fun
  | [d] => { results := [.lit (.bool false)], args := [d] }
  | _ => none }
def FnExactAgainWrongFalsely : Prop := fnExactAgainRow.holds Try.pinned (OpenSpec.ofChange fnExactAgainWrong)

/-- 'laws.FnExactFaceCount': WHATEVER THE INPUT: true; the input reads as it did. -/
def fnExactFaceCountSpec : ChangeSpec := { name := "fnExactFaceCount", fn := fun _ => fun
  | [d] => { results := [.lit (.bool true)], args := [d] }
  | _ => none }
def fnExactFaceCountRow : OpenClaim := { program := "ytaaljnljnkdiaaa", sum := "bab9ac23a8a092290a1d3849fb6ac66cbb51803df16b2cb3bf18725ca654bffb", func := "loop.example/g00125/laws.FnExactFaceCount", spec := "fnExactFaceCount", unfollowed := true, recurses := true, apart := false }
def FnExactFaceCountSaid : Prop := fnExactFaceCountRow.holds Try.pinned (OpenSpec.ofChange fnExactFaceCountSpec)

/-- ITS FALSE NEIGHBOUR: 'it returns false'. Refute it at one input. -/
def fnExactFaceCountWrong : ChangeSpec := { name := "fnExactFaceCount", fn := fun _ => fun
  | [d] => { results := [.lit (.bool false)], args := [d] }
  | _ => none }
def FnExactFaceCountWrongFalsely : Prop := fnExactFaceCountRow.holds Try.pinned (OpenSpec.ofChange fnExactFaceCountWrong)

/- THE SECOND FORM. 'bulk': how many values and letters a reading holds, each counted each time it is reached (what is shared counts as often as it is met; a slice's spare places count too). A statement '..UptoSaid' is the law's where the arguments, and the package variables that the reading takes, are together of bulk at most 1048576: NARROWER than '..Said'. Prove '..Said' where nothing that the law and all that it calls make is longer than what came in: it says more and counts as full. Else prove '..UptoSaid'. A law counts once. -/
mutual
def uptoBulk {H : Type} : DataW H → Nat
  | .lit (.string bytes) => bytes.length + 1
  | .lit _ => 1
  | .nil => 1
  | .ptr d => uptoBulk d + 1
  | .slice elems spare => uptoBulkAll elems + uptoBulkAll spare + 1
  | .agg parts => uptoBulkAll parts + 1
  | .iface _ d => uptoBulk d + 1
  | .map entries => uptoBulkEntries entries + 1
  | .held _ => 1
def uptoBulkAll {H : Type} : List (DataW H) → Nat
  | [] => 0
  | d :: r => uptoBulk d + uptoBulkAll r
def uptoBulkEntries {H : Type} : List (Lit × DataW H) → Nat
  | [] => 0
  | x :: r => uptoBulkEntry x + uptoBulkEntries r
def uptoBulkEntry {H : Type} : Lit × DataW H → Nat
  | (.string bytes, d) => bytes.length + uptoBulk d + 1
  | (_, d) => uptoBulk d + 1
 end
def uptoSmall : (H : Type) → List (DataW H) → Bool := fun _ ds => decide (uptoBulkAll ds ≤ 1048576)
def OpenSpec.upto (s : _root_.Go.ChangeSpec) : _root_.Go.OpenSpec := { _root_.Go.OpenSpec.ofChange s with cond := some uptoSmall }

/-- 'laws.FnExactAgain', WHERE WHAT IT READS IS OF BULK AT MOST 1048576: true; the input reads as it did. -/
def fnExactAgainUptoRow : OpenClaim := { program := "ytaaljnljnkdiaaa", sum := "bab9ac23a8a092290a1d3849fb6ac66cbb51803df16b2cb3bf18725ca654bffb", func := "loop.example/g00125/laws.FnExactAgain", spec := "fnExactAgain", unfollowed := true, recurses := true, loops := true, apart := false, narrowed := true }
def FnExactAgainUptoSaid : Prop := fnExactAgainUptoRow.holds Try.pinned (OpenSpec.upto fnExactAgainSpec)

/-- 'laws.FnExactFaceCount', WHERE WHAT IT READS IS OF BULK AT MOST 1048576: true; the input reads as it did. -/
def fnExactFaceCountUptoRow : OpenClaim := { program := "ytaaljnljnkdiaaa", sum := "bab9ac23a8a092290a1d3849fb6ac66cbb51803df16b2cb3bf18725ca654bffb", func := "loop.example/g00125/laws.FnExactFaceCount", spec := "fnExactFaceCount", unfollowed := true, recurses := true, apart := false, narrowed := true }
def FnExactFaceCountUptoSaid : Prop := fnExactFaceCountUptoRow.holds Try.pinned (OpenSpec.upto fnExactFaceCountSpec)

end Rows
end Go.Proofs.Ytaaljnljnkdiaaa
