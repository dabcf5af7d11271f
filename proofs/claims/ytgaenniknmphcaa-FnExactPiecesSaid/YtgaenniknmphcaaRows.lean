/-
  NARROWER THAN 'FOR EVERY INPUT', by the rows' own cells (each row's printed sentence says how): FnExactSlice: loops · FnExactPieces: loops.
  DERIVED. THE GIVEN ROWS OF THIS SEAT. 3 by the template 'for every input the law returns true; each argument reads behind the call as it read before'; 0 by the template 'total and deterministic' (their statements: YtgaenniknmphcaaTotals.lean).
  GIVEN WITH THE SEED: the statements are not yours to turn. If you find one false, say at which input.
  Laid BY PROGRAM, IN A SANDBOX (cutbox-rows.mjs): the forced cells as the released guide's own fill.sh prints them over the translation f28bcabcfde841cb… (all of the seat's roots in one cut). By AI agents, Wed Nov 11 2026. No macro, syntax, notation, axiom, sorry.
-/
import Derived.Test.YtgaenniknmphcaaChecked
import GoSem.Claim
import GoSem.ClaimJoined
import GoSem.ClaimMapViews
import Derived.JoinedTies
import Derived.KernelRfl
namespace Go.Proofs.Ytgaenniknmphcaa
/- THE CELL 'sum', in the pinned program and in every row, IS THE sha256 OF THE DUMP (.gsa) THAT YtgaenniknmphcaaProg.lean LOADS. Nothing in Lean hashes anything: it is a label: what it is worth is what the hold of that sum in a sandbox is worth. -/
noncomputable def Try.pinned : Pinned := { name := "ytgaenniknmphcaa", sum := "f28bcabcfde841cb49fffbfbc53fe031f1d0883a0e57407fff31bde82b64622b", checked := Try.checked }
namespace Rows
def none {H : Type} : Left H := { results := [], args := [] }

/-- 'laws.FnExactSlice': WHATEVER THE INPUT: true; the input reads as it did. -/
def fnExactSliceSpec : ChangeSpec := { name := "fnExactSlice", fn := fun _ => fun
  | [d1, d2, d3, d4] => { results := [.lit (.bool true)], args := [d1, d2, d3, d4] }
  | _ => none }
def fnExactSliceRow : OpenClaim := { program := "ytgaenniknmphcaa", sum := "f28bcabcfde841cb49fffbfbc53fe031f1d0883a0e57407fff31bde82b64622b", func := "loop.example/g00125/laws.FnExactSlice", spec := "fnExactSlice", inPlace := ["internal/abi.NoEscape"], recurses := true, loops := true, apart := false }
def FnExactSliceSaid : Prop := fnExactSliceRow.holds Try.pinned (OpenSpec.ofChange fnExactSliceSpec)

/-- ITS FALSE NEIGHBOUR: 'it returns false'. Refute it at one input. -/
def fnExactSliceWrong : ChangeSpec := { name := "fnExactSlice", fn := fun _ => fun
  | [d1, d2, d3, d4] => { results := [.lit (.bool false)], args := [d1, d2, d3, d4] }
  | _ => none }
def FnExactSliceWrongFalsely : Prop := fnExactSliceRow.holds Try.pinned (OpenSpec.ofChange fnExactSliceWrong)

/-- 'laws.FnExactPieces': WHATEVER THE INPUT: true; the input reads as it did. -/
def fnExactPiecesSpec : ChangeSpec := { name := "fnExactPieces", fn := fun _ => fun
  | [d] => { results := [.lit (.bool true)], args := [d] }
  | _ => none }
def fnExactPiecesRow : OpenClaim := { program := "ytgaenniknmphcaa", sum := "f28bcabcfde841cb49fffbfbc53fe031f1d0883a0e57407fff31bde82b64622b", func := "loop.example/g00125/laws.FnExactPieces", spec := "fnExactPieces", recurses := true, loops := true, apart := false }
def FnExactPiecesSaid : Prop := fnExactPiecesRow.holds Try.pinned (OpenSpec.ofChange fnExactPiecesSpec)

/-- ITS FALSE NEIGHBOUR: 'it returns false'. Refute it at one input. -/
def fnExactPiecesWrong : ChangeSpec := { name := "fnExactPieces", fn := fun _ => fun
  | [d] => { results := [.lit (.bool false)], args := [d] }
  | _ => none }
def FnExactPiecesWrongFalsely : Prop := fnExactPiecesRow.holds Try.pinned (OpenSpec.ofChange fnExactPiecesWrong)

/-- 'laws.FnExactFaceCount': WHATEVER THE INPUT: true; the input reads as it did. -/
def fnExactFaceCountSpec : ChangeSpec := { name := "fnExactFaceCount", fn := fun _ => fun
  | [d] => { results := [.lit (.bool true)], args := [d] }
  | _ => none }
def fnExactFaceCountRow : OpenClaim := { program := "ytgaenniknmphcaa", sum := "f28bcabcfde841cb49fffbfbc53fe031f1d0883a0e57407fff31bde82b64622b", func := "loop.example/g00125/laws.FnExactFaceCount", spec := "fnExactFaceCount", unfollowed := true, recurses := true, apart := false }
def FnExactFaceCountSaid : Prop := fnExactFaceCountRow.holds Try.pinned (OpenSpec.ofChange fnExactFaceCountSpec)

/-- ITS FALSE NEIGHBOUR: 'it returns false'. Refute it at one input. -/
def fnExactFaceCountWrong : ChangeSpec := { name := "fnExactFaceCount", fn := fun _ => fun
  | [d] => { results := [.lit (.bool false)], args := [d] }
  | _ => none }
def FnExactFaceCountWrongFalsely : Prop := fnExactFaceCountRow.holds Try.pinned (OpenSpec.ofChange fnExactFaceCountWrong)

/- THE SECOND FORM. 'bulk': how many values and letters a reading holds, each counted each time it is reached (what is shared counts as often as it is met; a slice's spare places count too). A statement '..UptoSaid' is the law's where the arguments, and the package variables that the reading takes, are together of bulk at most 1048576: NARROWER than '..Said'. Prove '..Said' where nothing that the law and all that it calls make is longer than what came in: it says more and counts as full. Else prove '..UptoSaid'. A law counts once. -/
mutual
def uptoBulk {H : Type} : DataW H → Nat
  | .lit (.string bytes) => bytes.length + 1
  | .lit _ => 1
  | .nil => 1
  | .ptr d => uptoBulk d + 1
  | .slice elems spare => uptoBulkAll elems + uptoBulkAll spare + 1
  | .agg parts => uptoBulkAll parts + 1
  | .iface _ d => uptoBulk d + 1
  | .map entries => uptoBulkEntries entries + 1
  | .held _ => 1
def uptoBulkAll {H : Type} : List (DataW H) → Nat
  | [] => 0
  | d :: r => uptoBulk d + uptoBulkAll r
def uptoBulkEntries {H : Type} : List (Lit × DataW H) → Nat
  | [] => 0
  | x :: r => uptoBulkEntry x + uptoBulkEntries r
def uptoBulkEntry {H : Type} : Lit × DataW H → Nat
  | (.string bytes, d) => bytes.length + uptoBulk d + 1
  | (_, d) => uptoBulk d + 1
 end
def uptoSmall : (H : Type) → List (DataW H) → Bool := fun _ ds => decide (uptoBulkAll ds ≤ 1048576)
def OpenSpec.upto (s : _root_.Go.ChangeSpec) : _root_.Go.OpenSpec := { _root_.Go.OpenSpec.ofChange s with cond := some uptoSmall }

/-- 'laws.FnExactSlice', WHERE WHAT IT READS IS OF BULK AT MOST 1048576: true; the input reads as it did. -/
def fnExactSliceUptoRow : OpenClaim := { program := "ytgaenniknmphcaa", sum := "f28bcabcfde841cb49fffbfbc53fe031f1d0883a0e57407fff31bde82b64622b", func := "loop.example/g00125/laws.FnExactSlice", spec := "fnExactSlice", inPlace := ["internal/abi.NoEscape"], recurses := true, loops := true, apart := false, narrowed := true }
def FnExactSliceUptoSaid : Prop := fnExactSliceUptoRow.holds Try.pinned (OpenSpec.upto fnExactSliceSpec)

/-- 'laws.FnExactPieces', WHERE WHAT IT READS IS OF BULK AT MOST 1048576: true; the input reads as it did. -/
def fnExactPiecesUptoRow : OpenClaim := { program := "ytgaenniknmphcaa", sum := "f28bcabcfde841cb49fffbfbc53fe031f1d0883a0e57407fff31bde82b64622b", func := "loop.example/g00125/laws.FnExactPieces", spec := "fnExactPieces", recurses := true, loops := true, apart := false, narrowed := true }
def FnExactPiecesUptoSaid : Prop := fnExactPiecesUptoRow.holds Try.pinned (OpenSpec.upto fnExactPiecesSpec)

/-- 'laws.FnExactFaceCount', WHERE WHAT IT READS IS OF BULK AT MOST 1048576: true; the input reads as it did. -/
def fnExactFaceCountUptoRow : OpenClaim := { program := "ytgaenniknmphcaa", sum := "f28bcabcfde841cb49fffbfbc53fe031f1d0883a0e57407fff31bde82b64622b", func := "loop.example/g00125/laws.FnExactFaceCount", spec := "fnExactFaceCount", unfollowed := true, recurses := true, apart := false, narrowed := true }
def FnExactFaceCountUptoSaid : Prop := fnExactFaceCountUptoRow.holds Try.pinned (OpenSpec.upto fnExactFaceCountSpec)

end Rows
end Go.Proofs.Ytgaenniknmphcaa
