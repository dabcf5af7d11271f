/-
  NARROWER THAN 'FOR EVERY INPUT', by the rows' own cells (each row's printed sentence says how): FnExactPutSolid: loops · FnExactTurnSolid: loops · FnExactSlice: loops · FnExactAll: loops · FnExactDrop: loops · FnExactPieces: loops · FnExactKeep: loops · FnExactShiftSolid: loops.
  DERIVED. THE GIVEN ROWS OF THIS SEAT. 11 by the template 'for every input the law returns true; each argument reads behind the call as it read before'; 0 by the template 'total and deterministic' (their statements: YtomdcfehnigklaaTotals.lean).
  GIVEN WITH THE SEED: the statements are not yours to turn. If you find one false, say at which input.
  Laid BY PROGRAM, IN A SANDBOX (cutbox-rows.mjs): the forced cells as the released guide's own fill.sh prints them over the translation 6abec76e70482778… (all of the seat's roots in one cut). By AI agents, Wed Nov 11 2026. No macro, syntax, notation, axiom, sorry.
-/
import Derived.Test.YtomdcfehnigklaaChecked
import GoSem.Claim
import GoSem.ClaimJoined
import GoSem.ClaimMapViews
import Derived.JoinedTies
import Derived.KernelRfl
namespace Go.Proofs.Ytomdcfehnigklaa
/- THE CELL 'sum', in the pinned program and in every row, IS THE sha256 OF THE DUMP (.gsa) THAT YtomdcfehnigklaaProg.lean LOADS. Nothing in Lean hashes anything: it is a label: what it is worth is what the hold of that sum in a sandbox is worth. -/
noncomputable def Try.pinned : Pinned := { name := "ytomdcfehnigklaa", sum := "6abec76e70482778f46ace63fdbbb7e0fe529bf87a515ef1d1b49d8f52059c31", checked := Try.checked }
namespace Rows
def none {H : Type} : Left H := { results := [], args := [] }

/-- 'laws.FnExactPutSolid': WHATEVER THE INPUT: true; the input reads as it did. -/
def fnExactPutSolidSpec : ChangeSpec := { name := "fnExactPutSolid", fn := fun _ => fun
  | [d] => { results := [.lit (.bool true)], args := [d] }
  | _ => none }
def fnExactPutSolidRow : OpenClaim := { program := "ytomdcfehnigklaa", sum := "6abec76e70482778f46ace63fdbbb7e0fe529bf87a515ef1d1b49d8f52059c31", func := "loop.example/g00125/laws.FnExactPutSolid", spec := "fnExactPutSolid", recurses := true, loops := true, apart := false }
def FnExactPutSolidSaid : Prop := fnExactPutSolidRow.holds Try.pinned (OpenSpec.ofChange fnExactPutSolidSpec)

/-- ITS FALSE NEIGHBOUR: 'it returns false'. Refute it at one input. -/
def fnExactPutSolidWrong : ChangeSpec := { name := "fnExactPutSolid", fn := fun _ => fun
  | [d] => { results := [.lit (.bool false)], args := [d] }
  | _ => none }
def FnExactPutSolidWrongFalsely : Prop := fnExactPutSolidRow.holds Try.pinned (OpenSpec.ofChange fnExactPutSolidWrong)

/-- 'laws.FnExactTurnSolid': WHATEVER THE INPUT: true; the input reads as it did. -/
def fnExactTurnSolidSpec : ChangeSpec := { name := "fnExactTurnSolid", fn := fun _ => fun
  | [d1, d2, d3] => { results := [.lit (.bool true)], args := [d1, d2, d3] }
  | _ => none }
def fnExactTurnSolidRow : OpenClaim := { program := "ytomdcfehnigklaa", sum := "6abec76e70482778f46ace63fdbbb7e0fe529bf87a515ef1d1b49d8f52059c31", func := "loop.example/g00125/laws.FnExactTurnSolid", spec := "fnExactTurnSolid", unfollowed := true, recurses := true, loops := true, apart := false }
def FnExactTurnSolidSaid : Prop := fnExactTurnSolidRow.holds Try.pinned (OpenSpec.ofChange fnExactTurnSolidSpec)

/-- ITS FALSE NEIGHBOUR: 'it returns false'. Refute it at one input. -/
def fnExactTurnSolidWrong : ChangeSpec := { name := "fnExactTurnSolid", fn := fun _ => fun
  | [d1, d2, d3] => { results := [.lit (.bool false)], args := [d1, d2, d3] }
  | _ => none }
def FnExactTurnSolidWrongFalsely : Prop := fnExactTurnSolidRow.holds Try.pinned (OpenSpec.ofChange fnExactTurnSolidWrong)

/-- 'laws.FnExactSlice': WHATEVER THE INPUT: true; the input reads as it did. -/
def fnExactSliceSpec : ChangeSpec := { name := "fnExactSlice", fn := fun _ => fun
  | [d1, d2, d3, d4] => { results := [.lit (.bool true)], args := [d1, d2, d3, d4] }
  | _ => none }
def fnExactSliceRow : OpenClaim := { program := "ytomdcfehnigklaa", sum := "6abec76e70482778f46ace63fdbbb7e0fe529bf87a515ef1d1b49d8f52059c31", func := "loop.example/g00125/laws.FnExactSlice", spec := "fnExactSlice", inPlace := ["internal/abi.NoEscape"], recurses := true, loops := true, apart := false }
def FnExactSliceSaid : Prop := fnExactSliceRow.holds Try.pinned (OpenSpec.ofChange fnExactSliceSpec)

/-- ITS FALSE NEIGHBOUR: 'it returns false'. Refute it at one input. -/
def fnExactSliceWrong : ChangeSpec := { name := "fnExactSlice", fn := fun _ => fun
  | [d1, d2, d3, d4] => { results := [.lit (.bool false)], args := [d1, d2, d3, d4] }
  | _ => none }
def FnExactSliceWrongFalsely : Prop := fnExactSliceRow.holds Try.pinned (OpenSpec.ofChange fnExactSliceWrong)

/-- 'laws.FnExactParseSolid': WHATEVER THE INPUT: true; the input reads as it did. -/
def fnExactParseSolidSpec : ChangeSpec := { name := "fnExactParseSolid", fn := fun _ => fun
  | [d] => { results := [.lit (.bool true)], args := [d] }
  | _ => none }
def fnExactParseSolidRow : OpenClaim := { program := "ytomdcfehnigklaa", sum := "6abec76e70482778f46ace63fdbbb7e0fe529bf87a515ef1d1b49d8f52059c31", func := "loop.example/g00125/laws.FnExactParseSolid", spec := "fnExactParseSolid", recurses := true, apart := false }
def FnExactParseSolidSaid : Prop := fnExactParseSolidRow.holds Try.pinned (OpenSpec.ofChange fnExactParseSolidSpec)

/-- ITS FALSE NEIGHBOUR: 'it returns false'. Refute it at one input. -/
def fnExactParseSolidWrong : ChangeSpec := { name := "fnExactParseSolid", fn := fun _ => fun
  | [d] => { results := [.lit (.bool false)], args := [d] }
  | _ => none }
def FnExactParseSolidWrongFalsely : Prop := fnExactParseSolidRow.holds Try.pinned (OpenSpec.ofChange fnExactParseSolidWrong)

/-- 'laws.FnExactGetSolid': WHATEVER THE INPUT: true; the input reads as it did. -/
def fnExactGetSolidSpec : ChangeSpec := { name := "fnExactGetSolid", fn := fun _ => fun
  | [d] => { results := [.lit (.bool true)], args := [d] }
  | _ => none }
def fnExactGetSolidRow : OpenClaim := { program := "ytomdcfehnigklaa", sum := "6abec76e70482778f46ace63fdbbb7e0fe529bf87a515ef1d1b49d8f52059c31", func := "loop.example/g00125/laws.FnExactGetSolid", spec := "fnExactGetSolid", recurses := true, apart := false }
def FnExactGetSolidSaid : Prop := fnExactGetSolidRow.holds Try.pinned (OpenSpec.ofChange fnExactGetSolidSpec)

/-- ITS FALSE NEIGHBOUR: 'it returns false'. Refute it at one input. -/
def fnExactGetSolidWrong : ChangeSpec := { name := "fnExactGetSolid", fn := fun _ => fun
  | [d] => { results := [.lit (.bool false)], args := [d] }
  | _ => none }
def FnExactGetSolidWrongFalsely : Prop := fnExactGetSolidRow.holds Try.pinned (OpenSpec.ofChange fnExactGetSolidWrong)

/-- 'laws.FnExactAll': WHATEVER THE INPUT: true; the input reads as it did. -/
def fnExactAllSpec : ChangeSpec := { name := "fnExactAll", fn := fun _ => fun
  | [d1, d2] => { results := [.lit (.bool true)], args := [d1, d2] }
  | _ => none }
def fnExactAllRow : OpenClaim := { program := "ytomdcfehnigklaa", sum := "6abec76e70482778f46ace63fdbbb7e0fe529bf87a515ef1d1b49d8f52059c31", func := "loop.example/g00125/laws.FnExactAll", spec := "fnExactAll", recurses := true, loops := true, apart := false }
def FnExactAllSaid : Prop := fnExactAllRow.holds Try.pinned (OpenSpec.ofChange fnExactAllSpec)

/-- ITS FALSE NEIGHBOUR: 'it returns false'. Refute it at one input. -/
def fnExactAllWrong : ChangeSpec := { name := "fnExactAll", fn := fun _ => fun
  | [d1, d2] => { results := [.lit (.bool false)], args := [d1, d2] }
  | _ => none }
def FnExactAllWrongFalsely : Prop := fnExactAllRow.holds Try.pinned (OpenSpec.ofChange fnExactAllWrong)

/-- 'laws.FnExactDrop': WHATEVER THE INPUT: true; the input reads as it did. -/
def fnExactDropSpec : ChangeSpec := { name := "fnExactDrop", fn := fun _ => fun
  | [d1, d2] => { results := [.lit (.bool true)], args := [d1, d2] }
  | _ => none }
def fnExactDropRow : OpenClaim := { program := "ytomdcfehnigklaa", sum := "6abec76e70482778f46ace63fdbbb7e0fe529bf87a515ef1d1b49d8f52059c31", func := "loop.example/g00125/laws.FnExactDrop", spec := "fnExactDrop", unfollowed := true, recurses := true, loops := true, apart := false }
def FnExactDropSaid : Prop := fnExactDropRow.holds Try.pinned (OpenSpec.ofChange fnExactDropSpec)

/-- ITS FALSE NEIGHBOUR: 'it returns false'. Refute it at one input. -/
def fnExactDropWrong : ChangeSpec := { name := "fnExactDrop", fn := fun _ => fun
  | [d1, d2] => { results := [.lit (.bool false)], args := [d1, d2] }
  | _ => none }
def FnExactDropWrongFalsely : Prop := fnExactDropRow.holds Try.pinned (OpenSpec.ofChange fnExactDropWrong)

/-- 'laws.FnExactPieces': WHATEVER THE INPUT: true; the input reads as it did. -/
def fnExactPiecesSpec : ChangeSpec := { name := "fnExactPieces", fn := fun _ => fun
  | [d] => { results := [.lit (.bool true)], args := [d] }
  | _ => none }
def fnExactPiecesRow : OpenClaim := { program := "ytomdcfehnigklaa", sum := "6abec76e70482778f46ace63fdbbb7e0fe529bf87a515ef1d1b49d8f52059c31", func := "loop.example/g00125/laws.FnExactPieces", spec := "fnExactPieces", recurses := true, loops := true, apart := false }
def FnExactPiecesSaid : Prop := fnExactPiecesRow.holds Try.pinned (OpenSpec.ofChange fnExactPiecesSpec)

/-- ITS FALSE NEIGHBOUR: 'it returns false'. Refute it at one input. -/
def fnExactPiecesWrong : ChangeSpec := { name := "fnExactPieces", fn := fun _ => fun
  | [d] => { results := [.lit (.bool false)], args := [d] }
  | _ => none }
def FnExactPiecesWrongFalsely : Prop := fnExactPiecesRow.holds Try.pinned (OpenSpec.ofChange fnExactPiecesWrong)

/-- 'laws.FnExactKeep': WHATEVER THE INPUT: true; the input reads as it did. -/
def fnExactKeepSpec : ChangeSpec := { name := "fnExactKeep", fn := fun _ => fun
  | [d1, d2, d3] => { results := [.lit (.bool true)], args := [d1, d2, d3] }
  | _ => none }
def fnExactKeepRow : OpenClaim := { program := "ytomdcfehnigklaa", sum := "6abec76e70482778f46ace63fdbbb7e0fe529bf87a515ef1d1b49d8f52059c31", func := "loop.example/g00125/laws.FnExactKeep", spec := "fnExactKeep", unfollowed := true, recurses := true, loops := true, apart := false }
def FnExactKeepSaid : Prop := fnExactKeepRow.holds Try.pinned (OpenSpec.ofChange fnExactKeepSpec)

/-- ITS FALSE NEIGHBOUR: 'it returns false'. Refute it at one input. -/
def fnExactKeepWrong : ChangeSpec := { name := "fnExactKeep", fn := fun _ => fun
  | [d1, d2, d3] => { results := [.lit (.bool false)], args := [d1, d2, d3] }
  | _ => none }
def FnExactKeepWrongFalsely : Prop := fnExactKeepRow.holds Try.pinned (OpenSpec.ofChange fnExactKeepWrong)

/-- 'laws.FnExactShell': WHATEVER THE INPUT: true; the input reads as it did. -/
def fnExactShellSpec : ChangeSpec := { name := "fnExactShell", fn := fun _ => fun
  | [d1, d2] => { results := [.lit (.bool true)], args := [d1, d2] }
  | _ => none }
def fnExactShellRow : OpenClaim := { program := "ytomdcfehnigklaa", sum := "6abec76e70482778f46ace63fdbbb7e0fe529bf87a515ef1d1b49d8f52059c31", func := "loop.example/g00125/laws.FnExactShell", spec := "fnExactShell", recurses := true, apart := false }
def FnExactShellSaid : Prop := fnExactShellRow.holds Try.pinned (OpenSpec.ofChange fnExactShellSpec)

/-- ITS FALSE NEIGHBOUR: 'it returns false'. Refute it at one input. -/
def fnExactShellWrong : ChangeSpec := { name := "fnExactShell", fn := fun _ => fun
  | [d1, d2] => { results := [.lit (.bool false)], args := [d1, d2] }
  | _ => none }
def FnExactShellWrongFalsely : Prop := fnExactShellRow.holds Try.pinned (OpenSpec.ofChange fnExactShellWrong)

/-- 'laws.FnExactShiftSolid': WHATEVER THE INPUT: true; the input reads as it did. -/
def fnExactShiftSolidSpec : ChangeSpec := { name := "fnExactShiftSolid", fn := fun _ => fun
  | [d1, d2] => { results := [.lit (.bool true)], args := [d1, d2] }
  | _ => none }
def fnExactShiftSolidRow : OpenClaim := { program := "ytomdcfehnigklaa", sum := "6abec76e70482778f46ace63fdbbb7e0fe529bf87a515ef1d1b49d8f52059c31", func := "loop.example/g00125/laws.FnExactShiftSolid", spec := "fnExactShiftSolid", unfollowed := true, recurses := true, loops := true, apart := false }
def FnExactShiftSolidSaid : Prop := fnExactShiftSolidRow.holds Try.pinned (OpenSpec.ofChange fnExactShiftSolidSpec)

/-- ITS FALSE NEIGHBOUR: 'it returns false'. Refute it at one input. -/
def fnExactShiftSolidWrong : ChangeSpec := { name := "fnExactShiftSolid", fn := fun _ => fun
  | [d1, d2] => { results := [.lit (.bool false)], args := [d1, d2] }
  | _ => none }
def FnExactShiftSolidWrongFalsely : Prop := fnExactShiftSolidRow.holds Try.pinned (OpenSpec.ofChange fnExactShiftSolidWrong)

/- THE SECOND FORM. 'bulk': how many values and letters a reading holds, each counted each time it is reached (what is shared counts as often as it is met; a slice's spare places count too). A statement '..UptoSaid' is the law's where the arguments, and the package variables that the reading takes, are together of bulk at most 1048576: NARROWER than '..Said'. Prove '..Said' where nothing that the law and all that it calls make is longer than what came in: it says more and counts as full. Else prove '..UptoSaid'. A law counts once. -/
mutual
def uptoBulk {H : Type} : DataW H → Nat
  | .lit (.string bytes) => bytes.length + 1
  | .lit _ => 1
  | .nil => 1
  | .ptr d => uptoBulk d + 1
  | .slice elems spare => uptoBulkAll elems + uptoBulkAll spare + 1
  | .agg parts => uptoBulkAll parts + 1
  | .iface _ d => uptoBulk d + 1
  | .map entries => uptoBulkEntries entries + 1
  | .held _ => 1
def uptoBulkAll {H : Type} : List (DataW H) → Nat
  | [] => 0
  | d :: r => uptoBulk d + uptoBulkAll r
def uptoBulkEntries {H : Type} : List (Lit × DataW H) → Nat
  | [] => 0
  | x :: r => uptoBulkEntry x + uptoBulkEntries r
def uptoBulkEntry {H : Type} : Lit × DataW H → Nat
  | (.string bytes, d) => bytes.length + uptoBulk d + 1
  | (_, d) => uptoBulk d + 1
 end
def uptoSmall : (H : Type) → List (DataW H) → Bool := fun _ ds => decide (uptoBulkAll ds ≤ 1048576)
def OpenSpec.upto (s : _root_.Go.ChangeSpec) : _root_.Go.OpenSpec := { _root_.Go.OpenSpec.ofChange s with cond := some uptoSmall }

/-- 'laws.FnExactPutSolid', WHERE WHAT IT READS IS OF BULK AT MOST 1048576: true; the input reads as it did. -/
def fnExactPutSolidUptoRow : OpenClaim := { program := "ytomdcfehnigklaa", sum := "6abec76e70482778f46ace63fdbbb7e0fe529bf87a515ef1d1b49d8f52059c31", func := "loop.example/g00125/laws.FnExactPutSolid", spec := "fnExactPutSolid", recurses := true, loops := true, apart := false, narrowed := true }
def FnExactPutSolidUptoSaid : Prop := fnExactPutSolidUptoRow.holds Try.pinned (OpenSpec.upto fnExactPutSolidSpec)

/-- 'laws.FnExactTurnSolid', WHERE WHAT IT READS IS OF BULK AT MOST 1048576: true; the input reads as it did. -/
def fnExactTurnSolidUptoRow : OpenClaim := { program := "ytomdcfehnigklaa", sum := "6abec76e70482778f46ace63fdbbb7e0fe529bf87a515ef1d1b49d8f52059c31", func := "loop.example/g00125/laws.FnExactTurnSolid", spec := "fnExactTurnSolid", unfollowed := true, recurses := true, loops := true, apart := false, narrowed := true }
def FnExactTurnSolidUptoSaid : Prop := fnExactTurnSolidUptoRow.holds Try.pinned (OpenSpec.upto fnExactTurnSolidSpec)

/-- 'laws.FnExactSlice', WHERE WHAT IT READS IS OF BULK AT MOST 1048576: true; the input reads as it did. -/
def fnExactSliceUptoRow : OpenClaim := { program := "ytomdcfehnigklaa", sum := "6abec76e70482778f46ace63fdbbb7e0fe529bf87a515ef1d1b49d8f52059c31", func := "loop.example/g00125/laws.FnExactSlice", spec := "fnExactSlice", inPlace := ["internal/abi.NoEscape"], recurses := true, loops := true, apart := false, narrowed := true }
def FnExactSliceUptoSaid : Prop := fnExactSliceUptoRow.holds Try.pinned (OpenSpec.upto fnExactSliceSpec)

/-- 'laws.FnExactParseSolid', WHERE WHAT IT READS IS OF BULK AT MOST 1048576: true; the input reads as it did. -/
def fnExactParseSolidUptoRow : OpenClaim := { program := "ytomdcfehnigklaa", sum := "6abec76e70482778f46ace63fdbbb7e0fe529bf87a515ef1d1b49d8f52059c31", func := "loop.example/g00125/laws.FnExactParseSolid", spec := "fnExactParseSolid", recurses := true, apart := false, narrowed := true }
def FnExactParseSolidUptoSaid : Prop := fnExactParseSolidUptoRow.holds Try.pinned (OpenSpec.upto fnExactParseSolidSpec)

/-- 'laws.FnExactGetSolid', WHERE WHAT IT READS IS OF BULK AT MOST 1048576: true; the input reads as it did. -/
def fnExactGetSolidUptoRow : OpenClaim := { program := "ytomdcfehnigklaa", sum := "6abec76e70482778f46ace63fdbbb7e0fe529bf87a515ef1d1b49d8f52059c31", func := "loop.example/g00125/laws.FnExactGetSolid", spec := "fnExactGetSolid", recurses := true, apart := false, narrowed := true }
def FnExactGetSolidUptoSaid : Prop := fnExactGetSolidUptoRow.holds Try.pinned (OpenSpec.upto fnExactGetSolidSpec)

/-- 'laws.FnExactAll', WHERE WHAT IT READS IS OF BULK AT MOST 1048576: true; the input reads as it did. -/
def fnExactAllUptoRow : OpenClaim := { program := "ytomdcfehnigklaa", sum := "6abec76e70482778f46ace63fdbbb7e0fe529bf87a515ef1d1b49d8f52059c31", func := "loop.example/g00125/laws.FnExactAll", spec := "fnExactAll", recurses := true, loops := true, apart := false, narrowed := true }
def FnExactAllUptoSaid : Prop := fnExactAllUptoRow.holds Try.pinned (OpenSpec.upto fnExactAllSpec)

/-- 'laws.FnExactDrop', WHERE WHAT IT READS IS OF BULK AT MOST 1048576: true; the input reads as it did. -/
def fnExactDropUptoRow : OpenClaim := { program := "ytomdcfehnigklaa", sum := "6abec76e70482778f46ace63fdbbb7e0fe529bf87a515ef1d1b49d8f52059c31", func := "loop.example/g00125/laws.FnExactDrop", spec := "fnExactDrop", unfollowed := true, recurses := true, loops := true, apart := false, narrowed := true }
def FnExactDropUptoSaid : Prop := fnExactDropUptoRow.holds Try.pinned (OpenSpec.upto fnExactDropSpec)

/-- 'laws.FnExactPieces', WHERE WHAT IT READS IS OF BULK AT MOST 1048576: true; the input reads as it did. -/
def fnExactPiecesUptoRow : OpenClaim := { program := "ytomdcfehnigklaa", sum := "6abec76e70482778f46ace63fdbbb7e0fe529bf87a515ef1d1b49d8f52059c31", func := "loop.example/g00125/laws.FnExactPieces", spec := "fnExactPieces", recurses := true, loops := true, apart := false, narrowed := true }
def FnExactPiecesUptoSaid : Prop := fnExactPiecesUptoRow.holds Try.pinned (OpenSpec.upto fnExactPiecesSpec)

/-- 'laws.FnExactKeep', WHERE WHAT IT READS IS OF BULK AT MOST 1048576: true; the input reads as it did. -/
def fnExactKeepUptoRow : OpenClaim := { program := "ytomdcfehnigklaa", sum := "6abec76e70482778f46ace63fdbbb7e0fe529bf87a515ef1d1b49d8f52059c31", func := "loop.example/g00125/laws.FnExactKeep", spec := "fnExactKeep", unfollowed := true, recurses := true, loops := true, apart := false, narrowed := true }
def FnExactKeepUptoSaid : Prop := fnExactKeepUptoRow.holds Try.pinned (OpenSpec.upto fnExactKeepSpec)

/-- 'laws.FnExactShell', WHERE WHAT IT READS IS OF BULK AT MOST 1048576: true; the input reads as it did. -/
def fnExactShellUptoRow : OpenClaim := { program := "ytomdcfehnigklaa", sum := "6abec76e70482778f46ace63fdbbb7e0fe529bf87a515ef1d1b49d8f52059c31", func := "loop.example/g00125/laws.FnExactShell", spec := "fnExactShell", recurses := true, apart := false, narrowed := true }
def FnExactShellUptoSaid : Prop := fnExactShellUptoRow.holds Try.pinned (OpenSpec.upto fnExactShellSpec)

/-- 'laws.FnExactShiftSolid', WHERE WHAT IT READS IS OF BULK AT MOST 1048576: true; the input reads as it did. -/
def fnExactShiftSolidUptoRow : OpenClaim := { program := "ytomdcfehnigklaa", sum := "6abec76e70482778f46ace63fdbbb7e0fe529bf87a515ef1d1b49d8f52059c31", func := "loop.example/g00125/laws.FnExactShiftSolid", spec := "fnExactShiftSolid", unfollowed := true, recurses := true, loops := true, apart := false, narrowed := true }
def FnExactShiftSolidUptoSaid : Prop := fnExactShiftSolidUptoRow.holds Try.pinned (OpenSpec.upto fnExactShiftSolidSpec)

end Rows
end Go.Proofs.Ytomdcfehnigklaa
