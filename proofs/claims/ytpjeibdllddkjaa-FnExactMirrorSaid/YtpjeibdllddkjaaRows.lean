/-
  NARROWER THAN 'FOR EVERY INPUT', by the rows' own cells (each row's printed sentence says how): FnExactEverything: loops · FnExactNothing: loops · FnExactSumOf: loops · FnExactSpare: loops · FnExactNot: loops · FnExactDeskOk: loops · FnExactPutSolid: loops · FnExactHeld: loops · FnExactMirror: loops.
  DERIVED. THE GIVEN ROWS OF THIS SEAT. 10 by the template 'for every input the law returns true; each argument reads behind the call as it read before'; 0 by the template 'total and deterministic' (their statements: YtpjeibdllddkjaaTotals.lean).
  GIVEN WITH THE SEED: the statements are not yours to turn. If you find one false, say at which input.
  Laid BY PROGRAM, IN A SANDBOX (cutbox-rows.mjs): the forced cells as the released guide's own fill.sh prints them over the translation b228ab84ca782e43… (all of the seat's roots in one cut). By AI agents, Wed Nov 11 2026. No macro, syntax, notation, axiom, sorry.
-/
import Derived.Test.YtpjeibdllddkjaaChecked
import GoSem.Claim
import GoSem.ClaimJoined
import GoSem.ClaimMapViews
import Derived.JoinedTies
import Derived.KernelRfl
namespace Go.Proofs.Ytpjeibdllddkjaa
/- THE CELL 'sum', in the pinned program and in every row, IS THE sha256 OF THE DUMP (.gsa) THAT YtpjeibdllddkjaaProg.lean LOADS. Nothing in Lean hashes anything: it is a label: what it is worth is what the hold of that sum in a sandbox is worth. -/
noncomputable def Try.pinned : Pinned := { name := "ytpjeibdllddkjaa", sum := "b228ab84ca782e437aa765681f22ff3c4e91f36fb4a46ffb27dead3269ad4842", checked := Try.checked }
namespace Rows
def none {H : Type} : Left H := { results := [], args := [] }

/-- 'laws.FnExactTurnPt': WHATEVER THE INPUT: true; the input reads as it did. -/
def fnExactTurnPtSpec : ChangeSpec := { name := "fnExactTurnPt", fn := fun _ => fun
  | [d1, d2, d3] => { results := [.lit (.bool true)], args := [d1, d2, d3] }
  | _ => none }
def fnExactTurnPtRow : OpenClaim := { program := "ytpjeibdllddkjaa", sum := "b228ab84ca782e437aa765681f22ff3c4e91f36fb4a46ffb27dead3269ad4842", func := "loop.example/g00125/laws.FnExactTurnPt", spec := "fnExactTurnPt", apart := false }
def FnExactTurnPtSaid : Prop := fnExactTurnPtRow.holds Try.pinned (OpenSpec.ofChange fnExactTurnPtSpec)

/-- ITS FALSE NEIGHBOUR: 'it returns false'. Refute it at one input. -/
def fnExactTurnPtWrong : ChangeSpec := { name := "fnExactTurnPt", fn := fun _ => fun
  | [d1, d2, d3] => { results := [.lit (.bool false)], args := [d1, d2, d3] }
  | _ => none }
def FnExactTurnPtWrongFalsely : Prop := fnExactTurnPtRow.holds Try.pinned (OpenSpec.ofChange fnExactTurnPtWrong)

/-- 'laws.FnExactEverything': WHATEVER THE INPUT: true; the input reads as it did. -/
def fnExactEverythingSpec : ChangeSpec := { name := "fnExactEverything", fn := fun _ => fun
  | [d] => { results := [.lit (.bool true)], args := [d] }
  | _ => none }
def fnExactEverythingRow : OpenClaim := { program := "ytpjeibdllddkjaa", sum := "b228ab84ca782e437aa765681f22ff3c4e91f36fb4a46ffb27dead3269ad4842", func := "loop.example/g00125/laws.FnExactEverything", spec := "fnExactEverything", recurses := true, loops := true, apart := false }
def FnExactEverythingSaid : Prop := fnExactEverythingRow.holds Try.pinned (OpenSpec.ofChange fnExactEverythingSpec)

/-- ITS FALSE NEIGHBOUR: 'it returns false'. Refute it at one input. -/
def fnExactEverythingWrong : ChangeSpec := { name := "fnExactEverything", fn := fun _ => fun
  | [d] => { results := [.lit (.bool false)], args := [d] }
  | _ => none }
def FnExactEverythingWrongFalsely : Prop := fnExactEverythingRow.holds Try.pinned (OpenSpec.ofChange fnExactEverythingWrong)

/-- 'laws.FnExactNothing': WHATEVER THE INPUT: true; the input reads as it did. -/
def fnExactNothingSpec : ChangeSpec := { name := "fnExactNothing", fn := fun _ => fun
  | [d] => { results := [.lit (.bool true)], args := [d] }
  | _ => none }
def fnExactNothingRow : OpenClaim := { program := "ytpjeibdllddkjaa", sum := "b228ab84ca782e437aa765681f22ff3c4e91f36fb4a46ffb27dead3269ad4842", func := "loop.example/g00125/laws.FnExactNothing", spec := "fnExactNothing", recurses := true, loops := true, apart := false }
def FnExactNothingSaid : Prop := fnExactNothingRow.holds Try.pinned (OpenSpec.ofChange fnExactNothingSpec)

/-- ITS FALSE NEIGHBOUR: 'it returns false'. Refute it at one input. -/
def fnExactNothingWrong : ChangeSpec := { name := "fnExactNothing", fn := fun _ => fun
  | [d] => { results := [.lit (.bool false)], args := [d] }
  | _ => none }
def FnExactNothingWrongFalsely : Prop := fnExactNothingRow.holds Try.pinned (OpenSpec.ofChange fnExactNothingWrong)

/-- 'laws.FnExactSumOf': WHATEVER THE INPUT: true; the input reads as it did. -/
def fnExactSumOfSpec : ChangeSpec := { name := "fnExactSumOf", fn := fun _ => fun
  | [d] => { results := [.lit (.bool true)], args := [d] }
  | _ => none }
def fnExactSumOfRow : OpenClaim := { program := "ytpjeibdllddkjaa", sum := "b228ab84ca782e437aa765681f22ff3c4e91f36fb4a46ffb27dead3269ad4842", func := "loop.example/g00125/laws.FnExactSumOf", spec := "fnExactSumOf", recurses := true, loops := true, apart := false }
def FnExactSumOfSaid : Prop := fnExactSumOfRow.holds Try.pinned (OpenSpec.ofChange fnExactSumOfSpec)

/-- ITS FALSE NEIGHBOUR: 'it returns false'. Refute it at one input. -/
def fnExactSumOfWrong : ChangeSpec := { name := "fnExactSumOf", fn := fun _ => fun
  | [d] => { results := [.lit (.bool false)], args := [d] }
  | _ => none }
def FnExactSumOfWrongFalsely : Prop := fnExactSumOfRow.holds Try.pinned (OpenSpec.ofChange fnExactSumOfWrong)

/-- 'laws.FnExactSpare': WHATEVER THE INPUT: true; the input reads as it did. -/
def fnExactSpareSpec : ChangeSpec := { name := "fnExactSpare", fn := fun _ => fun
  | [d] => { results := [.lit (.bool true)], args := [d] }
  | _ => none }
def fnExactSpareRow : OpenClaim := { program := "ytpjeibdllddkjaa", sum := "b228ab84ca782e437aa765681f22ff3c4e91f36fb4a46ffb27dead3269ad4842", func := "loop.example/g00125/laws.FnExactSpare", spec := "fnExactSpare", unfollowed := true, recurses := true, loops := true, apart := false }
def FnExactSpareSaid : Prop := fnExactSpareRow.holds Try.pinned (OpenSpec.ofChange fnExactSpareSpec)

/-- ITS FALSE NEIGHBOUR: 'it returns false'. Refute it at one input. -/
def fnExactSpareWrong : ChangeSpec := { name := "fnExactSpare", fn := fun _ => fun
  | [d] => { results := [.lit (.bool false)], args := [d] }
  | _ => none }
def FnExactSpareWrongFalsely : Prop := fnExactSpareRow.holds Try.pinned (OpenSpec.ofChange fnExactSpareWrong)

/-- 'laws.FnExactNot': WHATEVER THE INPUT: true; the input reads as it did. -/
def fnExactNotSpec : ChangeSpec := { name := "fnExactNot", fn := fun _ => fun
  | [d] => { results := [.lit (.bool true)], args := [d] }
  | _ => none }
def fnExactNotRow : OpenClaim := { program := "ytpjeibdllddkjaa", sum := "b228ab84ca782e437aa765681f22ff3c4e91f36fb4a46ffb27dead3269ad4842", func := "loop.example/g00125/laws.FnExactNot", spec := "fnExactNot", recurses := true, loops := true, apart := false }
def FnExactNotSaid : Prop := fnExactNotRow.holds Try.pinned (OpenSpec.ofChange fnExactNotSpec)

/-- ITS FALSE NEIGHBOUR: 'it returns false'. Refute it at one input. -/
def fnExactNotWrong : ChangeSpec := { name := "fnExactNot", fn := fun _ => fun
  | [d] => { results := [.lit (.bool false)], args := [d] }
  | _ => none }
def FnExactNotWrongFalsely : Prop := fnExactNotRow.holds Try.pinned (OpenSpec.ofChange fnExactNotWrong)

/-- 'laws.FnExactDeskOk': WHATEVER THE INPUT: true; the input reads as it did. -/
def fnExactDeskOkSpec : ChangeSpec := { name := "fnExactDeskOk", fn := fun _ => fun
  | [d] => { results := [.lit (.bool true)], args := [d] }
  | _ => none }
def fnExactDeskOkRow : OpenClaim := { program := "ytpjeibdllddkjaa", sum := "b228ab84ca782e437aa765681f22ff3c4e91f36fb4a46ffb27dead3269ad4842", func := "loop.example/g00125/laws.FnExactDeskOk", spec := "fnExactDeskOk", unfollowed := true, recurses := true, loops := true, apart := false }
def FnExactDeskOkSaid : Prop := fnExactDeskOkRow.holds Try.pinned (OpenSpec.ofChange fnExactDeskOkSpec)

/-- ITS FALSE NEIGHBOUR: 'it returns false'. Refute it at one input. -/
def fnExactDeskOkWrong : ChangeSpec := { name := "fnExactDeskOk", fn := fun _ => fun
  | [d] => { results := [.lit (.bool false)], args := [d] }
  | _ => none }
def FnExactDeskOkWrongFalsely : Prop := fnExactDeskOkRow.holds Try.pinned (OpenSpec.ofChange fnExactDeskOkWrong)

/-- 'laws.FnExactPutSolid': WHATEVER THE INPUT: true; the input reads as it did. -/
def fnExactPutSolidSpec : ChangeSpec := { name := "fnExactPutSolid", fn := fun _ => fun
  | [d] => { results := [.lit (.bool true)], args := [d] }
  | _ => none }
def fnExactPutSolidRow : OpenClaim := { program := "ytpjeibdllddkjaa", sum := "b228ab84ca782e437aa765681f22ff3c4e91f36fb4a46ffb27dead3269ad4842", func := "loop.example/g00125/laws.FnExactPutSolid", spec := "fnExactPutSolid", recurses := true, loops := true, apart := false }
def FnExactPutSolidSaid : Prop := fnExactPutSolidRow.holds Try.pinned (OpenSpec.ofChange fnExactPutSolidSpec)

/-- ITS FALSE NEIGHBOUR: 'it returns false'. Refute it at one input. -/
def fnExactPutSolidWrong : ChangeSpec := { name := "fnExactPutSolid", fn := fun _ => fun
  | [d] => { results := [.lit (.bool false)], args := [d] }
  | _ => none }
def FnExactPutSolidWrongFalsely : Prop := fnExactPutSolidRow.holds Try.pinned (OpenSpec.ofChange fnExactPutSolidWrong)

/-- 'laws.FnExactHeld': WHATEVER THE INPUT: true; the input reads as it did. -/
def fnExactHeldSpec : ChangeSpec := { name := "fnExactHeld", fn := fun _ => fun
  | [d] => { results := [.lit (.bool true)], args := [d] }
  | _ => none }
def fnExactHeldRow : OpenClaim := { program := "ytpjeibdllddkjaa", sum := "b228ab84ca782e437aa765681f22ff3c4e91f36fb4a46ffb27dead3269ad4842", func := "loop.example/g00125/laws.FnExactHeld", spec := "fnExactHeld", unfollowed := true, recurses := true, loops := true, apart := false }
def FnExactHeldSaid : Prop := fnExactHeldRow.holds Try.pinned (OpenSpec.ofChange fnExactHeldSpec)

/-- ITS FALSE NEIGHBOUR: 'it returns false'. Refute it at one input. -/
def fnExactHeldWrong : ChangeSpec := { name := "fnExactHeld", fn := fun _ => fun
  | [d] => { results := [.lit (.bool false)], args := [d] }
  | _ => none }
def FnExactHeldWrongFalsely : Prop := fnExactHeldRow.holds Try.pinned (OpenSpec.ofChange fnExactHeldWrong)

/-- 'laws.FnExactMirror': WHATEVER THE INPUT: true; the input reads as it did. -/
def fnExactMirrorSpec : ChangeSpec := { name := "fnExactMirror", fn := fun _ => fun
  | [d1, d2] => { results := [.lit (.bool true)], args := [d1, d2] }
  | _ => none }
def fnExactMirrorRow : OpenClaim := { program := "ytpjeibdllddkjaa", sum := "b228ab84ca782e437aa765681f22ff3c4e91f36fb4a46ffb27dead3269ad4842", func := "loop.example/g00125/laws.FnExactMirror", spec := "fnExactMirror", unfollowed := true, recurses := true, loops := true, apart := false }
def FnExactMirrorSaid : Prop := fnExactMirrorRow.holds Try.pinned (OpenSpec.ofChange fnExactMirrorSpec)

/-- ITS FALSE NEIGHBOUR: 'it returns false'. Refute it at one input. -/
def fnExactMirrorWrong : ChangeSpec := { name := "fnExactMirror", fn := fun _ => fun
  | [d1, d2] => { results := [.lit (.bool false)], args := [d1, d2] }
  | _ => none }
def FnExactMirrorWrongFalsely : Prop := fnExactMirrorRow.holds Try.pinned (OpenSpec.ofChange fnExactMirrorWrong)

/- THE SECOND FORM. 'bulk': how many values and letters a reading holds, each counted each time it is reached (what is shared counts as often as it is met; a slice's spare places count too). A statement '..UptoSaid' is the law's where the arguments, and the package variables that the reading takes, are together of bulk at most 1048576: NARROWER than '..Said'. Prove '..Said' where nothing that the law and all that it calls make is longer than what came in: it says more and counts as full. Else prove '..UptoSaid'. A law counts once. -/
mutual
def uptoBulk {H : Type} : DataW H → Nat
  | .lit (.string bytes) => bytes.length + 1
  | .lit _ => 1
  | .nil => 1
  | .ptr d => uptoBulk d + 1
  | .slice elems spare => uptoBulkAll elems + uptoBulkAll spare + 1
  | .agg parts => uptoBulkAll parts + 1
  | .iface _ d => uptoBulk d + 1
  | .map entries => uptoBulkEntries entries + 1
  | .held _ => 1
def uptoBulkAll {H : Type} : List (DataW H) → Nat
  | [] => 0
  | d :: r => uptoBulk d + uptoBulkAll r
def uptoBulkEntries {H : Type} : List (Lit × DataW H) → Nat
  | [] => 0
  | x :: r => uptoBulkEntry x + uptoBulkEntries r
def uptoBulkEntry {H : Type} : Lit × DataW H → Nat
  | (.string bytes, d) => bytes.length + uptoBulk d + 1
  | (_, d) => uptoBulk d + 1
 end
def uptoSmall : (H : Type) → List (DataW H) → Bool := fun _ ds => decide (uptoBulkAll ds ≤ 1048576)
def OpenSpec.upto (s : _root_.Go.ChangeSpec) : _root_.Go.OpenSpec := { _root_.Go.OpenSpec.ofChange s with cond := some uptoSmall }

/-- 'laws.FnExactTurnPt', WHERE WHAT IT READS IS OF BULK AT MOST 1048576: true; the input reads as it did. -/
def fnExactTurnPtUptoRow : OpenClaim := { program := "ytpjeibdllddkjaa", sum := "b228ab84ca782e437aa765681f22ff3c4e91f36fb4a46ffb27dead3269ad4842", func := "loop.example/g00125/laws.FnExactTurnPt", spec := "fnExactTurnPt", apart := false, narrowed := true }
def FnExactTurnPtUptoSaid : Prop := fnExactTurnPtUptoRow.holds Try.pinned (OpenSpec.upto fnExactTurnPtSpec)

/-- 'laws.FnExactEverything', WHERE WHAT IT READS IS OF BULK AT MOST 1048576: true; the input reads as it did. -/
def fnExactEverythingUptoRow : OpenClaim := { program := "ytpjeibdllddkjaa", sum := "b228ab84ca782e437aa765681f22ff3c4e91f36fb4a46ffb27dead3269ad4842", func := "loop.example/g00125/laws.FnExactEverything", spec := "fnExactEverything", recurses := true, loops := true, apart := false, narrowed := true }
def FnExactEverythingUptoSaid : Prop := fnExactEverythingUptoRow.holds Try.pinned (OpenSpec.upto fnExactEverythingSpec)

/-- 'laws.FnExactNothing', WHERE WHAT IT READS IS OF BULK AT MOST 1048576: true; the input reads as it did. -/
def fnExactNothingUptoRow : OpenClaim := { program := "ytpjeibdllddkjaa", sum := "b228ab84ca782e437aa765681f22ff3c4e91f36fb4a46ffb27dead3269ad4842", func := "loop.example/g00125/laws.FnExactNothing", spec := "fnExactNothing", recurses := true, loops := true, apart := false, narrowed := true }
def FnExactNothingUptoSaid : Prop := fnExactNothingUptoRow.holds Try.pinned (OpenSpec.upto fnExactNothingSpec)

/-- 'laws.FnExactSumOf', WHERE WHAT IT READS IS OF BULK AT MOST 1048576: true; the input reads as it did. -/
def fnExactSumOfUptoRow : OpenClaim := { program := "ytpjeibdllddkjaa", sum := "b228ab84ca782e437aa765681f22ff3c4e91f36fb4a46ffb27dead3269ad4842", func := "loop.example/g00125/laws.FnExactSumOf", spec := "fnExactSumOf", recurses := true, loops := true, apart := false, narrowed := true }
def FnExactSumOfUptoSaid : Prop := fnExactSumOfUptoRow.holds Try.pinned (OpenSpec.upto fnExactSumOfSpec)

/-- 'laws.FnExactSpare', WHERE WHAT IT READS IS OF BULK AT MOST 1048576: true; the input reads as it did. -/
def fnExactSpareUptoRow : OpenClaim := { program := "ytpjeibdllddkjaa", sum := "b228ab84ca782e437aa765681f22ff3c4e91f36fb4a46ffb27dead3269ad4842", func := "loop.example/g00125/laws.FnExactSpare", spec := "fnExactSpare", unfollowed := true, recurses := true, loops := true, apart := false, narrowed := true }
def FnExactSpareUptoSaid : Prop := fnExactSpareUptoRow.holds Try.pinned (OpenSpec.upto fnExactSpareSpec)

/-- 'laws.FnExactNot', WHERE WHAT IT READS IS OF BULK AT MOST 1048576: true; the input reads as it did. -/
def fnExactNotUptoRow : OpenClaim := { program := "ytpjeibdllddkjaa", sum := "b228ab84ca782e437aa765681f22ff3c4e91f36fb4a46ffb27dead3269ad4842", func := "loop.example/g00125/laws.FnExactNot", spec := "fnExactNot", recurses := true, loops := true, apart := false, narrowed := true }
def FnExactNotUptoSaid : Prop := fnExactNotUptoRow.holds Try.pinned (OpenSpec.upto fnExactNotSpec)

/-- 'laws.FnExactDeskOk', WHERE WHAT IT READS IS OF BULK AT MOST 1048576: true; the input reads as it did. -/
def fnExactDeskOkUptoRow : OpenClaim := { program := "ytpjeibdllddkjaa", sum := "b228ab84ca782e437aa765681f22ff3c4e91f36fb4a46ffb27dead3269ad4842", func := "loop.example/g00125/laws.FnExactDeskOk", spec := "fnExactDeskOk", unfollowed := true, recurses := true, loops := true, apart := false, narrowed := true }
def FnExactDeskOkUptoSaid : Prop := fnExactDeskOkUptoRow.holds Try.pinned (OpenSpec.upto fnExactDeskOkSpec)

/-- 'laws.FnExactPutSolid', WHERE WHAT IT READS IS OF BULK AT MOST 1048576: true; the input reads as it did. -/
def fnExactPutSolidUptoRow : OpenClaim := { program := "ytpjeibdllddkjaa", sum := "b228ab84ca782e437aa765681f22ff3c4e91f36fb4a46ffb27dead3269ad4842", func := "loop.example/g00125/laws.FnExactPutSolid", spec := "fnExactPutSolid", recurses := true, loops := true, apart := false, narrowed := true }
def FnExactPutSolidUptoSaid : Prop := fnExactPutSolidUptoRow.holds Try.pinned (OpenSpec.upto fnExactPutSolidSpec)

/-- 'laws.FnExactHeld', WHERE WHAT IT READS IS OF BULK AT MOST 1048576: true; the input reads as it did. -/
def fnExactHeldUptoRow : OpenClaim := { program := "ytpjeibdllddkjaa", sum := "b228ab84ca782e437aa765681f22ff3c4e91f36fb4a46ffb27dead3269ad4842", func := "loop.example/g00125/laws.FnExactHeld", spec := "fnExactHeld", unfollowed := true, recurses := true, loops := true, apart := false, narrowed := true }
def FnExactHeldUptoSaid : Prop := fnExactHeldUptoRow.holds Try.pinned (OpenSpec.upto fnExactHeldSpec)

/-- 'laws.FnExactMirror', WHERE WHAT IT READS IS OF BULK AT MOST 1048576: true; the input reads as it did. -/
def fnExactMirrorUptoRow : OpenClaim := { program := "ytpjeibdllddkjaa", sum := "b228ab84ca782e437aa765681f22ff3c4e91f36fb4a46ffb27dead3269ad4842", func := "loop.example/g00125/laws.FnExactMirror", spec := "fnExactMirror", unfollowed := true, recurses := true, loops := true, apart := false, narrowed := true }
def FnExactMirrorUptoSaid : Prop := fnExactMirrorUptoRow.holds Try.pinned (OpenSpec.upto fnExactMirrorSpec)

end Rows
end Go.Proofs.Ytpjeibdllddkjaa
