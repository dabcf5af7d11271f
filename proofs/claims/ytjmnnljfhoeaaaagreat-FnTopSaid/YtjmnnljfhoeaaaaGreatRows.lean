/-
  No cell of these rows narrows 'for every input' (looked for: loops, veiled, ifaces, maps, wideKeys, modest, calm, conditions, laid).
  DERIVED. THE GIVEN ROWS OF THIS SEAT. 8 by the template 'for every input the law returns true; each argument reads behind the call as it read before'; 0 by the template 'total and deterministic' (their statements: YtjmnnljfhoeaaaaGreatTotals.lean).
  GIVEN WITH THE SEED: the statements are not yours to turn. If you find one false, say at which input.
  Laid BY PROGRAM, IN A SANDBOX (cutbox-rows.mjs): the forced cells as the released guide's own fill.sh prints them over the translation 7d6418f7de4fe5dd… (all of the seat's roots in one cut). By AI agents, Wed Nov 11 2026. No macro, syntax, notation, axiom, sorry.
-/
import Derived.Test.YtjmnnljfhoeaaaaGreatChecked
import GoSem.Claim
import GoSem.ClaimJoined
import GoSem.ClaimMapViews
import Derived.JoinedTies
import Derived.KernelRfl
namespace Go.Proofs.YtjmnnljfhoeaaaaGreat
/- THE CELL 'sum', in the pinned program and in every row, IS THE sha256 OF THE DUMP (.gsa) THAT YtjmnnljfhoeaaaaGreatProg.lean LOADS. Nothing in Lean hashes anything: it is a label: what it is worth is what the hold of that sum in a sandbox is worth. -/
noncomputable def Tryz.pinned : Pinned := { name := "ytjmnnljfhoeaaaagreat", sum := "7d6418f7de4fe5ddb9000718b00f2dfb9136119c1835101f8a52183f3263c179", checked := Tryz.checked }
namespace Rows
def none {H : Type} : Left H := { results := [], args := [] }

/-- 'laws.FnTurned': WHATEVER THE INPUT: true; the input reads as it did. -/
def fnTurnedSpec : ChangeSpec := { name := "fnTurned", fn := fun _ => fun
  | [d] => { results := [.lit (.bool true)], args := [d] }
  | _ => none }
def fnTurnedRow : OpenClaim := { program := "ytjmnnljfhoeaaaagreat", sum := "7d6418f7de4fe5ddb9000718b00f2dfb9136119c1835101f8a52183f3263c179", func := "loop.example/g00125/laws.FnTurned", spec := "fnTurned", unfollowed := true, recurses := true, apart := false }
def FnTurnedSaid : Prop := fnTurnedRow.holds Tryz.pinned (OpenSpec.ofChange fnTurnedSpec)

/-- ITS FALSE NEIGHBOUR: 'it returns false'. Refute it at one input. -/
def fnTurnedWrong : ChangeSpec := { name := "fnTurned", fn := fun _ => fun
  | [d] => { results := [.lit (.bool false)], args := [d] }
  | _ => none }
def FnTurnedWrongFalsely : Prop := fnTurnedRow.holds Tryz.pinned (OpenSpec.ofChange fnTurnedWrong)

/-- 'laws.FnAsked': WHATEVER THE INPUT: true; the input reads as it did. -/
def fnAskedSpec : ChangeSpec := { name := "fnAsked", fn := fun _ => fun
  | [d] => { results := [.lit (.bool true)], args := [d] }
  | _ => none }
def fnAskedRow : OpenClaim := { program := "ytjmnnljfhoeaaaagreat", sum := "7d6418f7de4fe5ddb9000718b00f2dfb9136119c1835101f8a52183f3263c179", func := "loop.example/g00125/laws.FnAsked", spec := "fnAsked", recurses := true, apart := false }
def FnAskedSaid : Prop := fnAskedRow.holds Tryz.pinned (OpenSpec.ofChange fnAskedSpec)

/-- ITS FALSE NEIGHBOUR: 'it returns false'. Refute it at one input. -/
def fnAskedWrong : ChangeSpec := { name := "fnAsked", fn := fun _ => fun
  | [d] => { results := [.lit (.bool false)], args := [d] }
  | _ => none }
def FnAskedWrongFalsely : Prop := fnAskedRow.holds Tryz.pinned (OpenSpec.ofChange fnAskedWrong)

/-- 'laws.FnMoved': WHATEVER THE INPUT: true; the input reads as it did. -/
def fnMovedSpec : ChangeSpec := { name := "fnMoved", fn := fun _ => fun
  | [d] => { results := [.lit (.bool true)], args := [d] }
  | _ => none }
def fnMovedRow : OpenClaim := { program := "ytjmnnljfhoeaaaagreat", sum := "7d6418f7de4fe5ddb9000718b00f2dfb9136119c1835101f8a52183f3263c179", func := "loop.example/g00125/laws.FnMoved", spec := "fnMoved", unfollowed := true, recurses := true, apart := false }
def FnMovedSaid : Prop := fnMovedRow.holds Tryz.pinned (OpenSpec.ofChange fnMovedSpec)

/-- ITS FALSE NEIGHBOUR: 'it returns false'. Refute it at one input. -/
def fnMovedWrong : ChangeSpec := { name := "fnMoved", fn := fun _ => fun
  | [d] => { results := [.lit (.bool false)], args := [d] }
  | _ => none }
def FnMovedWrongFalsely : Prop := fnMovedRow.holds Tryz.pinned (OpenSpec.ofChange fnMovedWrong)

/-- 'laws.FnCutUp': WHATEVER THE INPUT: true; the input reads as it did. -/
def fnCutUpSpec : ChangeSpec := { name := "fnCutUp", fn := fun _ => fun
  | [d] => { results := [.lit (.bool true)], args := [d] }
  | _ => none }
def fnCutUpRow : OpenClaim := { program := "ytjmnnljfhoeaaaagreat", sum := "7d6418f7de4fe5ddb9000718b00f2dfb9136119c1835101f8a52183f3263c179", func := "loop.example/g00125/laws.FnCutUp", spec := "fnCutUp", recurses := true, apart := false }
def FnCutUpSaid : Prop := fnCutUpRow.holds Tryz.pinned (OpenSpec.ofChange fnCutUpSpec)

/-- ITS FALSE NEIGHBOUR: 'it returns false'. Refute it at one input. -/
def fnCutUpWrong : ChangeSpec := { name := "fnCutUp", fn := fun _ => fun
  | [d] => { results := [.lit (.bool false)], args := [d] }
  | _ => none }
def FnCutUpWrongFalsely : Prop := fnCutUpRow.holds Tryz.pinned (OpenSpec.ofChange fnCutUpWrong)

/-- 'laws.FnShelled': WHATEVER THE INPUT: true; the input reads as it did. -/
def fnShelledSpec : ChangeSpec := { name := "fnShelled", fn := fun _ => fun
  | [d] => { results := [.lit (.bool true)], args := [d] }
  | _ => none }
def fnShelledRow : OpenClaim := { program := "ytjmnnljfhoeaaaagreat", sum := "7d6418f7de4fe5ddb9000718b00f2dfb9136119c1835101f8a52183f3263c179", func := "loop.example/g00125/laws.FnShelled", spec := "fnShelled", recurses := true, apart := false }
def FnShelledSaid : Prop := fnShelledRow.holds Tryz.pinned (OpenSpec.ofChange fnShelledSpec)

/-- ITS FALSE NEIGHBOUR: 'it returns false'. Refute it at one input. -/
def fnShelledWrong : ChangeSpec := { name := "fnShelled", fn := fun _ => fun
  | [d] => { results := [.lit (.bool false)], args := [d] }
  | _ => none }
def FnShelledWrongFalsely : Prop := fnShelledRow.holds Tryz.pinned (OpenSpec.ofChange fnShelledWrong)

/-- 'laws.FnCounted': WHATEVER THE INPUT: true; the input reads as it did. -/
def fnCountedSpec : ChangeSpec := { name := "fnCounted", fn := fun _ => fun
  | [d] => { results := [.lit (.bool true)], args := [d] }
  | _ => none }
def fnCountedRow : OpenClaim := { program := "ytjmnnljfhoeaaaagreat", sum := "7d6418f7de4fe5ddb9000718b00f2dfb9136119c1835101f8a52183f3263c179", func := "loop.example/g00125/laws.FnCounted", spec := "fnCounted", inPlace := ["internal/abi.NoEscape"], recurses := true, apart := false }
def FnCountedSaid : Prop := fnCountedRow.holds Tryz.pinned (OpenSpec.ofChange fnCountedSpec)

/-- ITS FALSE NEIGHBOUR: 'it returns false'. Refute it at one input. -/
def fnCountedWrong : ChangeSpec := { name := "fnCounted", fn := fun _ => fun
  | [d] => { results := [.lit (.bool false)], args := [d] }
  | _ => none }
def FnCountedWrongFalsely : Prop := fnCountedRow.holds Tryz.pinned (OpenSpec.ofChange fnCountedWrong)

/-- 'laws.FnTop': WHATEVER THE INPUT: true; the input reads as it did. -/
def fnTopSpec : ChangeSpec := { name := "fnTop", fn := fun _ => fun
  | [d] => { results := [.lit (.bool true)], args := [d] }
  | _ => none }
def fnTopRow : OpenClaim := { program := "ytjmnnljfhoeaaaagreat", sum := "7d6418f7de4fe5ddb9000718b00f2dfb9136119c1835101f8a52183f3263c179", func := "loop.example/g00125/laws.FnTop", spec := "fnTop", unfollowed := true, recurses := true, apart := false }
def FnTopSaid : Prop := fnTopRow.holds Tryz.pinned (OpenSpec.ofChange fnTopSpec)

/-- ITS FALSE NEIGHBOUR: 'it returns false'. Refute it at one input. -/
def fnTopWrong : ChangeSpec := { name := "fnTop", fn := fun _ => fun
  | [d] => { results := [.lit (.bool false)], args := [d] }
  | _ => none }
def FnTopWrongFalsely : Prop := fnTopRow.holds Tryz.pinned (OpenSpec.ofChange fnTopWrong)

/-- 'laws.FnTidied': WHATEVER THE INPUT: true; the input reads as it did. -/
def fnTidiedSpec : ChangeSpec := { name := "fnTidied", fn := fun _ => fun
  | [d] => { results := [.lit (.bool true)], args := [d] }
  | _ => none }
def fnTidiedRow : OpenClaim := { program := "ytjmnnljfhoeaaaagreat", sum := "7d6418f7de4fe5ddb9000718b00f2dfb9136119c1835101f8a52183f3263c179", func := "loop.example/g00125/laws.FnTidied", spec := "fnTidied", unfollowed := true, recurses := true, apart := false }
def FnTidiedSaid : Prop := fnTidiedRow.holds Tryz.pinned (OpenSpec.ofChange fnTidiedSpec)

/-- ITS FALSE NEIGHBOUR: 'it returns false'. Refute it at one input. -/
def fnTidiedWrong : ChangeSpec := { name := "fnTidied", fn := fun _ => fun
  | [d] => { results := [.lit (.bool false)], args := [d] }
  | _ => none }
def FnTidiedWrongFalsely : Prop := fnTidiedRow.holds Tryz.pinned (OpenSpec.ofChange fnTidiedWrong)

/- THE SECOND FORM. 'bulk': how many values and letters a reading holds, each counted each time it is reached (what is shared counts as often as it is met; a slice's spare places count too). A statement '..UptoSaid' is the law's where the arguments, and the package variables that the reading takes, are together of bulk at most 1048576: NARROWER than '..Said'. Prove '..Said' where nothing that the law and all that it calls make is longer than what came in: it says more and counts as full. Else prove '..UptoSaid'. A law counts once. -/
mutual
def uptoBulk {H : Type} : DataW H → Nat
  | .lit (.string bytes) => bytes.length + 1
  | .lit _ => 1
  | .nil => 1
  | .ptr d => uptoBulk d + 1
  | .slice elems spare => uptoBulkAll elems + uptoBulkAll spare + 1
  | .agg parts => uptoBulkAll parts + 1
  | .iface _ d => uptoBulk d + 1
  | .map entries => uptoBulkEntries entries + 1
  | .held _ => 1
def uptoBulkAll {H : Type} : List (DataW H) → Nat
  | [] => 0
  | d :: r => uptoBulk d + uptoBulkAll r
def uptoBulkEntries {H : Type} : List (Lit × DataW H) → Nat
  | [] => 0
  | x :: r => uptoBulkEntry x + uptoBulkEntries r
def uptoBulkEntry {H : Type} : Lit × DataW H → Nat
  | (.string bytes, d) => bytes.length + uptoBulk d + 1
  | (_, d) => uptoBulk d + 1
 end
def uptoSmall : (H : Type) → List (DataW H) → Bool := fun _ ds => decide (uptoBulkAll ds ≤ 1048576)
def OpenSpec.upto (s : _root_.Go.ChangeSpec) : _root_.Go.OpenSpec := { _root_.Go.OpenSpec.ofChange s with cond := some uptoSmall }

/-- 'laws.FnTurned', WHERE WHAT IT READS IS OF BULK AT MOST 1048576: true; the input reads as it did. -/
def fnTurnedUptoRow : OpenClaim := { program := "ytjmnnljfhoeaaaagreat", sum := "7d6418f7de4fe5ddb9000718b00f2dfb9136119c1835101f8a52183f3263c179", func := "loop.example/g00125/laws.FnTurned", spec := "fnTurned", unfollowed := true, recurses := true, apart := false, narrowed := true }
def FnTurnedUptoSaid : Prop := fnTurnedUptoRow.holds Tryz.pinned (OpenSpec.upto fnTurnedSpec)

/-- 'laws.FnAsked', WHERE WHAT IT READS IS OF BULK AT MOST 1048576: true; the input reads as it did. -/
def fnAskedUptoRow : OpenClaim := { program := "ytjmnnljfhoeaaaagreat", sum := "7d6418f7de4fe5ddb9000718b00f2dfb9136119c1835101f8a52183f3263c179", func := "loop.example/g00125/laws.FnAsked", spec := "fnAsked", recurses := true, apart := false, narrowed := true }
def FnAskedUptoSaid : Prop := fnAskedUptoRow.holds Tryz.pinned (OpenSpec.upto fnAskedSpec)

/-- 'laws.FnMoved', WHERE WHAT IT READS IS OF BULK AT MOST 1048576: true; the input reads as it did. -/
def fnMovedUptoRow : OpenClaim := { program := "ytjmnnljfhoeaaaagreat", sum := "7d6418f7de4fe5ddb9000718b00f2dfb9136119c1835101f8a52183f3263c179", func := "loop.example/g00125/laws.FnMoved", spec := "fnMoved", unfollowed := true, recurses := true, apart := false, narrowed := true }
def FnMovedUptoSaid : Prop := fnMovedUptoRow.holds Tryz.pinned (OpenSpec.upto fnMovedSpec)

/-- 'laws.FnCutUp', WHERE WHAT IT READS IS OF BULK AT MOST 1048576: true; the input reads as it did. -/
def fnCutUpUptoRow : OpenClaim := { program := "ytjmnnljfhoeaaaagreat", sum := "7d6418f7de4fe5ddb9000718b00f2dfb9136119c1835101f8a52183f3263c179", func := "loop.example/g00125/laws.FnCutUp", spec := "fnCutUp", recurses := true, apart := false, narrowed := true }
def FnCutUpUptoSaid : Prop := fnCutUpUptoRow.holds Tryz.pinned (OpenSpec.upto fnCutUpSpec)

/-- 'laws.FnShelled', WHERE WHAT IT READS IS OF BULK AT MOST 1048576: true; the input reads as it did. -/
def fnShelledUptoRow : OpenClaim := { program := "ytjmnnljfhoeaaaagreat", sum := "7d6418f7de4fe5ddb9000718b00f2dfb9136119c1835101f8a52183f3263c179", func := "loop.example/g00125/laws.FnShelled", spec := "fnShelled", recurses := true, apart := false, narrowed := true }
def FnShelledUptoSaid : Prop := fnShelledUptoRow.holds Tryz.pinned (OpenSpec.upto fnShelledSpec)

/-- 'laws.FnCounted', WHERE WHAT IT READS IS OF BULK AT MOST 1048576: true; the input reads as it did. -/
def fnCountedUptoRow : OpenClaim := { program := "ytjmnnljfhoeaaaagreat", sum := "7d6418f7de4fe5ddb9000718b00f2dfb9136119c1835101f8a52183f3263c179", func := "loop.example/g00125/laws.FnCounted", spec := "fnCounted", inPlace := ["internal/abi.NoEscape"], recurses := true, apart := false, narrowed := true }
def FnCountedUptoSaid : Prop := fnCountedUptoRow.holds Tryz.pinned (OpenSpec.upto fnCountedSpec)

/-- 'laws.FnTop', WHERE WHAT IT READS IS OF BULK AT MOST 1048576: true; the input reads as it did. -/
def fnTopUptoRow : OpenClaim := { program := "ytjmnnljfhoeaaaagreat", sum := "7d6418f7de4fe5ddb9000718b00f2dfb9136119c1835101f8a52183f3263c179", func := "loop.example/g00125/laws.FnTop", spec := "fnTop", unfollowed := true, recurses := true, apart := false, narrowed := true }
def FnTopUptoSaid : Prop := fnTopUptoRow.holds Tryz.pinned (OpenSpec.upto fnTopSpec)

/-- 'laws.FnTidied', WHERE WHAT IT READS IS OF BULK AT MOST 1048576: true; the input reads as it did. -/
def fnTidiedUptoRow : OpenClaim := { program := "ytjmnnljfhoeaaaagreat", sum := "7d6418f7de4fe5ddb9000718b00f2dfb9136119c1835101f8a52183f3263c179", func := "loop.example/g00125/laws.FnTidied", spec := "fnTidied", unfollowed := true, recurses := true, apart := false, narrowed := true }
def FnTidiedUptoSaid : Prop := fnTidiedUptoRow.holds Tryz.pinned (OpenSpec.upto fnTidiedSpec)

end Rows
end Go.Proofs.YtjmnnljfhoeaaaaGreat
