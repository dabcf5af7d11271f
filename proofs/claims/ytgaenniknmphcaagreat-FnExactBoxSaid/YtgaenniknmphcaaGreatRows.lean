/-
  NARROWER THAN 'FOR EVERY INPUT', by the rows' own cells (each row's printed sentence says how): FnExactBox: loops.
  DERIVED. THE GIVEN ROWS OF THIS SEAT. 4 by the template 'for every input the law returns true; each argument reads behind the call as it read before'; 0 by the template 'total and deterministic' (their statements: YtgaenniknmphcaaGreatTotals.lean).
  GIVEN WITH THE SEED: the statements are not yours to turn. If you find one false, say at which input.
  Laid BY PROGRAM, IN A SANDBOX (cutbox-rows.mjs): the forced cells as the released guide's own fill.sh prints them over the translation e2c0d4e9a6f8b1c6… (all of the seat's roots in one cut). By AI agents, Wed Nov 11 2026. No macro, syntax, notation, axiom, sorry.
-/
import Derived.Test.YtgaenniknmphcaaGreatChecked
import GoSem.Claim
import GoSem.ClaimJoined
import GoSem.ClaimMapViews
import Derived.JoinedTies
import Derived.KernelRfl
namespace Go.Proofs.YtgaenniknmphcaaGreat
/- THE CELL 'sum', in the pinned program and in every row, IS THE sha256 OF THE DUMP (.gsa) THAT YtgaenniknmphcaaGreatProg.lean LOADS. Nothing in Lean hashes anything: it is a label: what it is worth is what the hold of that sum in a sandbox is worth. -/
noncomputable def Tryz.pinned : Pinned := { name := "ytgaenniknmphcaagreat", sum := "e2c0d4e9a6f8b1c639208d29b640e2293fa31c9289ca8f96758758cb13b569c0", checked := Tryz.checked }
namespace Rows
def none {H : Type} : Left H := { results := [], args := [] }

/-- 'laws.FnExactBox': WHATEVER THE INPUT: true; the input reads as it did. -/
def fnExactBoxSpec : ChangeSpec := { name := "fnExactBox", fn := fun _ => fun
  | [d] => { results := [.lit (.bool true)], args := [d] }
  | _ => none }
def fnExactBoxRow : OpenClaim := { program := "ytgaenniknmphcaagreat", sum := "e2c0d4e9a6f8b1c639208d29b640e2293fa31c9289ca8f96758758cb13b569c0", func := "loop.example/g00125/laws.FnExactBox", spec := "fnExactBox", unfollowed := true, recurses := true, loops := true, apart := false }
def FnExactBoxSaid : Prop := fnExactBoxRow.holds Tryz.pinned (OpenSpec.ofChange fnExactBoxSpec)

/-- ITS FALSE NEIGHBOUR: 'it returns false'. Refute it at one input. -/
def fnExactBoxWrong : ChangeSpec := { name := "fnExactBox", fn := fun _ => fun
  | [d] => { results := [.lit (.bool false)], args := [d] }
  | _ => none }
def FnExactBoxWrongFalsely : Prop := fnExactBoxRow.holds Tryz.pinned (OpenSpec.ofChange fnExactBoxWrong)

/-- 'laws.FnPieces': WHATEVER THE INPUT: true; the input reads as it did. -/
def fnPiecesSpec : ChangeSpec := { name := "fnPieces", fn := fun _ => fun
  | [d] => { results := [.lit (.bool true)], args := [d] }
  | _ => none }
def fnPiecesRow : OpenClaim := { program := "ytgaenniknmphcaagreat", sum := "e2c0d4e9a6f8b1c639208d29b640e2293fa31c9289ca8f96758758cb13b569c0", func := "loop.example/g00125/laws.FnPieces", spec := "fnPieces", recurses := true, apart := false }
def FnPiecesSaid : Prop := fnPiecesRow.holds Tryz.pinned (OpenSpec.ofChange fnPiecesSpec)

/-- ITS FALSE NEIGHBOUR: 'it returns false'. Refute it at one input. -/
def fnPiecesWrong : ChangeSpec := { name := "fnPieces", fn := fun _ => fun
  | [d] => { results := [.lit (.bool false)], args := [d] }
  | _ => none }
def FnPiecesWrongFalsely : Prop := fnPiecesRow.holds Tryz.pinned (OpenSpec.ofChange fnPiecesWrong)

/-- 'laws.FnDesk': WHATEVER THE INPUT: true; the input reads as it did. -/
def fnDeskSpec : ChangeSpec := { name := "fnDesk", fn := fun _ => fun
  | [d] => { results := [.lit (.bool true)], args := [d] }
  | _ => none }
def fnDeskRow : OpenClaim := { program := "ytgaenniknmphcaagreat", sum := "e2c0d4e9a6f8b1c639208d29b640e2293fa31c9289ca8f96758758cb13b569c0", func := "loop.example/g00125/laws.FnDesk", spec := "fnDesk", unfollowed := true, recurses := true, apart := false }
def FnDeskSaid : Prop := fnDeskRow.holds Tryz.pinned (OpenSpec.ofChange fnDeskSpec)

/-- ITS FALSE NEIGHBOUR: 'it returns false'. Refute it at one input. -/
def fnDeskWrong : ChangeSpec := { name := "fnDesk", fn := fun _ => fun
  | [d] => { results := [.lit (.bool false)], args := [d] }
  | _ => none }
def FnDeskWrongFalsely : Prop := fnDeskRow.holds Tryz.pinned (OpenSpec.ofChange fnDeskWrong)

/-- 'laws.FnCells': WHATEVER THE INPUT: true; the input reads as it did. -/
def fnCellsSpec : ChangeSpec := { name := "fnCells", fn := fun _ => fun
  | [d] => { results := [.lit (.bool true)], args := [d] }
  | _ => none }
def fnCellsRow : OpenClaim := { program := "ytgaenniknmphcaagreat", sum := "e2c0d4e9a6f8b1c639208d29b640e2293fa31c9289ca8f96758758cb13b569c0", func := "loop.example/g00125/laws.FnCells", spec := "fnCells", unfollowed := true, recurses := true, apart := false }
def FnCellsSaid : Prop := fnCellsRow.holds Tryz.pinned (OpenSpec.ofChange fnCellsSpec)

/-- ITS FALSE NEIGHBOUR: 'it returns false'. Refute it at one input. -/
def fnCellsWrong : ChangeSpec := { name := "fnCells", fn := fun _ => fun
  | [d] => { results := [.lit (.bool false)], args := [d] }
  | _ => none }
def FnCellsWrongFalsely : Prop := fnCellsRow.holds Tryz.pinned (OpenSpec.ofChange fnCellsWrong)

/- THE SECOND FORM. 'bulk': how many values and letters a reading holds, each counted each time it is reached (what is shared counts as often as it is met; a slice's spare places count too). A statement '..UptoSaid' is the law's where the arguments, and the package variables that the reading takes, are together of bulk at most 1048576: NARROWER than '..Said'. Prove '..Said' where nothing that the law and all that it calls make is longer than what came in: it says more and counts as full. Else prove '..UptoSaid'. A law counts once. -/
mutual
def uptoBulk {H : Type} : DataW H → Nat
  | .lit (.string bytes) => bytes.length + 1
  | .lit _ => 1
  | .nil => 1
  | .ptr d => uptoBulk d + 1
  | .slice elems spare => uptoBulkAll elems + uptoBulkAll spare + 1
  | .agg parts => uptoBulkAll parts + 1
  | .iface _ d => uptoBulk d + 1
  | .map entries => uptoBulkEntries entries + 1
  | .held _ => 1
def uptoBulkAll {H : Type} : List (DataW H) → Nat
  | [] => 0
  | d :: r => uptoBulk d + uptoBulkAll r
def uptoBulkEntries {H : Type} : List (Lit × DataW H) → Nat
  | [] => 0
  | x :: r => uptoBulkEntry x + uptoBulkEntries r
def uptoBulkEntry {H : Type} : Lit × DataW H → Nat
  | (.string bytes, d) => bytes.length + uptoBulk d + 1
  | (_, d) => uptoBulk d + 1
 end
def uptoSmall : (H : Type) → List (DataW H) → Bool := fun _ ds => decide (uptoBulkAll ds ≤ 1048576)
def OpenSpec.upto (s : _root_.Go.ChangeSpec) : _root_.Go.OpenSpec := { _root_.Go.OpenSpec.ofChange s with cond := some uptoSmall }

/-- 'laws.FnExactBox', WHERE WHAT IT READS IS OF BULK AT MOST 1048576: true; the input reads as it did. -/
def fnExactBoxUptoRow : OpenClaim := { program := "ytgaenniknmphcaagreat", sum := "e2c0d4e9a6f8b1c639208d29b640e2293fa31c9289ca8f96758758cb13b569c0", func := "loop.example/g00125/laws.FnExactBox", spec := "fnExactBox", unfollowed := true, recurses := true, loops := true, apart := false, narrowed := true }
def FnExactBoxUptoSaid : Prop := fnExactBoxUptoRow.holds Tryz.pinned (OpenSpec.upto fnExactBoxSpec)

/-- 'laws.FnPieces', WHERE WHAT IT READS IS OF BULK AT MOST 1048576: true; the input reads as it did. -/
def fnPiecesUptoRow : OpenClaim := { program := "ytgaenniknmphcaagreat", sum := "e2c0d4e9a6f8b1c639208d29b640e2293fa31c9289ca8f96758758cb13b569c0", func := "loop.example/g00125/laws.FnPieces", spec := "fnPieces", recurses := true, apart := false, narrowed := true }
def FnPiecesUptoSaid : Prop := fnPiecesUptoRow.holds Tryz.pinned (OpenSpec.upto fnPiecesSpec)

/-- 'laws.FnDesk', WHERE WHAT IT READS IS OF BULK AT MOST 1048576: true; the input reads as it did. -/
def fnDeskUptoRow : OpenClaim := { program := "ytgaenniknmphcaagreat", sum := "e2c0d4e9a6f8b1c639208d29b640e2293fa31c9289ca8f96758758cb13b569c0", func := "loop.example/g00125/laws.FnDesk", spec := "fnDesk", unfollowed := true, recurses := true, apart := false, narrowed := true }
def FnDeskUptoSaid : Prop := fnDeskUptoRow.holds Tryz.pinned (OpenSpec.upto fnDeskSpec)

/-- 'laws.FnCells', WHERE WHAT IT READS IS OF BULK AT MOST 1048576: true; the input reads as it did. -/
def fnCellsUptoRow : OpenClaim := { program := "ytgaenniknmphcaagreat", sum := "e2c0d4e9a6f8b1c639208d29b640e2293fa31c9289ca8f96758758cb13b569c0", func := "loop.example/g00125/laws.FnCells", spec := "fnCells", unfollowed := true, recurses := true, apart := false, narrowed := true }
def FnCellsUptoSaid : Prop := fnCellsUptoRow.holds Tryz.pinned (OpenSpec.upto fnCellsSpec)

end Rows
end Go.Proofs.YtgaenniknmphcaaGreat
