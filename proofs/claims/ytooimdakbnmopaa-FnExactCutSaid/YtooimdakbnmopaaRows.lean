/-
  NARROWER THAN 'FOR EVERY INPUT', by the rows' own cells (each row's printed sentence says how): FnExactTidy: loops · FnExactWherePt: loops · FnExactCountIn: loops · FnExactTurnSolid: loops · FnExactApart: loops · FnExactInside: loops · FnExactSame: loops · FnExactSlice: loops · FnExactPut: loops · FnExactCut: loops.
  DERIVED. THE GIVEN ROWS OF THIS SEAT. 12 by the template 'for every input the law returns true; each argument reads behind the call as it read before'; 0 by the template 'total and deterministic' (their statements: YtooimdakbnmopaaTotals.lean).
  GIVEN WITH THE SEED: the statements are not yours to turn. If you find one false, say at which input.
  Laid BY PROGRAM, IN A SANDBOX (cutbox-rows.mjs): the forced cells as the released guide's own fill.sh prints them over the translation 4a5109400eae37be… (all of the seat's roots in one cut). By AI agents, Wed Nov 11 2026. No macro, syntax, notation, axiom, sorry.
-/
import Derived.Test.YtooimdakbnmopaaChecked
import GoSem.Claim
import GoSem.ClaimJoined
import GoSem.ClaimMapViews
import Derived.JoinedTies
import Derived.KernelRfl
namespace Go.Proofs.Ytooimdakbnmopaa
/- THE CELL 'sum', in the pinned program and in every row, IS THE sha256 OF THE DUMP (.gsa) THAT YtooimdakbnmopaaProg.lean LOADS. Nothing in Lean hashes anything: it is a label: what it is worth is what the hold of that sum in a sandbox is worth. -/
noncomputable def Try.pinned : Pinned := { name := "ytooimdakbnmopaa", sum := "4a5109400eae37be46464bc8d391cc0efc1735fb3e28fd8213ea701c2e2550d2", checked := Try.checked }
namespace Rows
def none {H : Type} : Left H := { results := [], args := [] }

/-- 'laws.FnExactTidy': WHATEVER THE INPUT: true; the input reads as it did. -/
def fnExactTidySpec : ChangeSpec := { name := "fnExactTidy", fn := fun _ => fun
  | [d] => { results := [.lit (.bool true)], args := [d] }
  | _ => none }
def fnExactTidyRow : OpenClaim := { program := "ytooimdakbnmopaa", sum := "4a5109400eae37be46464bc8d391cc0efc1735fb3e28fd8213ea701c2e2550d2", func := "loop.example/g00125/laws.FnExactTidy", spec := "fnExactTidy", unfollowed := true, recurses := true, loops := true, apart := false }
def FnExactTidySaid : Prop := fnExactTidyRow.holds Try.pinned (OpenSpec.ofChange fnExactTidySpec)

/-- ITS FALSE NEIGHBOUR: 'it returns false'. Refute it at one input. -/
def fnExactTidyWrong : ChangeSpec := { name := "fnExactTidy", fn := fun _ => fun
  | [d] => { results := [.lit (.bool false)], args := [d] }
  | _ => none }
def FnExactTidyWrongFalsely : Prop := fnExactTidyRow.holds Try.pinned (OpenSpec.ofChange fnExactTidyWrong)

/-- 'laws.FnExactWherePt': WHATEVER THE INPUT: true; the input reads as it did. -/
def fnExactWherePtSpec : ChangeSpec := { name := "fnExactWherePt", fn := fun _ => fun
  | [d1, d2] => { results := [.lit (.bool true)], args := [d1, d2] }
  | _ => none }
def fnExactWherePtRow : OpenClaim := { program := "ytooimdakbnmopaa", sum := "4a5109400eae37be46464bc8d391cc0efc1735fb3e28fd8213ea701c2e2550d2", func := "loop.example/g00125/laws.FnExactWherePt", spec := "fnExactWherePt", recurses := true, loops := true, apart := false }
def FnExactWherePtSaid : Prop := fnExactWherePtRow.holds Try.pinned (OpenSpec.ofChange fnExactWherePtSpec)

/-- ITS FALSE NEIGHBOUR: 'it returns false'. Refute it at one input. -/
def fnExactWherePtWrong : ChangeSpec := { name := "fnExactWherePt", fn := fun _ => fun
  | [d1, d2] => { results := [.lit (.bool false)], args := [d1, d2] }
  | _ => none }
def FnExactWherePtWrongFalsely : Prop := fnExactWherePtRow.holds Try.pinned (OpenSpec.ofChange fnExactWherePtWrong)

/-- 'laws.FnExactCountIn': WHATEVER THE INPUT: true; the input reads as it did. -/
def fnExactCountInSpec : ChangeSpec := { name := "fnExactCountIn", fn := fun _ => fun
  | [d1, d2, d3] => { results := [.lit (.bool true)], args := [d1, d2, d3] }
  | _ => none }
def fnExactCountInRow : OpenClaim := { program := "ytooimdakbnmopaa", sum := "4a5109400eae37be46464bc8d391cc0efc1735fb3e28fd8213ea701c2e2550d2", func := "loop.example/g00125/laws.FnExactCountIn", spec := "fnExactCountIn", recurses := true, loops := true, apart := false }
def FnExactCountInSaid : Prop := fnExactCountInRow.holds Try.pinned (OpenSpec.ofChange fnExactCountInSpec)

/-- ITS FALSE NEIGHBOUR: 'it returns false'. Refute it at one input. -/
def fnExactCountInWrong : ChangeSpec := { name := "fnExactCountIn", fn := fun _ => fun
  | [d1, d2, d3] => { results := [.lit (.bool false)], args := [d1, d2, d3] }
  | _ => none }
def FnExactCountInWrongFalsely : Prop := fnExactCountInRow.holds Try.pinned (OpenSpec.ofChange fnExactCountInWrong)

/-- 'laws.FnExactTurnSolid': WHATEVER THE INPUT: true; the input reads as it did. -/
def fnExactTurnSolidSpec : ChangeSpec := { name := "fnExactTurnSolid", fn := fun _ => fun
  | [d1, d2, d3] => { results := [.lit (.bool true)], args := [d1, d2, d3] }
  | _ => none }
def fnExactTurnSolidRow : OpenClaim := { program := "ytooimdakbnmopaa", sum := "4a5109400eae37be46464bc8d391cc0efc1735fb3e28fd8213ea701c2e2550d2", func := "loop.example/g00125/laws.FnExactTurnSolid", spec := "fnExactTurnSolid", unfollowed := true, recurses := true, loops := true, apart := false }
def FnExactTurnSolidSaid : Prop := fnExactTurnSolidRow.holds Try.pinned (OpenSpec.ofChange fnExactTurnSolidSpec)

/-- ITS FALSE NEIGHBOUR: 'it returns false'. Refute it at one input. -/
def fnExactTurnSolidWrong : ChangeSpec := { name := "fnExactTurnSolid", fn := fun _ => fun
  | [d1, d2, d3] => { results := [.lit (.bool false)], args := [d1, d2, d3] }
  | _ => none }
def FnExactTurnSolidWrongFalsely : Prop := fnExactTurnSolidRow.holds Try.pinned (OpenSpec.ofChange fnExactTurnSolidWrong)

/-- 'laws.FnExactApart': WHATEVER THE INPUT: true; the input reads as it did. -/
def fnExactApartSpec : ChangeSpec := { name := "fnExactApart", fn := fun _ => fun
  | [d1, d2] => { results := [.lit (.bool true)], args := [d1, d2] }
  | _ => none }
def fnExactApartRow : OpenClaim := { program := "ytooimdakbnmopaa", sum := "4a5109400eae37be46464bc8d391cc0efc1735fb3e28fd8213ea701c2e2550d2", func := "loop.example/g00125/laws.FnExactApart", spec := "fnExactApart", recurses := true, loops := true, apart := false }
def FnExactApartSaid : Prop := fnExactApartRow.holds Try.pinned (OpenSpec.ofChange fnExactApartSpec)

/-- ITS FALSE NEIGHBOUR: 'it returns false'. Refute it at one input. -/
def fnExactApartWrong : ChangeSpec := { name := "fnExactApart", fn := fun _ => fun
  | [d1, d2] => { results := [.lit (.bool false)], args := [d1, d2] }
  | _ => none }
def FnExactApartWrongFalsely : Prop := fnExactApartRow.holds Try.pinned (OpenSpec.ofChange fnExactApartWrong)

/-- 'laws.FnExactInside': WHATEVER THE INPUT: true; the input reads as it did. -/
def fnExactInsideSpec : ChangeSpec := { name := "fnExactInside", fn := fun _ => fun
  | [d1, d2] => { results := [.lit (.bool true)], args := [d1, d2] }
  | _ => none }
def fnExactInsideRow : OpenClaim := { program := "ytooimdakbnmopaa", sum := "4a5109400eae37be46464bc8d391cc0efc1735fb3e28fd8213ea701c2e2550d2", func := "loop.example/g00125/laws.FnExactInside", spec := "fnExactInside", recurses := true, loops := true, apart := false }
def FnExactInsideSaid : Prop := fnExactInsideRow.holds Try.pinned (OpenSpec.ofChange fnExactInsideSpec)

/-- ITS FALSE NEIGHBOUR: 'it returns false'. Refute it at one input. -/
def fnExactInsideWrong : ChangeSpec := { name := "fnExactInside", fn := fun _ => fun
  | [d1, d2] => { results := [.lit (.bool false)], args := [d1, d2] }
  | _ => none }
def FnExactInsideWrongFalsely : Prop := fnExactInsideRow.holds Try.pinned (OpenSpec.ofChange fnExactInsideWrong)

/-- 'laws.FnExactSame': WHATEVER THE INPUT: true; the input reads as it did. -/
def fnExactSameSpec : ChangeSpec := { name := "fnExactSame", fn := fun _ => fun
  | [d1, d2] => { results := [.lit (.bool true)], args := [d1, d2] }
  | _ => none }
def fnExactSameRow : OpenClaim := { program := "ytooimdakbnmopaa", sum := "4a5109400eae37be46464bc8d391cc0efc1735fb3e28fd8213ea701c2e2550d2", func := "loop.example/g00125/laws.FnExactSame", spec := "fnExactSame", recurses := true, loops := true, apart := false }
def FnExactSameSaid : Prop := fnExactSameRow.holds Try.pinned (OpenSpec.ofChange fnExactSameSpec)

/-- ITS FALSE NEIGHBOUR: 'it returns false'. Refute it at one input. -/
def fnExactSameWrong : ChangeSpec := { name := "fnExactSame", fn := fun _ => fun
  | [d1, d2] => { results := [.lit (.bool false)], args := [d1, d2] }
  | _ => none }
def FnExactSameWrongFalsely : Prop := fnExactSameRow.holds Try.pinned (OpenSpec.ofChange fnExactSameWrong)

/-- 'laws.FnExactSlice': WHATEVER THE INPUT: true; the input reads as it did. -/
def fnExactSliceSpec : ChangeSpec := { name := "fnExactSlice", fn := fun _ => fun
  | [d1, d2, d3, d4] => { results := [.lit (.bool true)], args := [d1, d2, d3, d4] }
  | _ => none }
def fnExactSliceRow : OpenClaim := { program := "ytooimdakbnmopaa", sum := "4a5109400eae37be46464bc8d391cc0efc1735fb3e28fd8213ea701c2e2550d2", func := "loop.example/g00125/laws.FnExactSlice", spec := "fnExactSlice", inPlace := ["internal/abi.NoEscape"], recurses := true, loops := true, apart := false }
def FnExactSliceSaid : Prop := fnExactSliceRow.holds Try.pinned (OpenSpec.ofChange fnExactSliceSpec)

/-- ITS FALSE NEIGHBOUR: 'it returns false'. Refute it at one input. -/
def fnExactSliceWrong : ChangeSpec := { name := "fnExactSlice", fn := fun _ => fun
  | [d1, d2, d3, d4] => { results := [.lit (.bool false)], args := [d1, d2, d3, d4] }
  | _ => none }
def FnExactSliceWrongFalsely : Prop := fnExactSliceRow.holds Try.pinned (OpenSpec.ofChange fnExactSliceWrong)

/-- 'laws.FnExactParseSolid': WHATEVER THE INPUT: true; the input reads as it did. -/
def fnExactParseSolidSpec : ChangeSpec := { name := "fnExactParseSolid", fn := fun _ => fun
  | [d] => { results := [.lit (.bool true)], args := [d] }
  | _ => none }
def fnExactParseSolidRow : OpenClaim := { program := "ytooimdakbnmopaa", sum := "4a5109400eae37be46464bc8d391cc0efc1735fb3e28fd8213ea701c2e2550d2", func := "loop.example/g00125/laws.FnExactParseSolid", spec := "fnExactParseSolid", recurses := true, apart := false }
def FnExactParseSolidSaid : Prop := fnExactParseSolidRow.holds Try.pinned (OpenSpec.ofChange fnExactParseSolidSpec)

/-- ITS FALSE NEIGHBOUR: 'it returns false'. Refute it at one input. -/
def fnExactParseSolidWrong : ChangeSpec := { name := "fnExactParseSolid", fn := fun _ => fun
  | [d] => { results := [.lit (.bool false)], args := [d] }
  | _ => none }
def FnExactParseSolidWrongFalsely : Prop := fnExactParseSolidRow.holds Try.pinned (OpenSpec.ofChange fnExactParseSolidWrong)

/-- 'laws.FnExactPut': WHATEVER THE INPUT: true; the input reads as it did. -/
def fnExactPutSpec : ChangeSpec := { name := "fnExactPut", fn := fun _ => fun
  | [d1, d2, d3] => { results := [.lit (.bool true)], args := [d1, d2, d3] }
  | _ => none }
def fnExactPutRow : OpenClaim := { program := "ytooimdakbnmopaa", sum := "4a5109400eae37be46464bc8d391cc0efc1735fb3e28fd8213ea701c2e2550d2", func := "loop.example/g00125/laws.FnExactPut", spec := "fnExactPut", recurses := true, loops := true, apart := false }
def FnExactPutSaid : Prop := fnExactPutRow.holds Try.pinned (OpenSpec.ofChange fnExactPutSpec)

/-- ITS FALSE NEIGHBOUR: 'it returns false'. Refute it at one input. -/
def fnExactPutWrong : ChangeSpec := { name := "fnExactPut", fn := fun _ => fun
  | [d1, d2, d3] => { results := [.lit (.bool false)], args := [d1, d2, d3] }
  | _ => none }
def FnExactPutWrongFalsely : Prop := fnExactPutRow.holds Try.pinned (OpenSpec.ofChange fnExactPutWrong)

/-- 'laws.FnExactGetSolid': WHATEVER THE INPUT: true; the input reads as it did. -/
def fnExactGetSolidSpec : ChangeSpec := { name := "fnExactGetSolid", fn := fun _ => fun
  | [d] => { results := [.lit (.bool true)], args := [d] }
  | _ => none }
def fnExactGetSolidRow : OpenClaim := { program := "ytooimdakbnmopaa", sum := "4a5109400eae37be46464bc8d391cc0efc1735fb3e28fd8213ea701c2e2550d2", func := "loop.example/g00125/laws.FnExactGetSolid", spec := "fnExactGetSolid", recurses := true, apart := false }
def FnExactGetSolidSaid : Prop := fnExactGetSolidRow.holds Try.pinned (OpenSpec.ofChange fnExactGetSolidSpec)

/-- ITS FALSE NEIGHBOUR: 'it returns false'. Refute it at one input. -/
def fnExactGetSolidWrong : ChangeSpec := { name := "fnExactGetSolid", fn := fun _ => fun
  | [d] => { results := [.lit (.bool false)], args := [d] }
  | _ => none }
def FnExactGetSolidWrongFalsely : Prop := fnExactGetSolidRow.holds Try.pinned (OpenSpec.ofChange fnExactGetSolidWrong)

/-- 'laws.FnExactCut': WHATEVER THE INPUT: true; the input reads as it did. -/
def fnExactCutSpec : ChangeSpec := { name := "fnExactCut", fn := fun _ => fun
  | [d1, d2] => { results := [.lit (.bool true)], args := [d1, d2] }
  | _ => none }
def fnExactCutRow : OpenClaim := { program := "ytooimdakbnmopaa", sum := "4a5109400eae37be46464bc8d391cc0efc1735fb3e28fd8213ea701c2e2550d2", func := "loop.example/g00125/laws.FnExactCut", spec := "fnExactCut", recurses := true, loops := true, apart := false }
def FnExactCutSaid : Prop := fnExactCutRow.holds Try.pinned (OpenSpec.ofChange fnExactCutSpec)

/-- ITS FALSE NEIGHBOUR: 'it returns false'. Refute it at one input. -/
def fnExactCutWrong : ChangeSpec := { name := "fnExactCut", fn := fun _ => fun
  | [d1, d2] => { results := [.lit (.bool false)], args := [d1, d2] }
  | _ => none }
def FnExactCutWrongFalsely : Prop := fnExactCutRow.holds Try.pinned (OpenSpec.ofChange fnExactCutWrong)

/- THE SECOND FORM. 'bulk': how many values and letters a reading holds, each counted each time it is reached (what is shared counts as often as it is met; a slice's spare places count too). A statement '..UptoSaid' is the law's where the arguments, and the package variables that the reading takes, are together of bulk at most 1048576: NARROWER than '..Said'. Prove '..Said' where nothing that the law and all that it calls make is longer than what came in: it says more and counts as full. Else prove '..UptoSaid'. A law counts once. -/
mutual
def uptoBulk {H : Type} : DataW H → Nat
  | .lit (.string bytes) => bytes.length + 1
  | .lit _ => 1
  | .nil => 1
  | .ptr d => uptoBulk d + 1
  | .slice elems spare => uptoBulkAll elems + uptoBulkAll spare + 1
  | .agg parts => uptoBulkAll parts + 1
  | .iface _ d => uptoBulk d + 1
  | .map entries => uptoBulkEntries entries + 1
  | .held _ => 1
def uptoBulkAll {H : Type} : List (DataW H) → Nat
  | [] => 0
  | d :: r => uptoBulk d + uptoBulkAll r
def uptoBulkEntries {H : Type} : List (Lit × DataW H) → Nat
  | [] => 0
  | x :: r => uptoBulkEntry x + uptoBulkEntries r
def uptoBulkEntry {H : Type} : Lit × DataW H → Nat
  | (.string bytes, d) => bytes.length + uptoBulk d + 1
  | (_, d) => uptoBulk d + 1
 end
def uptoSmall : (H : Type) → List (DataW H) → Bool := fun _ ds => decide (uptoBulkAll ds ≤ 1048576)
def OpenSpec.upto (s : _root_.Go.ChangeSpec) : _root_.Go.OpenSpec := { _root_.Go.OpenSpec.ofChange s with cond := some uptoSmall }

/-- 'laws.FnExactTidy', WHERE WHAT IT READS IS OF BULK AT MOST 1048576: true; the input reads as it did. -/
def fnExactTidyUptoRow : OpenClaim := { program := "ytooimdakbnmopaa", sum := "4a5109400eae37be46464bc8d391cc0efc1735fb3e28fd8213ea701c2e2550d2", func := "loop.example/g00125/laws.FnExactTidy", spec := "fnExactTidy", unfollowed := true, recurses := true, loops := true, apart := false, narrowed := true }
def FnExactTidyUptoSaid : Prop := fnExactTidyUptoRow.holds Try.pinned (OpenSpec.upto fnExactTidySpec)

/-- 'laws.FnExactWherePt', WHERE WHAT IT READS IS OF BULK AT MOST 1048576: true; the input reads as it did. -/
def fnExactWherePtUptoRow : OpenClaim := { program := "ytooimdakbnmopaa", sum := "4a5109400eae37be46464bc8d391cc0efc1735fb3e28fd8213ea701c2e2550d2", func := "loop.example/g00125/laws.FnExactWherePt", spec := "fnExactWherePt", recurses := true, loops := true, apart := false, narrowed := true }
def FnExactWherePtUptoSaid : Prop := fnExactWherePtUptoRow.holds Try.pinned (OpenSpec.upto fnExactWherePtSpec)

/-- 'laws.FnExactCountIn', WHERE WHAT IT READS IS OF BULK AT MOST 1048576: true; the input reads as it did. -/
def fnExactCountInUptoRow : OpenClaim := { program := "ytooimdakbnmopaa", sum := "4a5109400eae37be46464bc8d391cc0efc1735fb3e28fd8213ea701c2e2550d2", func := "loop.example/g00125/laws.FnExactCountIn", spec := "fnExactCountIn", recurses := true, loops := true, apart := false, narrowed := true }
def FnExactCountInUptoSaid : Prop := fnExactCountInUptoRow.holds Try.pinned (OpenSpec.upto fnExactCountInSpec)

/-- 'laws.FnExactTurnSolid', WHERE WHAT IT READS IS OF BULK AT MOST 1048576: true; the input reads as it did. -/
def fnExactTurnSolidUptoRow : OpenClaim := { program := "ytooimdakbnmopaa", sum := "4a5109400eae37be46464bc8d391cc0efc1735fb3e28fd8213ea701c2e2550d2", func := "loop.example/g00125/laws.FnExactTurnSolid", spec := "fnExactTurnSolid", unfollowed := true, recurses := true, loops := true, apart := false, narrowed := true }
def FnExactTurnSolidUptoSaid : Prop := fnExactTurnSolidUptoRow.holds Try.pinned (OpenSpec.upto fnExactTurnSolidSpec)

/-- 'laws.FnExactApart', WHERE WHAT IT READS IS OF BULK AT MOST 1048576: true; the input reads as it did. -/
def fnExactApartUptoRow : OpenClaim := { program := "ytooimdakbnmopaa", sum := "4a5109400eae37be46464bc8d391cc0efc1735fb3e28fd8213ea701c2e2550d2", func := "loop.example/g00125/laws.FnExactApart", spec := "fnExactApart", recurses := true, loops := true, apart := false, narrowed := true }
def FnExactApartUptoSaid : Prop := fnExactApartUptoRow.holds Try.pinned (OpenSpec.upto fnExactApartSpec)

/-- 'laws.FnExactInside', WHERE WHAT IT READS IS OF BULK AT MOST 1048576: true; the input reads as it did. -/
def fnExactInsideUptoRow : OpenClaim := { program := "ytooimdakbnmopaa", sum := "4a5109400eae37be46464bc8d391cc0efc1735fb3e28fd8213ea701c2e2550d2", func := "loop.example/g00125/laws.FnExactInside", spec := "fnExactInside", recurses := true, loops := true, apart := false, narrowed := true }
def FnExactInsideUptoSaid : Prop := fnExactInsideUptoRow.holds Try.pinned (OpenSpec.upto fnExactInsideSpec)

/-- 'laws.FnExactSame', WHERE WHAT IT READS IS OF BULK AT MOST 1048576: true; the input reads as it did. -/
def fnExactSameUptoRow : OpenClaim := { program := "ytooimdakbnmopaa", sum := "4a5109400eae37be46464bc8d391cc0efc1735fb3e28fd8213ea701c2e2550d2", func := "loop.example/g00125/laws.FnExactSame", spec := "fnExactSame", recurses := true, loops := true, apart := false, narrowed := true }
def FnExactSameUptoSaid : Prop := fnExactSameUptoRow.holds Try.pinned (OpenSpec.upto fnExactSameSpec)

/-- 'laws.FnExactSlice', WHERE WHAT IT READS IS OF BULK AT MOST 1048576: true; the input reads as it did. -/
def fnExactSliceUptoRow : OpenClaim := { program := "ytooimdakbnmopaa", sum := "4a5109400eae37be46464bc8d391cc0efc1735fb3e28fd8213ea701c2e2550d2", func := "loop.example/g00125/laws.FnExactSlice", spec := "fnExactSlice", inPlace := ["internal/abi.NoEscape"], recurses := true, loops := true, apart := false, narrowed := true }
def FnExactSliceUptoSaid : Prop := fnExactSliceUptoRow.holds Try.pinned (OpenSpec.upto fnExactSliceSpec)

/-- 'laws.FnExactParseSolid', WHERE WHAT IT READS IS OF BULK AT MOST 1048576: true; the input reads as it did. -/
def fnExactParseSolidUptoRow : OpenClaim := { program := "ytooimdakbnmopaa", sum := "4a5109400eae37be46464bc8d391cc0efc1735fb3e28fd8213ea701c2e2550d2", func := "loop.example/g00125/laws.FnExactParseSolid", spec := "fnExactParseSolid", recurses := true, apart := false, narrowed := true }
def FnExactParseSolidUptoSaid : Prop := fnExactParseSolidUptoRow.holds Try.pinned (OpenSpec.upto fnExactParseSolidSpec)

/-- 'laws.FnExactPut', WHERE WHAT IT READS IS OF BULK AT MOST 1048576: true; the input reads as it did. -/
def fnExactPutUptoRow : OpenClaim := { program := "ytooimdakbnmopaa", sum := "4a5109400eae37be46464bc8d391cc0efc1735fb3e28fd8213ea701c2e2550d2", func := "loop.example/g00125/laws.FnExactPut", spec := "fnExactPut", recurses := true, loops := true, apart := false, narrowed := true }
def FnExactPutUptoSaid : Prop := fnExactPutUptoRow.holds Try.pinned (OpenSpec.upto fnExactPutSpec)

/-- 'laws.FnExactGetSolid', WHERE WHAT IT READS IS OF BULK AT MOST 1048576: true; the input reads as it did. -/
def fnExactGetSolidUptoRow : OpenClaim := { program := "ytooimdakbnmopaa", sum := "4a5109400eae37be46464bc8d391cc0efc1735fb3e28fd8213ea701c2e2550d2", func := "loop.example/g00125/laws.FnExactGetSolid", spec := "fnExactGetSolid", recurses := true, apart := false, narrowed := true }
def FnExactGetSolidUptoSaid : Prop := fnExactGetSolidUptoRow.holds Try.pinned (OpenSpec.upto fnExactGetSolidSpec)

/-- 'laws.FnExactCut', WHERE WHAT IT READS IS OF BULK AT MOST 1048576: true; the input reads as it did. -/
def fnExactCutUptoRow : OpenClaim := { program := "ytooimdakbnmopaa", sum := "4a5109400eae37be46464bc8d391cc0efc1735fb3e28fd8213ea701c2e2550d2", func := "loop.example/g00125/laws.FnExactCut", spec := "fnExactCut", recurses := true, loops := true, apart := false, narrowed := true }
def FnExactCutUptoSaid : Prop := fnExactCutUptoRow.holds Try.pinned (OpenSpec.upto fnExactCutSpec)

end Rows
end Go.Proofs.Ytooimdakbnmopaa
