/-
  DERIVED. GIVEN WITH THE SEED: THE CARDS: each row of YtljcjahaeebocaaDoorRows.lean that lists a variable, with what it lists TIED to the program's text (the seventh form; the later family's looks); each row that meets fmt, with fmt's text TOLD by the authors' own Lean function (tested against real Go, not proved from fmt's source: count such statements apart). THE CARD IS WHAT COUNTS. Prove the row's statement (the work); the ties are given (YtljcjahaeebocaaDoorTie.lean); close each card by the builder's one call (the guide's Derived/Test/ToyasCard.lean, 'card_holds'). Laid BY PROGRAM, IN A SANDBOX (cutbox-door.mjs). By AI agents, Wed Nov 11 2026. No macro, syntax, notation, axiom, sorry.
-/
import Derived.Test.YtljcjahaeebocaaDoorRows
import GoSem.ClaimSeven
namespace Go.Proofs.YtljcjahaeebocaaDoor
namespace Rows

/-- THE TIED CARD OF 'laws.FnExactPathText'. -/
def fnExactPathTextCard : Claim7 := { stood := { row := fnExactPathTextRow, standIns := [], harness := (true, "3f9a9f233a7d708add9c2cd92eecf4b0675aa5176de5448dbd10a7febaae96c7"), looks := false }, kinds := [], alts := [], laidByText := true, laidKinds := [.data, .data, .data], laidTests := true, laidLooks := .later }
def FnExactPathTextCardSaid : Prop := Claim7.holds Tryd.pinned (.plain (OpenSpec.ofChange fnExactPathTextSpec)) fnExactPathTextCard

/-- THE TIED CARD OF 'laws.FnExactSolidText'. -/
def fnExactSolidTextCard : Claim7 := { stood := { row := fnExactSolidTextRow, standIns := [], harness := (true, "3f9a9f233a7d708add9c2cd92eecf4b0675aa5176de5448dbd10a7febaae96c7"), looks := false }, kinds := [], alts := [], laidByText := true, laidKinds := [.data, .data, .data], laidTests := true, laidLooks := .later }
def FnExactSolidTextCardSaid : Prop := Claim7.holds Tryd.pinned (.plain (OpenSpec.ofChange fnExactSolidTextSpec)) fnExactSolidTextCard

/-- THE SECOND FORM's CARD OF 'laws.FnExactPathText'. -/
def fnExactPathTextUptoCard : Claim7 := { stood := { row := fnExactPathTextUptoRow, standIns := [], harness := (true, "3f9a9f233a7d708add9c2cd92eecf4b0675aa5176de5448dbd10a7febaae96c7"), looks := false }, kinds := [], alts := [], laidByText := true, laidKinds := [.data, .data, .data], laidTests := true, laidLooks := .later }
def FnExactPathTextUptoCardSaid : Prop := Claim7.holds Tryd.pinned (.plain (OpenSpec.upto fnExactPathTextSpec)) fnExactPathTextUptoCard

/-- THE SECOND FORM's CARD OF 'laws.FnExactSolidText'. -/
def fnExactSolidTextUptoCard : Claim7 := { stood := { row := fnExactSolidTextUptoRow, standIns := [], harness := (true, "3f9a9f233a7d708add9c2cd92eecf4b0675aa5176de5448dbd10a7febaae96c7"), looks := false }, kinds := [], alts := [], laidByText := true, laidKinds := [.data, .data, .data], laidTests := true, laidLooks := .later }
def FnExactSolidTextUptoCardSaid : Prop := Claim7.holds Tryd.pinned (.plain (OpenSpec.upto fnExactSolidTextSpec)) fnExactSolidTextUptoCard
end Rows
end Go.Proofs.YtljcjahaeebocaaDoor
