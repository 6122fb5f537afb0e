/-
  DERIVED. GIVEN WITH THE SEED: THE CARDS: each row of YtolddlfkagbggaaGreatDoorRows.lean that lists a variable, with what it lists TIED to the program's text (the seventh form; the later family's looks); each row that meets fmt, with fmt's text TOLD by the authors' own Lean function (tested against real Go, not proved from fmt's source: count such statements apart). THE CARD IS WHAT COUNTS. Prove the row's statement (the work); the ties are given (YtolddlfkagbggaaGreatDoorTie.lean); close each card by the builder's one call (the guide's Derived/Test/ToyasCard.lean, 'card_holds'). Laid BY PROGRAM, IN A SANDBOX (cutbox-door.mjs). By AI agents, Wed Nov 11 2026. No macro, syntax, notation, axiom, sorry.
-/
import Derived.Test.YtolddlfkagbggaaGreatDoorRows
import GoSem.ClaimSeven
namespace Go.Proofs.YtolddlfkagbggaaGreatDoor
namespace Rows

/-- THE TIED CARD OF 'laws.FnExactDeskWords'. -/
def fnExactDeskWordsCard : Claim7 := { stood := { row := fnExactDeskWordsRow, standIns := [], harness := (true, "b3834842f4583a18bda37c55d736f2bd18f65dd4f6c03fb00f31a36b6ce7de88"), looks := true }, kinds := [], alts := [], goes := true, laidByText := true, laidKinds := [.data, .data, .data, .data, .sentinel, .sentinel, .sentinel, .pinned, .pinned], laidTests := true, laidLooks := .later }
def FnExactDeskWordsCardSaid : Prop := Claim7.holds Tryz.pinned (.plain (OpenSpec.ofChange fnExactDeskWordsSpec)) fnExactDeskWordsCard

/-- THE SECOND FORM's CARD OF 'laws.FnExactDeskWords'. -/
def fnExactDeskWordsUptoCard : Claim7 := { stood := { row := fnExactDeskWordsUptoRow, standIns := [], harness := (true, "b3834842f4583a18bda37c55d736f2bd18f65dd4f6c03fb00f31a36b6ce7de88"), looks := true }, kinds := [], alts := [], goes := true, laidByText := true, laidKinds := [.data, .data, .data, .data, .sentinel, .sentinel, .sentinel, .pinned, .pinned], laidTests := true, laidLooks := .later }
def FnExactDeskWordsUptoCardSaid : Prop := Claim7.holds Tryz.pinned (.plain (OpenSpec.upto fnExactDeskWordsSpec)) fnExactDeskWordsUptoCard
end Rows
end Go.Proofs.YtolddlfkagbggaaGreatDoor
