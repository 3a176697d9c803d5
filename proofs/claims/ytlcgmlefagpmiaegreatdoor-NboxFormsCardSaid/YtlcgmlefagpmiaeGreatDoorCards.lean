/-
  DERIVED. GIVEN WITH THE SEED: THE CARDS: each row of YtlcgmlefagpmiaeGreatDoorRows.lean that lists a variable, with what it lists TIED to the program's text (the seventh form; the later family's looks); each row that meets fmt, with fmt's text TOLD by the authors' own Lean function (tested against real Go, not proved from fmt's source: count such statements apart). THE CARD IS WHAT COUNTS. Prove the row's statement (the work); the ties are given (YtlcgmlefagpmiaeGreatDoorTie.lean); close each card by the builder's one call (the guide's Derived/Test/ToyasCard.lean, 'card_holds'). Laid BY PROGRAM, IN A SANDBOX (cutbox-door.mjs). By AI agents, Wed Nov 11 2026. No macro, syntax, notation, axiom, sorry.
-/
import Derived.Test.YtlcgmlefagpmiaeGreatDoorRows
import GoSem.ClaimSeven
namespace Go.Proofs.YtlcgmlefagpmiaeGreatDoor
namespace Rows

/-- THE TIED CARD OF 'glebelaw25.NboxForms'. -/
def nboxFormsCard : Claim7 := { stood := { row := nboxFormsRow, standIns := [], harness := (true, "feb5d2b1a3770c506ba15ae5dfcbaa0e3d3c9756239bad55e942d112bdeeb5f5"), looks := false }, kinds := [], alts := [], laidByText := true, laidKinds := [.data, .data, .data, .data, .pinned], laidTests := true, laidLooks := .later }
def NboxFormsCardSaid : Prop := Claim7.holds Tryz.pinned (.plain (OpenSpec.ofChange nboxFormsSpec)) nboxFormsCard

/-- THE SECOND FORM's CARD OF 'glebelaw25.NboxForms'. -/
def nboxFormsUptoCard : Claim7 := { stood := { row := nboxFormsUptoRow, standIns := [], harness := (true, "feb5d2b1a3770c506ba15ae5dfcbaa0e3d3c9756239bad55e942d112bdeeb5f5"), looks := false }, kinds := [], alts := [], laidByText := true, laidKinds := [.data, .data, .data, .data, .pinned], laidTests := true, laidLooks := .later }
def NboxFormsUptoCardSaid : Prop := Claim7.holds Tryz.pinned (.plain (OpenSpec.upto nboxFormsSpec)) nboxFormsUptoCard
end Rows
end Go.Proofs.YtlcgmlefagpmiaeGreatDoor
