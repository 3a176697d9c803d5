/-
  DERIVED. GIVEN WITH THE SEED: THE CARDS: each row of YtlcgmlefagpmiadGreatDoorRows.lean that lists a variable, with what it lists TIED to the program's text (the seventh form; the later family's looks); each row that meets fmt, with fmt's text TOLD by the authors' own Lean function (tested against real Go, not proved from fmt's source: count such statements apart). THE CARD IS WHAT COUNTS. Prove the row's statement (the work); the ties are given (YtlcgmlefagpmiadGreatDoorTie.lean); close each card by the builder's one call (the guide's Derived/Test/ToyasCard.lean, 'card_holds'). Laid BY PROGRAM, IN A SANDBOX (cutbox-door.mjs). By AI agents, Wed Nov 11 2026. No macro, syntax, notation, axiom, sorry.
-/
import Derived.Test.YtlcgmlefagpmiadGreatDoorRows
import GoSem.ClaimSeven
namespace Go.Proofs.YtlcgmlefagpmiadGreatDoor
namespace Rows

/-- THE TIED CARD OF 'glebelaw23.MaskForms'. -/
def maskFormsCard : Claim7 := { stood := { row := maskFormsRow, standIns := [], harness := (true, "03659eecef4440ea5df253fe3db2497f4c1f46c9a5fc65110fbc290d4d003233"), looks := false }, kinds := [], alts := [], laidByText := true, laidKinds := [.data, .data, .data, .data, .pinned], laidTests := true, laidLooks := .later }
def MaskFormsCardSaid : Prop := Claim7.holds Tryz.pinned (.plain (OpenSpec.ofChange maskFormsSpec)) maskFormsCard

/-- THE SECOND FORM's CARD OF 'glebelaw23.MaskForms'. -/
def maskFormsUptoCard : Claim7 := { stood := { row := maskFormsUptoRow, standIns := [], harness := (true, "03659eecef4440ea5df253fe3db2497f4c1f46c9a5fc65110fbc290d4d003233"), looks := false }, kinds := [], alts := [], laidByText := true, laidKinds := [.data, .data, .data, .data, .pinned], laidTests := true, laidLooks := .later }
def MaskFormsUptoCardSaid : Prop := Claim7.holds Tryz.pinned (.plain (OpenSpec.upto maskFormsSpec)) maskFormsUptoCard
end Rows
end Go.Proofs.YtlcgmlefagpmiadGreatDoor
