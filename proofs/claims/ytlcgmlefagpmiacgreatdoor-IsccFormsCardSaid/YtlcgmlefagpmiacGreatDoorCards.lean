/-
  DERIVED. GIVEN WITH THE SEED: THE CARDS: each row of YtlcgmlefagpmiacGreatDoorRows.lean that lists a variable, with what it lists TIED to the program's text (the seventh form; the later family's looks); each row that meets fmt, with fmt's text TOLD by the authors' own Lean function (tested against real Go, not proved from fmt's source: count such statements apart). THE CARD IS WHAT COUNTS. Prove the row's statement (the work); the ties are given (YtlcgmlefagpmiacGreatDoorTie.lean); close each card by the builder's one call (the guide's Derived/Test/ToyasCard.lean, 'card_holds'). Laid BY PROGRAM, IN A SANDBOX (cutbox-door.mjs). By AI agents, Wed Nov 11 2026. No macro, syntax, notation, axiom, sorry.
-/
import Derived.Test.YtlcgmlefagpmiacGreatDoorRows
import GoSem.ClaimSeven
namespace Go.Proofs.YtlcgmlefagpmiacGreatDoor
namespace Rows

/-- THE TIED CARD OF 'glebelaw18.IsccForms'. -/
def isccFormsCard : Claim7 := { stood := { row := isccFormsRow, standIns := [], harness := (true, "df29953e3837b421a9237ff3fde2a7f90932cbe38acc43d99b95b8ed475dacd6"), looks := false }, kinds := [], alts := [], laidByText := true, laidKinds := [.data, .data, .data, .data, .pinned], laidTests := true, laidLooks := .later }
def IsccFormsCardSaid : Prop := Claim7.holds Tryz.pinned (.plain (OpenSpec.ofChange isccFormsSpec)) isccFormsCard

/-- THE SECOND FORM's CARD OF 'glebelaw18.IsccForms'. -/
def isccFormsUptoCard : Claim7 := { stood := { row := isccFormsUptoRow, standIns := [], harness := (true, "df29953e3837b421a9237ff3fde2a7f90932cbe38acc43d99b95b8ed475dacd6"), looks := false }, kinds := [], alts := [], laidByText := true, laidKinds := [.data, .data, .data, .data, .pinned], laidTests := true, laidLooks := .later }
def IsccFormsUptoCardSaid : Prop := Claim7.holds Tryz.pinned (.plain (OpenSpec.upto isccFormsSpec)) isccFormsUptoCard
end Rows
end Go.Proofs.YtlcgmlefagpmiacGreatDoor
