/-
  DERIVED. GIVEN WITH THE SEED: THE CARDS: each row of YtlcgmlefagpmiagGreatDoorRows.lean that lists a variable, with what it lists TIED to the program's text (the seventh form; the later family's looks); each row that meets fmt, with fmt's text TOLD by the authors' own Lean function (tested against real Go, not proved from fmt's source: count such statements apart). THE CARD IS WHAT COUNTS. Prove the row's statement (the work); the ties are given (YtlcgmlefagpmiagGreatDoorTie.lean); close each card by the builder's one call (the guide's Derived/Test/ToyasCard.lean, 'card_holds'). Laid BY PROGRAM, IN A SANDBOX (cutbox-door.mjs). By AI agents, Wed Nov 11 2026. No macro, syntax, notation, axiom, sorry.
-/
import Derived.Test.YtlcgmlefagpmiagGreatDoorRows
import GoSem.ClaimSeven
namespace Go.Proofs.YtlcgmlefagpmiagGreatDoor
namespace Rows

/-- THE TIED CARD OF 'glebelaw20.IsclForms'. -/
def isclFormsCard : Claim7 := { stood := { row := isclFormsRow, standIns := [], harness := (true, "5a5ba20fe8c08d6d13255499b8e2f750bff5feb1af082dc24a6c22048bfadd02"), looks := false }, kinds := [], alts := [], laidByText := true, laidKinds := [.data, .data, .data, .data, .pinned], laidTests := true, laidLooks := .later }
def IsclFormsCardSaid : Prop := Claim7.holds Tryz.pinned (.plain (OpenSpec.ofChange isclFormsSpec)) isclFormsCard

/-- THE SECOND FORM's CARD OF 'glebelaw20.IsclForms'. -/
def isclFormsUptoCard : Claim7 := { stood := { row := isclFormsUptoRow, standIns := [], harness := (true, "5a5ba20fe8c08d6d13255499b8e2f750bff5feb1af082dc24a6c22048bfadd02"), looks := false }, kinds := [], alts := [], laidByText := true, laidKinds := [.data, .data, .data, .data, .pinned], laidTests := true, laidLooks := .later }
def IsclFormsUptoCardSaid : Prop := Claim7.holds Tryz.pinned (.plain (OpenSpec.upto isclFormsSpec)) isclFormsUptoCard
end Rows
end Go.Proofs.YtlcgmlefagpmiagGreatDoor
