/-
  DERIVED. GIVEN WITH THE SEED: THE CARDS: each row of YtlcgmlefagpmiafGreatDoorRows.lean that lists a variable, with what it lists TIED to the program's text (the seventh form; the later family's looks); each row that meets fmt, with fmt's text TOLD by the authors' own Lean function (tested against real Go, not proved from fmt's source: count such statements apart). THE CARD IS WHAT COUNTS. Prove the row's statement (the work); the ties are given (YtlcgmlefagpmiafGreatDoorTie.lean); close each card by the builder's one call (the guide's Derived/Test/ToyasCard.lean, 'card_holds'). Laid BY PROGRAM, IN A SANDBOX (cutbox-door.mjs). By AI agents, Wed Nov 11 2026. No macro, syntax, notation, axiom, sorry.
-/
import Derived.Test.YtlcgmlefagpmiafGreatDoorRows
import GoSem.ClaimSeven
namespace Go.Proofs.YtlcgmlefagpmiafGreatDoor
namespace Rows

/-- THE TIED CARD OF 'glebelaw25.NboxHeads'. -/
def nboxHeadsCard : Claim7 := { stood := { row := nboxHeadsRow, standIns := [], harness := (true, "54d706629a9bcc84c92e5d00b5a4212ab75134d9f26c27682d3de674c9373958"), looks := false }, kinds := [], alts := [], laidByText := true, laidKinds := [.data, .data, .data, .data, .pinned], laidTests := true, laidLooks := .later }
def NboxHeadsCardSaid : Prop := Claim7.holds Tryz.pinned (.plain (OpenSpec.ofChange nboxHeadsSpec)) nboxHeadsCard

/-- THE SECOND FORM's CARD OF 'glebelaw25.NboxHeads'. -/
def nboxHeadsUptoCard : Claim7 := { stood := { row := nboxHeadsUptoRow, standIns := [], harness := (true, "54d706629a9bcc84c92e5d00b5a4212ab75134d9f26c27682d3de674c9373958"), looks := false }, kinds := [], alts := [], laidByText := true, laidKinds := [.data, .data, .data, .data, .pinned], laidTests := true, laidLooks := .later }
def NboxHeadsUptoCardSaid : Prop := Claim7.holds Tryz.pinned (.plain (OpenSpec.upto nboxHeadsSpec)) nboxHeadsUptoCard
end Rows
end Go.Proofs.YtlcgmlefagpmiafGreatDoor
