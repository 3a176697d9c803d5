/-
  DERIVED. GIVEN WITH THE SEED: THE CARDS: each row of YtklegdhcpoibfaaGreatDoorRows.lean that lists a variable, with what it lists TIED to the program's text (the seventh form; the later family's looks); each row that meets fmt, with fmt's text TOLD by the authors' own Lean function (tested against real Go, not proved from fmt's source: count such statements apart). THE CARD IS WHAT COUNTS. Prove the row's statement (the work); the ties are given (YtklegdhcpoibfaaGreatDoorTie.lean); close each card by the builder's one call (the guide's Derived/Test/ToyasCard.lean, 'card_holds'). Laid BY PROGRAM, IN A SANDBOX (cutbox-door.mjs). By AI agents, Wed Nov 11 2026. No macro, syntax, notation, axiom, sorry.
-/
import Derived.Test.YtklegdhcpoibfaaGreatDoorRows
import GoSem.ClaimSeven
namespace Go.Proofs.YtklegdhcpoibfaaGreatDoor
namespace Rows

/-- THE TIED CARD OF 'glebelaw19.IscpNames'. -/
def iscpNamesCard : Claim7 := { stood := { row := iscpNamesRow, standIns := [], harness := (true, "b3d841603d1b6990ecb65d3363104b3747a674f04019779aa6f7eff9df5ec821"), looks := false }, kinds := [], alts := [], laidByText := true, laidKinds := [.data, .data, .data, .data, .pinned], laidTests := true, laidLooks := .later }
def IscpNamesCardSaid : Prop := Claim7.holds Tryz.pinned (.plain (OpenSpec.ofChange iscpNamesSpec)) iscpNamesCard

/-- THE SECOND FORM's CARD OF 'glebelaw19.IscpNames'. -/
def iscpNamesUptoCard : Claim7 := { stood := { row := iscpNamesUptoRow, standIns := [], harness := (true, "b3d841603d1b6990ecb65d3363104b3747a674f04019779aa6f7eff9df5ec821"), looks := false }, kinds := [], alts := [], laidByText := true, laidKinds := [.data, .data, .data, .data, .pinned], laidTests := true, laidLooks := .later }
def IscpNamesUptoCardSaid : Prop := Claim7.holds Tryz.pinned (.plain (OpenSpec.upto iscpNamesSpec)) iscpNamesUptoCard
end Rows
end Go.Proofs.YtklegdhcpoibfaaGreatDoor
