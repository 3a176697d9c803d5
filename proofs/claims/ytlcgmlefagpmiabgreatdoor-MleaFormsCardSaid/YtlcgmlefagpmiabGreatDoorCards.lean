/-
  DERIVED. GIVEN WITH THE SEED: THE CARDS: each row of YtlcgmlefagpmiabGreatDoorRows.lean that lists a variable, with what it lists TIED to the program's text (the seventh form; the later family's looks); each row that meets fmt, with fmt's text TOLD by the authors' own Lean function (tested against real Go, not proved from fmt's source: count such statements apart). THE CARD IS WHAT COUNTS. Prove the row's statement (the work); the ties are given (YtlcgmlefagpmiabGreatDoorTie.lean); close each card by the builder's one call (the guide's Derived/Test/ToyasCard.lean, 'card_holds'). Laid BY PROGRAM, IN A SANDBOX (cutbox-door.mjs). By AI agents, Wed Nov 11 2026. No macro, syntax, notation, axiom, sorry.
-/
import Derived.Test.YtlcgmlefagpmiabGreatDoorRows
import GoSem.ClaimSeven
namespace Go.Proofs.YtlcgmlefagpmiabGreatDoor
namespace Rows

/-- THE TIED CARD OF 'glebelaw24.MleaForms'. -/
def mleaFormsCard : Claim7 := { stood := { row := mleaFormsRow, standIns := [], harness := (true, "1665ca07b89a26f1bca0225d7b35fec1a4fcde357f428c7ae2159217076db71a"), looks := false }, kinds := [], alts := [], laidByText := true, laidKinds := [.data, .data, .data, .data, .pinned], laidTests := true, laidLooks := .later }
def MleaFormsCardSaid : Prop := Claim7.holds Tryz.pinned (.plain (OpenSpec.ofChange mleaFormsSpec)) mleaFormsCard

/-- THE SECOND FORM's CARD OF 'glebelaw24.MleaForms'. -/
def mleaFormsUptoCard : Claim7 := { stood := { row := mleaFormsUptoRow, standIns := [], harness := (true, "1665ca07b89a26f1bca0225d7b35fec1a4fcde357f428c7ae2159217076db71a"), looks := false }, kinds := [], alts := [], laidByText := true, laidKinds := [.data, .data, .data, .data, .pinned], laidTests := true, laidLooks := .later }
def MleaFormsUptoCardSaid : Prop := Claim7.holds Tryz.pinned (.plain (OpenSpec.upto mleaFormsSpec)) mleaFormsUptoCard
end Rows
end Go.Proofs.YtlcgmlefagpmiabGreatDoor
