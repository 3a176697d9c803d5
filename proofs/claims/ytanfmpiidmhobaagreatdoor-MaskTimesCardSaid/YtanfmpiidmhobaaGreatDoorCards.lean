/-
  DERIVED. GIVEN WITH THE SEED: THE CARDS: each row of YtanfmpiidmhobaaGreatDoorRows.lean that lists a variable, with what it lists TIED to the program's text (the seventh form; the later family's looks); each row that meets fmt, with fmt's text TOLD by the authors' own Lean function (tested against real Go, not proved from fmt's source: count such statements apart). THE CARD IS WHAT COUNTS. Prove the row's statement (the work); the ties are given (YtanfmpiidmhobaaGreatDoorTie.lean); close each card by the builder's one call (the guide's Derived/Test/ToyasCard.lean, 'card_holds'). Laid BY PROGRAM, IN A SANDBOX (cutbox-door.mjs). By AI agents, Wed Nov 11 2026. No macro, syntax, notation, axiom, sorry.
-/
import Derived.Test.YtanfmpiidmhobaaGreatDoorRows
import GoSem.ClaimSeven
namespace Go.Proofs.YtanfmpiidmhobaaGreatDoor
namespace Rows

/-- THE TIED CARD OF 'glebelaw23.MaskTimes'. -/
def maskTimesCard : Claim7 := { stood := { row := maskTimesRow, standIns := [], harness := (true, "cb161a5da90cffaffdd799172c73ef6e8a1a3f8e09da03b60521ff82436c4ef4"), looks := false }, kinds := [], alts := [], laidByText := true, laidKinds := [.data, .data, .data, .data, .pinned], laidTests := true, laidLooks := .later }
def MaskTimesCardSaid : Prop := Claim7.holds Tryz.pinned (.plain (OpenSpec.ofChange maskTimesSpec)) maskTimesCard

/-- THE SECOND FORM's CARD OF 'glebelaw23.MaskTimes'. -/
def maskTimesUptoCard : Claim7 := { stood := { row := maskTimesUptoRow, standIns := [], harness := (true, "cb161a5da90cffaffdd799172c73ef6e8a1a3f8e09da03b60521ff82436c4ef4"), looks := false }, kinds := [], alts := [], laidByText := true, laidKinds := [.data, .data, .data, .data, .pinned], laidTests := true, laidLooks := .later }
def MaskTimesUptoCardSaid : Prop := Claim7.holds Tryz.pinned (.plain (OpenSpec.upto maskTimesSpec)) maskTimesUptoCard
end Rows
end Go.Proofs.YtanfmpiidmhobaaGreatDoor
