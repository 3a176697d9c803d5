/-
  DERIVED. GIVEN WITH THE SEED: THE CARDS: each row of YtklegdhcpoibfabGreatDoorRows.lean that lists a variable, with what it lists TIED to the program's text (the seventh form; the later family's looks); each row that meets fmt, with fmt's text TOLD by the authors' own Lean function (tested against real Go, not proved from fmt's source: count such statements apart). THE CARD IS WHAT COUNTS. Prove the row's statement (the work); the ties are given (YtklegdhcpoibfabGreatDoorTie.lean); close each card by the builder's one call (the guide's Derived/Test/ToyasCard.lean, 'card_holds'). Laid BY PROGRAM, IN A SANDBOX (cutbox-door.mjs). By AI agents, Wed Nov 11 2026. No macro, syntax, notation, axiom, sorry.
-/
import Derived.Test.YtklegdhcpoibfabGreatDoorRows
import GoSem.ClaimSeven
namespace Go.Proofs.YtklegdhcpoibfabGreatDoor
namespace Rows

/-- THE TIED CARD OF 'glebelaw16.FactForms'. -/
def factFormsCard : Claim7 := { stood := { row := factFormsRow, standIns := [], harness := (true, "642f0d3aa3acda716e4ce9330617e754e2deeb1709e540da0378de90ffd33016"), looks := false }, kinds := [], alts := [], laidByText := true, laidKinds := [.data, .data, .data, .data, .pinned], laidTests := true, laidLooks := .later }
def FactFormsCardSaid : Prop := Claim7.holds Tryz.pinned (.plain (OpenSpec.ofChange factFormsSpec)) factFormsCard

/-- THE SECOND FORM's CARD OF 'glebelaw16.FactForms'. -/
def factFormsUptoCard : Claim7 := { stood := { row := factFormsUptoRow, standIns := [], harness := (true, "642f0d3aa3acda716e4ce9330617e754e2deeb1709e540da0378de90ffd33016"), looks := false }, kinds := [], alts := [], laidByText := true, laidKinds := [.data, .data, .data, .data, .pinned], laidTests := true, laidLooks := .later }
def FactFormsUptoCardSaid : Prop := Claim7.holds Tryz.pinned (.plain (OpenSpec.upto factFormsSpec)) factFormsUptoCard
end Rows
end Go.Proofs.YtklegdhcpoibfabGreatDoor
