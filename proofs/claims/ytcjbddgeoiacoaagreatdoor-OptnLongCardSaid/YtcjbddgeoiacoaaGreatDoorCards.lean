/-
  DERIVED. GIVEN WITH THE SEED: THE CARDS: each row of YtcjbddgeoiacoaaGreatDoorRows.lean that lists a variable, with what it lists TIED to the program's text (the seventh form; the later family's looks); each row that meets fmt, with fmt's text TOLD by the authors' own Lean function (tested against real Go, not proved from fmt's source: count such statements apart). THE CARD IS WHAT COUNTS. Prove the row's statement (the work); the ties are given (YtcjbddgeoiacoaaGreatDoorTie.lean); close each card by the builder's one call (the guide's Derived/Test/ToyasCard.lean, 'card_holds'). Laid BY PROGRAM, IN A SANDBOX (cutbox-door.mjs). By AI agents, Wed Nov 11 2026. No macro, syntax, notation, axiom, sorry.
-/
import Derived.Test.YtcjbddgeoiacoaaGreatDoorRows
import GoSem.ClaimSeven
namespace Go.Proofs.YtcjbddgeoiacoaaGreatDoor
namespace Rows

/-- THE TIED CARD OF 'glebelaw13.OptnForms'. -/
def optnFormsCard : Claim7 := { stood := { row := optnFormsRow, standIns := [], harness := (true, "72b4bea03e98f7c99785e9cbb05f0bbffe6993c0483054ae277b5de2fff02993"), looks := false }, kinds := [], alts := [], laidByText := true, laidKinds := [.data, .data, .data, .data, .pinned], laidTests := true, laidLooks := .later }
def OptnFormsCardSaid : Prop := Claim7.holds Tryz.pinned (.plain (OpenSpec.ofChange optnFormsSpec)) optnFormsCard

/-- THE TIED CARD OF 'glebelaw13.OptnTable'. -/
def optnTableCard : Claim7 := { stood := { row := optnTableRow, standIns := [], harness := (true, "72b4bea03e98f7c99785e9cbb05f0bbffe6993c0483054ae277b5de2fff02993"), looks := false }, kinds := [], alts := [], laidByText := true, laidKinds := [.data, .data, .data, .data, .pinned], laidTests := true, laidLooks := .later }
def OptnTableCardSaid : Prop := Claim7.holds Tryz.pinned (.plain (OpenSpec.ofChange optnTableSpec)) optnTableCard

/-- THE TIED CARD OF 'glebelaw13.OptnLong'. -/
def optnLongCard : Claim7 := { stood := { row := optnLongRow, standIns := [], harness := (true, "72b4bea03e98f7c99785e9cbb05f0bbffe6993c0483054ae277b5de2fff02993"), looks := false }, kinds := [], alts := [], laidByText := true, laidKinds := [.data, .data, .data, .data, .pinned], laidTests := true, laidLooks := .later }
def OptnLongCardSaid : Prop := Claim7.holds Tryz.pinned (.plain (OpenSpec.ofChange optnLongSpec)) optnLongCard

/-- THE TIED CARD OF 'glebelaw13.OptnTells'. -/
def optnTellsCard : Claim7 := { stood := { row := optnTellsRow, standIns := [], harness := (true, "72b4bea03e98f7c99785e9cbb05f0bbffe6993c0483054ae277b5de2fff02993"), looks := false }, kinds := [], alts := [], laidByText := true, laidKinds := [.data, .data, .data, .data, .pinned], laidTests := true, laidLooks := .later }
def OptnTellsCardSaid : Prop := Claim7.holds Tryz.pinned (.plain (OpenSpec.ofChange optnTellsSpec)) optnTellsCard

/-- THE TIED CARD OF 'glebelaw13.OptnBack'. -/
def optnBackCard : Claim7 := { stood := { row := optnBackRow, standIns := [], harness := (true, "72b4bea03e98f7c99785e9cbb05f0bbffe6993c0483054ae277b5de2fff02993"), looks := false }, kinds := [], alts := [], laidByText := true, laidKinds := [.data, .data, .data, .data, .pinned], laidTests := true, laidLooks := .later }
def OptnBackCardSaid : Prop := Claim7.holds Tryz.pinned (.plain (OpenSpec.ofChange optnBackSpec)) optnBackCard

/-- THE SECOND FORM's CARD OF 'glebelaw13.OptnForms'. -/
def optnFormsUptoCard : Claim7 := { stood := { row := optnFormsUptoRow, standIns := [], harness := (true, "72b4bea03e98f7c99785e9cbb05f0bbffe6993c0483054ae277b5de2fff02993"), looks := false }, kinds := [], alts := [], laidByText := true, laidKinds := [.data, .data, .data, .data, .pinned], laidTests := true, laidLooks := .later }
def OptnFormsUptoCardSaid : Prop := Claim7.holds Tryz.pinned (.plain (OpenSpec.upto optnFormsSpec)) optnFormsUptoCard

/-- THE SECOND FORM's CARD OF 'glebelaw13.OptnTable'. -/
def optnTableUptoCard : Claim7 := { stood := { row := optnTableUptoRow, standIns := [], harness := (true, "72b4bea03e98f7c99785e9cbb05f0bbffe6993c0483054ae277b5de2fff02993"), looks := false }, kinds := [], alts := [], laidByText := true, laidKinds := [.data, .data, .data, .data, .pinned], laidTests := true, laidLooks := .later }
def OptnTableUptoCardSaid : Prop := Claim7.holds Tryz.pinned (.plain (OpenSpec.upto optnTableSpec)) optnTableUptoCard

/-- THE SECOND FORM's CARD OF 'glebelaw13.OptnLong'. -/
def optnLongUptoCard : Claim7 := { stood := { row := optnLongUptoRow, standIns := [], harness := (true, "72b4bea03e98f7c99785e9cbb05f0bbffe6993c0483054ae277b5de2fff02993"), looks := false }, kinds := [], alts := [], laidByText := true, laidKinds := [.data, .data, .data, .data, .pinned], laidTests := true, laidLooks := .later }
def OptnLongUptoCardSaid : Prop := Claim7.holds Tryz.pinned (.plain (OpenSpec.upto optnLongSpec)) optnLongUptoCard

/-- THE SECOND FORM's CARD OF 'glebelaw13.OptnTells'. -/
def optnTellsUptoCard : Claim7 := { stood := { row := optnTellsUptoRow, standIns := [], harness := (true, "72b4bea03e98f7c99785e9cbb05f0bbffe6993c0483054ae277b5de2fff02993"), looks := false }, kinds := [], alts := [], laidByText := true, laidKinds := [.data, .data, .data, .data, .pinned], laidTests := true, laidLooks := .later }
def OptnTellsUptoCardSaid : Prop := Claim7.holds Tryz.pinned (.plain (OpenSpec.upto optnTellsSpec)) optnTellsUptoCard

/-- THE SECOND FORM's CARD OF 'glebelaw13.OptnBack'. -/
def optnBackUptoCard : Claim7 := { stood := { row := optnBackUptoRow, standIns := [], harness := (true, "72b4bea03e98f7c99785e9cbb05f0bbffe6993c0483054ae277b5de2fff02993"), looks := false }, kinds := [], alts := [], laidByText := true, laidKinds := [.data, .data, .data, .data, .pinned], laidTests := true, laidLooks := .later }
def OptnBackUptoCardSaid : Prop := Claim7.holds Tryz.pinned (.plain (OpenSpec.upto optnBackSpec)) optnBackUptoCard
end Rows
end Go.Proofs.YtcjbddgeoiacoaaGreatDoor
