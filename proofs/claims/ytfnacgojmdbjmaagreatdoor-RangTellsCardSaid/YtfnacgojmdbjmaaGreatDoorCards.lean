/-
  DERIVED. GIVEN WITH THE SEED: THE CARDS: each row of YtfnacgojmdbjmaaGreatDoorRows.lean that lists a variable, with what it lists TIED to the program's text (the seventh form; the later family's looks); each row that meets fmt, with fmt's text TOLD by the authors' own Lean function (tested against real Go, not proved from fmt's source: count such statements apart). THE CARD IS WHAT COUNTS. Prove the row's statement (the work); the ties are given (YtfnacgojmdbjmaaGreatDoorTie.lean); close each card by the builder's one call (the guide's Derived/Test/ToyasCard.lean, 'card_holds'). Laid BY PROGRAM, IN A SANDBOX (cutbox-door.mjs). By AI agents, Wed Nov 11 2026. No macro, syntax, notation, axiom, sorry.
-/
import Derived.Test.YtfnacgojmdbjmaaGreatDoorRows
import GoSem.ClaimSeven
namespace Go.Proofs.YtfnacgojmdbjmaaGreatDoor
namespace Rows

/-- THE TIED CARD OF 'glebelaw3.PrefTells'. -/
def prefTellsCard : Claim7 := { stood := { row := prefTellsRow, standIns := [], harness := (true, "1c36de9660843907b8c3e0895a467f8eef6e8407a06d415001d0f361211703f3"), looks := false }, kinds := [], alts := [], laidByText := true, laidKinds := [.data, .data, .data, .data, .pinned], laidTests := true, laidLooks := .later }
def PrefTellsCardSaid : Prop := Claim7.holds Tryz.pinned (.plain (OpenSpec.ofChange prefTellsSpec)) prefTellsCard

/-- THE TIED CARD OF 'glebelaw4.RangForms'. -/
def rangFormsCard : Claim7 := { stood := { row := rangFormsRow, standIns := [], harness := (true, "1c36de9660843907b8c3e0895a467f8eef6e8407a06d415001d0f361211703f3"), looks := false }, kinds := [], alts := [], laidByText := true, laidKinds := [.data, .data, .data, .data, .pinned], laidTests := true, laidLooks := .later }
def RangFormsCardSaid : Prop := Claim7.holds Tryz.pinned (.plain (OpenSpec.ofChange rangFormsSpec)) rangFormsCard

/-- THE TIED CARD OF 'glebelaw4.RangOver'. -/
def rangOverCard : Claim7 := { stood := { row := rangOverRow, standIns := [], harness := (true, "1c36de9660843907b8c3e0895a467f8eef6e8407a06d415001d0f361211703f3"), looks := false }, kinds := [], alts := [], laidByText := true, laidKinds := [.data, .data, .data, .data, .pinned], laidTests := true, laidLooks := .later }
def RangOverCardSaid : Prop := Claim7.holds Tryz.pinned (.plain (OpenSpec.ofChange rangOverSpec)) rangOverCard

/-- THE TIED CARD OF 'glebelaw4.RangCount'. -/
def rangCountCard : Claim7 := { stood := { row := rangCountRow, standIns := [], harness := (true, "1c36de9660843907b8c3e0895a467f8eef6e8407a06d415001d0f361211703f3"), looks := false }, kinds := [], alts := [], laidByText := true, laidKinds := [.data, .data, .data, .data, .pinned], laidTests := true, laidLooks := .later }
def RangCountCardSaid : Prop := Claim7.holds Tryz.pinned (.plain (OpenSpec.ofChange rangCountSpec)) rangCountCard

/-- THE TIED CARD OF 'glebelaw4.RangTells'. -/
def rangTellsCard : Claim7 := { stood := { row := rangTellsRow, standIns := [], harness := (true, "1c36de9660843907b8c3e0895a467f8eef6e8407a06d415001d0f361211703f3"), looks := false }, kinds := [], alts := [], laidByText := true, laidKinds := [.data, .data, .data, .data, .pinned], laidTests := true, laidLooks := .later }
def RangTellsCardSaid : Prop := Claim7.holds Tryz.pinned (.plain (OpenSpec.ofChange rangTellsSpec)) rangTellsCard

/-- THE TIED CARD OF 'glebelaw4.RangCover'. -/
def rangCoverCard : Claim7 := { stood := { row := rangCoverRow, standIns := [], harness := (true, "1c36de9660843907b8c3e0895a467f8eef6e8407a06d415001d0f361211703f3"), looks := false }, kinds := [], alts := [], laidByText := true, laidKinds := [.data, .data, .data, .data, .pinned], laidTests := true, laidLooks := .later }
def RangCoverCardSaid : Prop := Claim7.holds Tryz.pinned (.plain (OpenSpec.ofChange rangCoverSpec)) rangCoverCard

/-- THE SECOND FORM's CARD OF 'glebelaw3.PrefTells'. -/
def prefTellsUptoCard : Claim7 := { stood := { row := prefTellsUptoRow, standIns := [], harness := (true, "1c36de9660843907b8c3e0895a467f8eef6e8407a06d415001d0f361211703f3"), looks := false }, kinds := [], alts := [], laidByText := true, laidKinds := [.data, .data, .data, .data, .pinned], laidTests := true, laidLooks := .later }
def PrefTellsUptoCardSaid : Prop := Claim7.holds Tryz.pinned (.plain (OpenSpec.upto prefTellsSpec)) prefTellsUptoCard

/-- THE SECOND FORM's CARD OF 'glebelaw4.RangForms'. -/
def rangFormsUptoCard : Claim7 := { stood := { row := rangFormsUptoRow, standIns := [], harness := (true, "1c36de9660843907b8c3e0895a467f8eef6e8407a06d415001d0f361211703f3"), looks := false }, kinds := [], alts := [], laidByText := true, laidKinds := [.data, .data, .data, .data, .pinned], laidTests := true, laidLooks := .later }
def RangFormsUptoCardSaid : Prop := Claim7.holds Tryz.pinned (.plain (OpenSpec.upto rangFormsSpec)) rangFormsUptoCard

/-- THE SECOND FORM's CARD OF 'glebelaw4.RangOver'. -/
def rangOverUptoCard : Claim7 := { stood := { row := rangOverUptoRow, standIns := [], harness := (true, "1c36de9660843907b8c3e0895a467f8eef6e8407a06d415001d0f361211703f3"), looks := false }, kinds := [], alts := [], laidByText := true, laidKinds := [.data, .data, .data, .data, .pinned], laidTests := true, laidLooks := .later }
def RangOverUptoCardSaid : Prop := Claim7.holds Tryz.pinned (.plain (OpenSpec.upto rangOverSpec)) rangOverUptoCard

/-- THE SECOND FORM's CARD OF 'glebelaw4.RangCount'. -/
def rangCountUptoCard : Claim7 := { stood := { row := rangCountUptoRow, standIns := [], harness := (true, "1c36de9660843907b8c3e0895a467f8eef6e8407a06d415001d0f361211703f3"), looks := false }, kinds := [], alts := [], laidByText := true, laidKinds := [.data, .data, .data, .data, .pinned], laidTests := true, laidLooks := .later }
def RangCountUptoCardSaid : Prop := Claim7.holds Tryz.pinned (.plain (OpenSpec.upto rangCountSpec)) rangCountUptoCard

/-- THE SECOND FORM's CARD OF 'glebelaw4.RangTells'. -/
def rangTellsUptoCard : Claim7 := { stood := { row := rangTellsUptoRow, standIns := [], harness := (true, "1c36de9660843907b8c3e0895a467f8eef6e8407a06d415001d0f361211703f3"), looks := false }, kinds := [], alts := [], laidByText := true, laidKinds := [.data, .data, .data, .data, .pinned], laidTests := true, laidLooks := .later }
def RangTellsUptoCardSaid : Prop := Claim7.holds Tryz.pinned (.plain (OpenSpec.upto rangTellsSpec)) rangTellsUptoCard

/-- THE SECOND FORM's CARD OF 'glebelaw4.RangCover'. -/
def rangCoverUptoCard : Claim7 := { stood := { row := rangCoverUptoRow, standIns := [], harness := (true, "1c36de9660843907b8c3e0895a467f8eef6e8407a06d415001d0f361211703f3"), looks := false }, kinds := [], alts := [], laidByText := true, laidKinds := [.data, .data, .data, .data, .pinned], laidTests := true, laidLooks := .later }
def RangCoverUptoCardSaid : Prop := Claim7.holds Tryz.pinned (.plain (OpenSpec.upto rangCoverSpec)) rangCoverUptoCard
end Rows
end Go.Proofs.YtfnacgojmdbjmaaGreatDoor
