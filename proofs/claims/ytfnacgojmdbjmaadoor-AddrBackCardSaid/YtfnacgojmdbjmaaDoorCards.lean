/-
  DERIVED. GIVEN WITH THE SEED: THE CARDS: each row of YtfnacgojmdbjmaaDoorRows.lean that lists a variable, with what it lists TIED to the program's text (the seventh form; the later family's looks); each row that meets fmt, with fmt's text TOLD by the authors' own Lean function (tested against real Go, not proved from fmt's source: count such statements apart). THE CARD IS WHAT COUNTS. Prove the row's statement (the work); the ties are given (YtfnacgojmdbjmaaDoorTie.lean); close each card by the builder's one call (the guide's Derived/Test/ToyasCard.lean, 'card_holds'). Laid BY PROGRAM, IN A SANDBOX (cutbox-door.mjs). By AI agents, Wed Nov 11 2026. No macro, syntax, notation, axiom, sorry.
-/
import Derived.Test.YtfnacgojmdbjmaaDoorRows
import GoSem.ClaimSeven
namespace Go.Proofs.YtfnacgojmdbjmaaDoor
namespace Rows

/-- THE TIED CARD OF 'glebelaw0.NamesNumbers'. -/
def namesNumbersCard : Claim7 := { stood := { row := namesNumbersRow, standIns := [], harness := (true, "f4485812763653ffca44ca5064ea510697a50d409c0e67ea003c933eb6baadb5"), looks := false }, kinds := [], alts := [], laidByText := true, laidKinds := [.data], laidTests := true, laidLooks := .later }
def NamesNumbersCardSaid : Prop := Claim7.holds Tryd.pinned (.plain (OpenSpec.ofChange namesNumbersSpec)) namesNumbersCard

/-- THE TIED CARD OF 'glebelaw1.QuadForms'. -/
def quadFormsCard : Claim7 := { stood := { row := quadFormsRow, standIns := [], harness := (true, "f4485812763653ffca44ca5064ea510697a50d409c0e67ea003c933eb6baadb5"), looks := false }, kinds := [], alts := [], laidByText := true, laidKinds := [.data], laidTests := true, laidLooks := .later }
def QuadFormsCardSaid : Prop := Claim7.holds Tryd.pinned (.plain (OpenSpec.ofChange quadFormsSpec)) quadFormsCard

/-- THE TIED CARD OF 'glebelaw1.QuadMasks'. -/
def quadMasksCard : Claim7 := { stood := { row := quadMasksRow, standIns := [], harness := (true, "f4485812763653ffca44ca5064ea510697a50d409c0e67ea003c933eb6baadb5"), looks := false }, kinds := [], alts := [], laidByText := true, laidKinds := [.data], laidTests := true, laidLooks := .later }
def QuadMasksCardSaid : Prop := Claim7.holds Tryd.pinned (.plain (OpenSpec.ofChange quadMasksSpec)) quadMasksCard

/-- THE TIED CARD OF 'glebelaw1.QuadBack'. -/
def quadBackCard : Claim7 := { stood := { row := quadBackRow, standIns := [], harness := (true, "f4485812763653ffca44ca5064ea510697a50d409c0e67ea003c933eb6baadb5"), looks := false }, kinds := [], alts := [], laidByText := true, laidKinds := [.data], laidTests := true, laidLooks := .later }
def QuadBackCardSaid : Prop := Claim7.holds Tryd.pinned (.plain (OpenSpec.ofChange quadBackSpec)) quadBackCard

/-- THE TIED CARD OF 'glebelaw1.QuadOrder'. -/
def quadOrderCard : Claim7 := { stood := { row := quadOrderRow, standIns := [], harness := (true, "f4485812763653ffca44ca5064ea510697a50d409c0e67ea003c933eb6baadb5"), looks := false }, kinds := [], alts := [], laidByText := true, laidKinds := [.data], laidTests := true, laidLooks := .later }
def QuadOrderCardSaid : Prop := Claim7.holds Tryd.pinned (.plain (OpenSpec.ofChange quadOrderSpec)) quadOrderCard

/-- THE TIED CARD OF 'glebelaw2.AddrForms'. -/
def addrFormsCard : Claim7 := { stood := { row := addrFormsRow, standIns := [], harness := (true, "f4485812763653ffca44ca5064ea510697a50d409c0e67ea003c933eb6baadb5"), looks := false }, kinds := [], alts := [], laidByText := true, laidKinds := [.data, .data, .data, .data, .pinned], laidTests := true, laidLooks := .later }
def AddrFormsCardSaid : Prop := Claim7.holds Tryd.pinned (.plain (OpenSpec.ofChange addrFormsSpec)) addrFormsCard

/-- THE TIED CARD OF 'glebelaw2.AddrNext'. -/
def addrNextCard : Claim7 := { stood := { row := addrNextRow, standIns := [], harness := (true, "f4485812763653ffca44ca5064ea510697a50d409c0e67ea003c933eb6baadb5"), looks := false }, kinds := [], alts := [], laidByText := true, laidKinds := [.data, .data, .data, .data, .pinned], laidTests := true, laidLooks := .later }
def AddrNextCardSaid : Prop := Claim7.holds Tryd.pinned (.plain (OpenSpec.ofChange addrNextSpec)) addrNextCard

/-- THE TIED CARD OF 'glebelaw2.AddrBack'. -/
def addrBackCard : Claim7 := { stood := { row := addrBackRow, standIns := [], harness := (true, "f4485812763653ffca44ca5064ea510697a50d409c0e67ea003c933eb6baadb5"), looks := false }, kinds := [], alts := [], laidByText := true, laidKinds := [.data, .data, .data, .data, .pinned], laidTests := true, laidLooks := .later }
def AddrBackCardSaid : Prop := Claim7.holds Tryd.pinned (.plain (OpenSpec.ofChange addrBackSpec)) addrBackCard

/-- THE TIED CARD OF 'glebelaw3.PrefForms'. -/
def prefFormsCard : Claim7 := { stood := { row := prefFormsRow, standIns := [], harness := (true, "f4485812763653ffca44ca5064ea510697a50d409c0e67ea003c933eb6baadb5"), looks := false }, kinds := [], alts := [], laidByText := true, laidKinds := [.data, .data, .data, .data, .pinned], laidTests := true, laidLooks := .later }
def PrefFormsCardSaid : Prop := Claim7.holds Tryd.pinned (.plain (OpenSpec.ofChange prefFormsSpec)) prefFormsCard

/-- THE TIED CARD OF 'glebelaw3.PrefMasks'. -/
def prefMasksCard : Claim7 := { stood := { row := prefMasksRow, standIns := [], harness := (true, "f4485812763653ffca44ca5064ea510697a50d409c0e67ea003c933eb6baadb5"), looks := false }, kinds := [], alts := [], laidByText := true, laidKinds := [.data, .data, .data, .data, .pinned], laidTests := true, laidLooks := .later }
def PrefMasksCardSaid : Prop := Claim7.holds Tryd.pinned (.plain (OpenSpec.ofChange prefMasksSpec)) prefMasksCard

/-- THE TIED CARD OF 'glebelaw3.PrefHolds'. -/
def prefHoldsCard : Claim7 := { stood := { row := prefHoldsRow, standIns := [], harness := (true, "f4485812763653ffca44ca5064ea510697a50d409c0e67ea003c933eb6baadb5"), looks := false }, kinds := [], alts := [], laidByText := true, laidKinds := [.data, .data, .data, .data, .pinned], laidTests := true, laidLooks := .later }
def PrefHoldsCardSaid : Prop := Claim7.holds Tryd.pinned (.plain (OpenSpec.ofChange prefHoldsSpec)) prefHoldsCard

/-- THE SECOND FORM's CARD OF 'glebelaw0.NamesNumbers'. -/
def namesNumbersUptoCard : Claim7 := { stood := { row := namesNumbersUptoRow, standIns := [], harness := (true, "f4485812763653ffca44ca5064ea510697a50d409c0e67ea003c933eb6baadb5"), looks := false }, kinds := [], alts := [], laidByText := true, laidKinds := [.data], laidTests := true, laidLooks := .later }
def NamesNumbersUptoCardSaid : Prop := Claim7.holds Tryd.pinned (.plain (OpenSpec.upto namesNumbersSpec)) namesNumbersUptoCard

/-- THE SECOND FORM's CARD OF 'glebelaw1.QuadForms'. -/
def quadFormsUptoCard : Claim7 := { stood := { row := quadFormsUptoRow, standIns := [], harness := (true, "f4485812763653ffca44ca5064ea510697a50d409c0e67ea003c933eb6baadb5"), looks := false }, kinds := [], alts := [], laidByText := true, laidKinds := [.data], laidTests := true, laidLooks := .later }
def QuadFormsUptoCardSaid : Prop := Claim7.holds Tryd.pinned (.plain (OpenSpec.upto quadFormsSpec)) quadFormsUptoCard

/-- THE SECOND FORM's CARD OF 'glebelaw1.QuadMasks'. -/
def quadMasksUptoCard : Claim7 := { stood := { row := quadMasksUptoRow, standIns := [], harness := (true, "f4485812763653ffca44ca5064ea510697a50d409c0e67ea003c933eb6baadb5"), looks := false }, kinds := [], alts := [], laidByText := true, laidKinds := [.data], laidTests := true, laidLooks := .later }
def QuadMasksUptoCardSaid : Prop := Claim7.holds Tryd.pinned (.plain (OpenSpec.upto quadMasksSpec)) quadMasksUptoCard

/-- THE SECOND FORM's CARD OF 'glebelaw1.QuadBack'. -/
def quadBackUptoCard : Claim7 := { stood := { row := quadBackUptoRow, standIns := [], harness := (true, "f4485812763653ffca44ca5064ea510697a50d409c0e67ea003c933eb6baadb5"), looks := false }, kinds := [], alts := [], laidByText := true, laidKinds := [.data], laidTests := true, laidLooks := .later }
def QuadBackUptoCardSaid : Prop := Claim7.holds Tryd.pinned (.plain (OpenSpec.upto quadBackSpec)) quadBackUptoCard

/-- THE SECOND FORM's CARD OF 'glebelaw1.QuadOrder'. -/
def quadOrderUptoCard : Claim7 := { stood := { row := quadOrderUptoRow, standIns := [], harness := (true, "f4485812763653ffca44ca5064ea510697a50d409c0e67ea003c933eb6baadb5"), looks := false }, kinds := [], alts := [], laidByText := true, laidKinds := [.data], laidTests := true, laidLooks := .later }
def QuadOrderUptoCardSaid : Prop := Claim7.holds Tryd.pinned (.plain (OpenSpec.upto quadOrderSpec)) quadOrderUptoCard

/-- THE SECOND FORM's CARD OF 'glebelaw2.AddrForms'. -/
def addrFormsUptoCard : Claim7 := { stood := { row := addrFormsUptoRow, standIns := [], harness := (true, "f4485812763653ffca44ca5064ea510697a50d409c0e67ea003c933eb6baadb5"), looks := false }, kinds := [], alts := [], laidByText := true, laidKinds := [.data, .data, .data, .data, .pinned], laidTests := true, laidLooks := .later }
def AddrFormsUptoCardSaid : Prop := Claim7.holds Tryd.pinned (.plain (OpenSpec.upto addrFormsSpec)) addrFormsUptoCard

/-- THE SECOND FORM's CARD OF 'glebelaw2.AddrNext'. -/
def addrNextUptoCard : Claim7 := { stood := { row := addrNextUptoRow, standIns := [], harness := (true, "f4485812763653ffca44ca5064ea510697a50d409c0e67ea003c933eb6baadb5"), looks := false }, kinds := [], alts := [], laidByText := true, laidKinds := [.data, .data, .data, .data, .pinned], laidTests := true, laidLooks := .later }
def AddrNextUptoCardSaid : Prop := Claim7.holds Tryd.pinned (.plain (OpenSpec.upto addrNextSpec)) addrNextUptoCard

/-- THE SECOND FORM's CARD OF 'glebelaw2.AddrBack'. -/
def addrBackUptoCard : Claim7 := { stood := { row := addrBackUptoRow, standIns := [], harness := (true, "f4485812763653ffca44ca5064ea510697a50d409c0e67ea003c933eb6baadb5"), looks := false }, kinds := [], alts := [], laidByText := true, laidKinds := [.data, .data, .data, .data, .pinned], laidTests := true, laidLooks := .later }
def AddrBackUptoCardSaid : Prop := Claim7.holds Tryd.pinned (.plain (OpenSpec.upto addrBackSpec)) addrBackUptoCard

/-- THE SECOND FORM's CARD OF 'glebelaw3.PrefForms'. -/
def prefFormsUptoCard : Claim7 := { stood := { row := prefFormsUptoRow, standIns := [], harness := (true, "f4485812763653ffca44ca5064ea510697a50d409c0e67ea003c933eb6baadb5"), looks := false }, kinds := [], alts := [], laidByText := true, laidKinds := [.data, .data, .data, .data, .pinned], laidTests := true, laidLooks := .later }
def PrefFormsUptoCardSaid : Prop := Claim7.holds Tryd.pinned (.plain (OpenSpec.upto prefFormsSpec)) prefFormsUptoCard

/-- THE SECOND FORM's CARD OF 'glebelaw3.PrefMasks'. -/
def prefMasksUptoCard : Claim7 := { stood := { row := prefMasksUptoRow, standIns := [], harness := (true, "f4485812763653ffca44ca5064ea510697a50d409c0e67ea003c933eb6baadb5"), looks := false }, kinds := [], alts := [], laidByText := true, laidKinds := [.data, .data, .data, .data, .pinned], laidTests := true, laidLooks := .later }
def PrefMasksUptoCardSaid : Prop := Claim7.holds Tryd.pinned (.plain (OpenSpec.upto prefMasksSpec)) prefMasksUptoCard

/-- THE SECOND FORM's CARD OF 'glebelaw3.PrefHolds'. -/
def prefHoldsUptoCard : Claim7 := { stood := { row := prefHoldsUptoRow, standIns := [], harness := (true, "f4485812763653ffca44ca5064ea510697a50d409c0e67ea003c933eb6baadb5"), looks := false }, kinds := [], alts := [], laidByText := true, laidKinds := [.data, .data, .data, .data, .pinned], laidTests := true, laidLooks := .later }
def PrefHoldsUptoCardSaid : Prop := Claim7.holds Tryd.pinned (.plain (OpenSpec.upto prefHoldsSpec)) prefHoldsUptoCard
end Rows
end Go.Proofs.YtfnacgojmdbjmaaDoor
