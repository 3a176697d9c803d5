/-
  DERIVED. GIVEN WITH THE SEED: THE CARDS: each row of YtcjbddgeoiacoabGreatDoorRows.lean that lists a variable, with what it lists TIED to the program's text (the seventh form; the later family's looks); each row that meets fmt, with fmt's text TOLD by the authors' own Lean function (tested against real Go, not proved from fmt's source: count such statements apart). THE CARD IS WHAT COUNTS. Prove the row's statement (the work); the ties are given (YtcjbddgeoiacoabGreatDoorTie.lean); close each card by the builder's one call (the guide's Derived/Test/ToyasCard.lean, 'card_holds'). Laid BY PROGRAM, IN A SANDBOX (cutbox-door.mjs). By AI agents, Wed Nov 11 2026. No macro, syntax, notation, axiom, sorry.
-/
import Derived.Test.YtcjbddgeoiacoabGreatDoorRows
import GoSem.ClaimSeven
namespace Go.Proofs.YtcjbddgeoiacoabGreatDoor
namespace Rows

/-- THE TIED CARD OF 'glebelaw15.ValiForms'. -/
def valiFormsCard : Claim7 := { stood := { row := valiFormsRow, standIns := [], harness := (true, "68b4ca4ae20ddaeeb9b642ff2fafcf43190dc69365e068e7882badeef2ee32c3"), looks := false }, kinds := [], alts := [], laidByText := true, laidKinds := [.data, .data, .data, .data, .pinned], laidTests := true, laidLooks := .later }
def ValiFormsCardSaid : Prop := Claim7.holds Tryz.pinned (.plain (OpenSpec.ofChange valiFormsSpec)) valiFormsCard

/-- THE TIED CARD OF 'glebelaw15.ValiRight'. -/
def valiRightCard : Claim7 := { stood := { row := valiRightRow, standIns := [], harness := (true, "68b4ca4ae20ddaeeb9b642ff2fafcf43190dc69365e068e7882badeef2ee32c3"), looks := false }, kinds := [], alts := [], laidByText := true, laidKinds := [.data, .data, .data, .data, .pinned], laidTests := true, laidLooks := .later }
def ValiRightCardSaid : Prop := Claim7.holds Tryz.pinned (.plain (OpenSpec.ofChange valiRightSpec)) valiRightCard

/-- THE TIED CARD OF 'glebelaw15.ValiCaps'. -/
def valiCapsCard : Claim7 := { stood := { row := valiCapsRow, standIns := [], harness := (true, "68b4ca4ae20ddaeeb9b642ff2fafcf43190dc69365e068e7882badeef2ee32c3"), looks := false }, kinds := [], alts := [], laidByText := true, laidKinds := [.data, .data, .data, .data, .pinned], laidTests := true, laidLooks := .later }
def ValiCapsCardSaid : Prop := Claim7.holds Tryz.pinned (.plain (OpenSpec.ofChange valiCapsSpec)) valiCapsCard

/-- THE TIED CARD OF 'glebelaw15.ValiTells'. -/
def valiTellsCard : Claim7 := { stood := { row := valiTellsRow, standIns := [], harness := (true, "68b4ca4ae20ddaeeb9b642ff2fafcf43190dc69365e068e7882badeef2ee32c3"), looks := false }, kinds := [], alts := [], laidByText := true, laidKinds := [.data, .data, .data, .data, .pinned], laidTests := true, laidLooks := .later }
def ValiTellsCardSaid : Prop := Claim7.holds Tryz.pinned (.plain (OpenSpec.ofChange valiTellsSpec)) valiTellsCard

/-- THE TIED CARD OF 'glebelaw17.ExprForms'. -/
def exprFormsCard : Claim7 := { stood := { row := exprFormsRow, standIns := [], harness := (true, "68b4ca4ae20ddaeeb9b642ff2fafcf43190dc69365e068e7882badeef2ee32c3"), looks := false }, kinds := [], alts := [], laidByText := true, laidKinds := [.data, .data, .data], laidTests := true, laidLooks := .later }
def ExprFormsCardSaid : Prop := Claim7.holds Tryz.pinned (.plain (OpenSpec.ofChange exprFormsSpec)) exprFormsCard

/-- THE SECOND FORM's CARD OF 'glebelaw15.ValiForms'. -/
def valiFormsUptoCard : Claim7 := { stood := { row := valiFormsUptoRow, standIns := [], harness := (true, "68b4ca4ae20ddaeeb9b642ff2fafcf43190dc69365e068e7882badeef2ee32c3"), looks := false }, kinds := [], alts := [], laidByText := true, laidKinds := [.data, .data, .data, .data, .pinned], laidTests := true, laidLooks := .later }
def ValiFormsUptoCardSaid : Prop := Claim7.holds Tryz.pinned (.plain (OpenSpec.upto valiFormsSpec)) valiFormsUptoCard

/-- THE SECOND FORM's CARD OF 'glebelaw15.ValiRight'. -/
def valiRightUptoCard : Claim7 := { stood := { row := valiRightUptoRow, standIns := [], harness := (true, "68b4ca4ae20ddaeeb9b642ff2fafcf43190dc69365e068e7882badeef2ee32c3"), looks := false }, kinds := [], alts := [], laidByText := true, laidKinds := [.data, .data, .data, .data, .pinned], laidTests := true, laidLooks := .later }
def ValiRightUptoCardSaid : Prop := Claim7.holds Tryz.pinned (.plain (OpenSpec.upto valiRightSpec)) valiRightUptoCard

/-- THE SECOND FORM's CARD OF 'glebelaw15.ValiCaps'. -/
def valiCapsUptoCard : Claim7 := { stood := { row := valiCapsUptoRow, standIns := [], harness := (true, "68b4ca4ae20ddaeeb9b642ff2fafcf43190dc69365e068e7882badeef2ee32c3"), looks := false }, kinds := [], alts := [], laidByText := true, laidKinds := [.data, .data, .data, .data, .pinned], laidTests := true, laidLooks := .later }
def ValiCapsUptoCardSaid : Prop := Claim7.holds Tryz.pinned (.plain (OpenSpec.upto valiCapsSpec)) valiCapsUptoCard

/-- THE SECOND FORM's CARD OF 'glebelaw15.ValiTells'. -/
def valiTellsUptoCard : Claim7 := { stood := { row := valiTellsUptoRow, standIns := [], harness := (true, "68b4ca4ae20ddaeeb9b642ff2fafcf43190dc69365e068e7882badeef2ee32c3"), looks := false }, kinds := [], alts := [], laidByText := true, laidKinds := [.data, .data, .data, .data, .pinned], laidTests := true, laidLooks := .later }
def ValiTellsUptoCardSaid : Prop := Claim7.holds Tryz.pinned (.plain (OpenSpec.upto valiTellsSpec)) valiTellsUptoCard

/-- THE SECOND FORM's CARD OF 'glebelaw17.ExprForms'. -/
def exprFormsUptoCard : Claim7 := { stood := { row := exprFormsUptoRow, standIns := [], harness := (true, "68b4ca4ae20ddaeeb9b642ff2fafcf43190dc69365e068e7882badeef2ee32c3"), looks := false }, kinds := [], alts := [], laidByText := true, laidKinds := [.data, .data, .data], laidTests := true, laidLooks := .later }
def ExprFormsUptoCardSaid : Prop := Claim7.holds Tryz.pinned (.plain (OpenSpec.upto exprFormsSpec)) exprFormsUptoCard
end Rows
end Go.Proofs.YtcjbddgeoiacoabGreatDoor
