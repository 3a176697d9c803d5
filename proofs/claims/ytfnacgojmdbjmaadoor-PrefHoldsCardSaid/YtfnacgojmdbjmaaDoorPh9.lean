/- Words of the print: those of them that this claim names; the others were left out by a program of this claim. -/
import Derived.Test.YtfnacgojmdbjmaaDoorPh8
import Derived.Lib.SmallJoins
/- The contracts of the functions of 128 bits, at every world. -/
namespace Go.Proofs.YtfnacgojmdbjmaaDoor
open Go.ChangeShapes Go.WideShapes Go.ChangeAt Go.RowKit Go.Det
set_option maxRecDepth 100000

theorem own0 {W : World} : OwnsAll Tryd.prog W 1 (extC []) := ownsAll_nil W 1
theorem o50 {W : World} (hW : 1 ≤ W.heap.size) : OwnAll Tryd.prog W 1 50 conHigh.own :=
  con_flat encI (Laying.empty hW) hW (by decide) dt_mixed own0 Tryd.func50 (fn := Tryd.f50) (c := bodyOf Tryd.f50) (by kernel_rfl) (by kernel_rfl) (fun _ _ h => decI_enc h) (fun a => ⟨rfl, rfl, (by kernel_rfl)⟩) w50
/-! what is waked, and the lowest bits: closed runs -/
/-! arguments, opened and shut -/
section
variable {H : Type} {enc : TypeId × Value → H} {w : World} {base : Nat} {spare : Nat → Bool} {held : Bool}
end
end Go.Proofs.YtfnacgojmdbjmaaDoor

