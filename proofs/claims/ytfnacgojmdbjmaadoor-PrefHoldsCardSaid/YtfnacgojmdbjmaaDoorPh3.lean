/- What the laws of this seat share: the listed tables, and a start that has them. -/
import Derived.Test.YtfnacgojmdbjmaaDoorRows
import Derived.Test.YtfnacgojmdbjmaaDoorCards
import Derived.Test.YtfnacgojmdbjmaaDoorTie
import Derived.Test.YtfnacgojmdbjmaaDoorPh2
import Derived.ChangeSame
import Derived.ProofKit
import Derived.LaidMore
import Derived.OpenShut
import Derived.Stop.Joined
namespace Go.Proofs.YtfnacgojmdbjmaaDoor
open Go.ChangeShapes Go.WideShapes Go.ChangeAt Go.RowKit Go.Det
set_option maxRecDepth 100000

theorem dt_own : ownKnob Tryd.prog.godebug = none := by kernel_rfl
theorem dt_mixed : Tryd.prog.follows .mixedOrders = true := by kernel_rfl

def db64 : List Int := [0, 1, 56, 2, 57, 49, 28, 3, 61, 58, 42, 50, 38, 29, 17, 4, 62, 47, 59, 36, 45, 43, 51, 22, 53, 39, 33, 30, 24, 18, 12, 5, 63, 55, 48, 27, 60, 41, 37, 16, 46, 35, 44, 21, 52, 32, 23, 11, 54, 26, 40, 15, 34, 20, 31, 10, 25, 14, 19, 9, 13, 8, 7, 6]
theorem db64_laid {H : Type} : (Rows.laid_math_bits_deBruijn64tab : DataW H) = .agg (db64.map fun n => .lit (.int .u8 n)) := rfl
theorem db64_flat : flatL (db64.map (Value.int .u8)) = true := by kernel_rfl
theorem g_db64 : Tryd.prog.globalNamed "math/bits.deBruijn64tab" = some 0 := by kernel_rfl
theorem t_db64 : (Tryd.prog.globals[0]?).map (·.type) = some 97 := by kernel_rfl
theorem u_db64 : Tryd.prog.underlying 97 = some (.array 64 5) := by kernel_rfl
theorem u_u8 : Tryd.prog.underlying 5 = some (.int .u8) := by kernel_rfl
theorem c_u8 : Tryd.prog.cellsOf 5 = 1 := by kernel_rfl
theorem c_db64 : Tryd.prog.cellsOf 97 = 64 := by kernel_rfl

/-- the heap of a row that lists the one table -/
noncomputable def heap1 (t : TypeId) : Heap := Heap.set [] 0 (.cells (db64.map (Value.int .u8)) (2 * t) true)

theorem laid1 {W : World} (h : laidMetH Tryd.prog [("math/bits.deBruijn64tab", Rows.laid_math_bits_deBruijn64tab)] W) : ∃ t, Laying 1 W (heap1 t) := by
  rw [MakeChecks.laidMetH_plain _ _ _ (by kernel_rfl)] at h
  obtain ⟨ps, ⟨g, t, cs, fuel, p, q, hg, ht, hv, hd, _, _⟩, _, _⟩ := h
  obtain rfl := Option.some.inj (g_db64.symm.trans hg)
  obtain rfl := Option.some.inj (t_db64.symm.trans ht)
  obtain ⟨t, fz, hb⟩ := block_of_var g_db64 hv
  exact ⟨t, (Laying.empty (G := 1) (block_lt hb)).lay (by decide) hb (ints_of_trod u_db64 u_u8 c_u8 c_db64 hd) db64_flat⟩

theorem door_met1 (os : Os) (args : Array Value) : laidMetH Tryd.prog [("math/bits.deBruijn64tab", Rows.laid_math_bits_deBruijn64tab)] ((World.doorLaid Tryd.prog 400 os).forCall (fun _ _ => 0) ⟨#[], args, []⟩).memory :=
  laidMetH_of_parts3 (fuel := 8) (laidMet_of_run' 8 (by kernel_rfl) (by kernel_rfl)) (by kernel_rfl) (by kernel_rfl)

end Go.Proofs.YtfnacgojmdbjmaaDoor
