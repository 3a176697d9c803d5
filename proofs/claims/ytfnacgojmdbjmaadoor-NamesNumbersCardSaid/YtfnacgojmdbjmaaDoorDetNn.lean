/- NamesNumbers: at every start the call returns true; the conditions: the one table that the row lists reads as the program lays it. -/
import Derived.Test.YtfnacgojmdbjmaaDoorRows
import Derived.Test.YtfnacgojmdbjmaaDoorCards
import Derived.Test.YtfnacgojmdbjmaaDoorTie
import Derived.Test.YtfnacgojmdbjmaaDoorDetLaid
import Derived.ChangeSame
import Derived.ProofKit
import Derived.LaidMore
import Derived.OpenShut
import Derived.Stop.Joined
namespace Go.Proofs.YtfnacgojmdbjmaaDoor
open Go.ChangeShapes Go.WideShapes Go.ChangeAt Go.RowKit Go.Det
set_option maxRecDepth 100000

theorem dt_own : ownKnob Tryd.prog.godebug = none := by kernel_rfl
theorem dt_mixed : Tryd.prog.follows .mixedOrders = true := by kernel_rfl

def db64 : List Int := [0, 1, 56, 2, 57, 49, 28, 3, 61, 58, 42, 50, 38, 29, 17, 4, 62, 47, 59, 36, 45, 43, 51, 22, 53, 39, 33, 30, 24, 18, 12, 5, 63, 55, 48, 27, 60, 41, 37, 16, 46, 35, 44, 21, 52, 32, 23, 11, 54, 26, 40, 15, 34, 20, 31, 10, 25, 14, 19, 9, 13, 8, 7, 6]
theorem db64_laid {H : Type} : (Rows.laid_math_bits_deBruijn64tab : DataW H) = .agg (db64.map fun n => .lit (.int .u8 n)) := rfl
theorem db64_flat : flatL (db64.map (Value.int .u8)) = true := by kernel_rfl
theorem g_db64 : Tryd.prog.globalNamed "math/bits.deBruijn64tab" = some 0 := by kernel_rfl
theorem t_db64 : (Tryd.prog.globals[0]?).map (·.type) = some 97 := by kernel_rfl
theorem u_db64 : Tryd.prog.underlying 97 = some (.array 64 5) := by kernel_rfl
theorem u_u8 : Tryd.prog.underlying 5 = some (.int .u8) := by kernel_rfl
theorem c_u8 : Tryd.prog.cellsOf 5 = 1 := by kernel_rfl
theorem c_db64 : Tryd.prog.cellsOf 97 = 64 := by kernel_rfl

/-- the heap of a row that lists the one table -/
noncomputable def heap1 (t : TypeId) : Heap := Heap.set [] 0 (.cells (db64.map (Value.int .u8)) (2 * t) true)

theorem laid1 {W : World} (h : laidMetH Tryd.prog [("math/bits.deBruijn64tab", Rows.laid_math_bits_deBruijn64tab)] W) : ∃ t, Laying 1 W (heap1 t) := by
  rw [MakeChecks.laidMetH_plain _ _ _ (by kernel_rfl)] at h
  obtain ⟨ps, ⟨g, t, cs, fuel, p, q, hg, ht, hv, hd, _, _⟩, _, _⟩ := h
  obtain rfl := Option.some.inj (g_db64.symm.trans hg)
  obtain rfl := Option.some.inj (t_db64.symm.trans ht)
  obtain ⟨t, fz, hb⟩ := block_of_var g_db64 hv
  exact ⟨t, (Laying.empty (G := 1) (block_lt hb)).lay (by decide) hb (ints_of_trod u_db64 u_u8 c_u8 c_db64 hd) db64_flat⟩

theorem door_met1 (os : Os) (args : Array Value) : laidMetH Tryd.prog [("math/bits.deBruijn64tab", Rows.laid_math_bits_deBruijn64tab)] ((World.doorLaid Tryd.prog 400 os).forCall (fun _ _ => 0) ⟨#[], args, []⟩).memory :=
  laidMetH_of_parts3 (fuel := 8) (laidMet_of_run' 8 (by kernel_rfl) (by kernel_rfl)) (by kernel_rfl) (by kernel_rfl)

/-! NamesNumbers -/
noncomputable def nnMask : Nat := 140737488404488
theorem nn_ok : (Nat.ble (nnMask + 1) (Nat.shiftLeft 1 48) && okMask Tryd.prog 1 nnMask 48) = true := by kernel_rfl
theorem nn_name : (Tryd.f3.name == "runtime.NumGoroutine") = false := by kernel_rfl
theorem nn_run (t : TypeId) : isTrue (callD Tryd.prog (mkIntr nnMask noExt) 1000 20 3 [] (birth (heap1 t) 64)) = true := by kernel_rfl
noncomputable def nn_code : Code := match Tryd.f3.body with | some c => c | none => .skip
theorem nn_body : Tryd.f3.body = some nn_code := by kernel_rfl

theorem nn_calls {W : World} {t : TypeId} (L : Laying 1 W (heap1 t)) : Calls Tryd.prog 3 #[] W fun e W' => e = .returned (.bool true) ∧ Kept W W' :=
  run_true (args := []) dt_mixed nn_ok noExt_tr (noExt_ok W 1) Tryd.func3 nn_body nn_name L.hr (glob_glob 1 W) (VRL.nil _)
    (glob_top 1 W (by decide)) (fun id h => L.top id (Nat.le_trans (by decide) h)) (nn_run t)

theorem nn_lifted (os : Os) (started : os.Started) (H : Type) (enc : TypeId × Value → H) :
    ReturnsInHanded {} Tryd.checked os 3 .any (fun w args => (Rows.namesNumbersSpec.pre enc Tryd.prog Tryd.f3 [] false w args ∧ laidMetH Tryd.prog Rows.namesNumbersRow.laid w) ∧ sizedMet enc Tryd.prog Tryd.f3 (OpenSpec.ofChange Rows.namesNumbersSpec) false w args)
      (Rows.namesNumbersSpec.post enc Tryd.prog Tryd.f3 false true false false) := by
  refine returnsInHanded_of_change_and (C := Tryd.checked) (X := fun w _ => laidMetH Tryd.prog Rows.namesNumbersRow.laid w) (fun _ _ _ hh h => h.of_heap hh) dt_own started (by kernel_rfl) Tryd.func3
    (ChangeSpec.witness_shaped (enc := enc) (C := Tryd.checked) (os := os) (X := fun w _ => laidMetH Tryd.prog Rows.namesNumbersRow.laid w) false (World.doorLaid Tryd.prog 400 os) #[] 8 rfl (World.shaped_of_RefB (by kernel_rfl) (by kernel_rfl)) (by kernel_rfl) (by kernel_rfl) (by kernel_rfl) (door_met1 os _)) ?_
  intro W base args ds gs before hval0 hW _ _ hL _
  obtain ⟨t, L⟩ := laid1 hL
  have hW' := hW
  obtain ⟨p, q, hA0, hV, rfl, hfz, hnd⟩ := hW
  have hA : DataW.TrodAll enc Tryd.prog W 0 (fun _ => true) true Tryd.f3.params.toList args.toList ds p := hA0
  rw [Tryd.params3] at hA
  obtain ⟨rfl, rfl⟩ := trodVars_none hV
  obtain ⟨xs⟩ := args
  match xs, ds, hA with
  | [], [], hA =>
    refine (nn_calls L).mono fun e W' ⟨he, hw⟩ => ?_
    subst he
    exact ⟨_, rfl, _, _, _, [], [], [], hW', trodAll_mk1 (shut_bool Tryd.underlying4 true), rfl, rfl, hw.but _, fun h => by cases h⟩

theorem namesNumbers_holds : Rows.NamesNumbersSaid :=
  OpenClaim.holds_of_wide 3 Tryd.f3 rfl rfl rfl rfl rfl rfl rfl ⟨rfl, rfl, rfl, rfl, rfl⟩ rfl rfl rfl rfl rfl (by kernel_rfl) Tryd.func3 (by kernel_rfl)
    (of_decide_eq_true (by kernel_rfl)) (by unfold Func.isWrapper; first | (rw [if_pos (by decide +kernel)]; kernel_rfl) | (rw [if_neg (by decide +kernel)]; exact ⟨rfl, rfl⟩))
    (fun os started H enc _ => nn_lifted os started H enc)

theorem namesNumbers_card_holds : Rows.NamesNumbersCardSaid :=
  Claim7.holds_tied_plain_at .later [] [.data] true (true, "f4485812763653ffca44ca5064ea510697a50d409c0e67ea003c933eb6baadb5") false
    namesNumbers_holds (fun _ h => by cases h) (by kernel_rfl) (fun _ h => by cases h) namesNumbers_row_tie rfl ⟨rfl, rfl⟩ (by kernel_rfl) rfl
    (fun f fn hf hfn => by
      obtain rfl : f = 3 := Option.some.inj ((show Tryd.prog.funcNamed "glebe/glebelaw0.NamesNumbers" = some 3 by kernel_rfl).symm.trans hf) |>.symm
      obtain rfl : fn = Tryd.f3 := (Option.some.inj (Tryd.func3.symm.trans hfn)).symm
      exact ⟨by kernel_rfl, fun j t ht => by
        rw [Tryd.params3] at ht
        simp at ht⟩)
    (by kernel_rfl)
#print axioms namesNumbers_card_holds
end Go.Proofs.YtfnacgojmdbjmaaDoor
