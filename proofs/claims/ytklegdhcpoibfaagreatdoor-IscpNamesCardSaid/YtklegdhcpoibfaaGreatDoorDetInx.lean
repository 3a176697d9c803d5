/- IscpNames: at every start, whatever the number, the call returns true; the conditions: the tables that the row lists read as the program lays them. -/
import Derived.Test.YtklegdhcpoibfaaGreatDoorDetInr0
import Derived.Test.YtklegdhcpoibfaaGreatDoorDetInr1
import Derived.Test.YtklegdhcpoibfaaGreatDoorDetInr2
namespace Go.Proofs.YtklegdhcpoibfaaGreatDoor
set_option maxRecDepth 100000
open Go.ChangeShapes Go.WideShapes Go.ChangeAt Go.RowKit Go.Det
theorem l_name : (Tryz.f3.name == "runtime.NumGoroutine") = false := by kernel_rfl
noncomputable def l_code : Code := match Tryz.f3.body with | some c => c | none => .skip
theorem l_body : Tryz.f3.body = some l_code := by kernel_rfl
theorem lrun0 (n : Int) (hm : markOk (131072 * 0 + 2 * 13) n) {W : World} {t_xdb32 t_xdb64 t_xp10 : TypeId} (L : Laying 6 W (heapA t_xdb32 t_xdb64 t_xp10)) (hs : 6 ≤ W.heap.size) (hW : Len W) : Calls Tryz.prog 3 #[.int .i64 n] W fun e W' => e = .returned (.bool true) ∧ Kept W W' :=
  run_true (args := [rowArg 13 0]) dt_mixed okB extsB_tr (extsB_ok L hs hW) Tryz.func3 l_body l_name L.hr (glob_glob 6 W) (VRL.cons (.mark _ _ hm) (VRL.nil _))
    (glob_top 6 W (by decide)) (fun id h => L.top id (Nat.le_trans (by decide) h)) (run0 t_xdb32 t_xdb64 t_xp10)
theorem lrun1 (n : Int) (hm : markOk (131072 * 1 + 2 * 13) n) {W : World} {t_xdb32 t_xdb64 t_xp10 : TypeId} (L : Laying 6 W (heapA t_xdb32 t_xdb64 t_xp10)) (hs : 6 ≤ W.heap.size) (hW : Len W) : Calls Tryz.prog 3 #[.int .i64 n] W fun e W' => e = .returned (.bool true) ∧ Kept W W' :=
  run_true (args := [rowArg 13 1]) dt_mixed okB extsB_tr (extsB_ok L hs hW) Tryz.func3 l_body l_name L.hr (glob_glob 6 W) (VRL.cons (.mark _ _ hm) (VRL.nil _))
    (glob_top 6 W (by decide)) (fun id h => L.top id (Nat.le_trans (by decide) h)) (run1 t_xdb32 t_xdb64 t_xp10)
theorem lrun2 (n : Int) (hm : markOk (131072 * 2 + 2 * 13) n) {W : World} {t_xdb32 t_xdb64 t_xp10 : TypeId} (L : Laying 6 W (heapA t_xdb32 t_xdb64 t_xp10)) (hs : 6 ≤ W.heap.size) (hW : Len W) : Calls Tryz.prog 3 #[.int .i64 n] W fun e W' => e = .returned (.bool true) ∧ Kept W W' :=
  run_true (args := [rowArg 13 2]) dt_mixed okB extsB_tr (extsB_ok L hs hW) Tryz.func3 l_body l_name L.hr (glob_glob 6 W) (VRL.cons (.mark _ _ hm) (VRL.nil _))
    (glob_top 6 W (by decide)) (fun id h => L.top id (Nat.le_trans (by decide) h)) (run2 t_xdb32 t_xdb64 t_xp10)
theorem lrun3 (n : Int) (hm : markOk (131072 * 3 + 2 * 13) n) {W : World} {t_xdb32 t_xdb64 t_xp10 : TypeId} (L : Laying 6 W (heapA t_xdb32 t_xdb64 t_xp10)) (hs : 6 ≤ W.heap.size) (hW : Len W) : Calls Tryz.prog 3 #[.int .i64 n] W fun e W' => e = .returned (.bool true) ∧ Kept W W' :=
  run_true (args := [rowArg 13 3]) dt_mixed okB extsB_tr (extsB_ok L hs hW) Tryz.func3 l_body l_name L.hr (glob_glob 6 W) (VRL.cons (.mark _ _ hm) (VRL.nil _))
    (glob_top 6 W (by decide)) (fun id h => L.top id (Nat.le_trans (by decide) h)) (run3 t_xdb32 t_xdb64 t_xp10)
theorem lrun4 (n : Int) (hm : markOk (131072 * 4 + 2 * 13) n) {W : World} {t_xdb32 t_xdb64 t_xp10 : TypeId} (L : Laying 6 W (heapA t_xdb32 t_xdb64 t_xp10)) (hs : 6 ≤ W.heap.size) (hW : Len W) : Calls Tryz.prog 3 #[.int .i64 n] W fun e W' => e = .returned (.bool true) ∧ Kept W W' :=
  run_true (args := [rowArg 13 4]) dt_mixed okB extsB_tr (extsB_ok L hs hW) Tryz.func3 l_body l_name L.hr (glob_glob 6 W) (VRL.cons (.mark _ _ hm) (VRL.nil _))
    (glob_top 6 W (by decide)) (fun id h => L.top id (Nat.le_trans (by decide) h)) (run4 t_xdb32 t_xdb64 t_xp10)
theorem lrun5 (n : Int) (hm : markOk (131072 * 5 + 2 * 13) n) {W : World} {t_xdb32 t_xdb64 t_xp10 : TypeId} (L : Laying 6 W (heapA t_xdb32 t_xdb64 t_xp10)) (hs : 6 ≤ W.heap.size) (hW : Len W) : Calls Tryz.prog 3 #[.int .i64 n] W fun e W' => e = .returned (.bool true) ∧ Kept W W' :=
  run_true (args := [rowArg 13 5]) dt_mixed okB extsB_tr (extsB_ok L hs hW) Tryz.func3 l_body l_name L.hr (glob_glob 6 W) (VRL.cons (.mark _ _ hm) (VRL.nil _))
    (glob_top 6 W (by decide)) (fun id h => L.top id (Nat.le_trans (by decide) h)) (run5 t_xdb32 t_xdb64 t_xp10)
theorem lrun6 (n : Int) (hm : markOk (131072 * 6 + 2 * 13) n) {W : World} {t_xdb32 t_xdb64 t_xp10 : TypeId} (L : Laying 6 W (heapA t_xdb32 t_xdb64 t_xp10)) (hs : 6 ≤ W.heap.size) (hW : Len W) : Calls Tryz.prog 3 #[.int .i64 n] W fun e W' => e = .returned (.bool true) ∧ Kept W W' :=
  run_true (args := [rowArg 13 6]) dt_mixed okB extsB_tr (extsB_ok L hs hW) Tryz.func3 l_body l_name L.hr (glob_glob 6 W) (VRL.cons (.mark _ _ hm) (VRL.nil _))
    (glob_top 6 W (by decide)) (fun id h => L.top id (Nat.le_trans (by decide) h)) (run6 t_xdb32 t_xdb64 t_xp10)
theorem lrun7 (n : Int) (hm : markOk (131072 * 7 + 2 * 13) n) {W : World} {t_xdb32 t_xdb64 t_xp10 : TypeId} (L : Laying 6 W (heapA t_xdb32 t_xdb64 t_xp10)) (hs : 6 ≤ W.heap.size) (hW : Len W) : Calls Tryz.prog 3 #[.int .i64 n] W fun e W' => e = .returned (.bool true) ∧ Kept W W' :=
  run_true (args := [rowArg 13 7]) dt_mixed okB extsB_tr (extsB_ok L hs hW) Tryz.func3 l_body l_name L.hr (glob_glob 6 W) (VRL.cons (.mark _ _ hm) (VRL.nil _))
    (glob_top 6 W (by decide)) (fun id h => L.top id (Nat.le_trans (by decide) h)) (run7 t_xdb32 t_xdb64 t_xp10)
theorem lrun8 (n : Int) (hm : markOk (131072 * 8 + 2 * 13) n) {W : World} {t_xdb32 t_xdb64 t_xp10 : TypeId} (L : Laying 6 W (heapA t_xdb32 t_xdb64 t_xp10)) (hs : 6 ≤ W.heap.size) (hW : Len W) : Calls Tryz.prog 3 #[.int .i64 n] W fun e W' => e = .returned (.bool true) ∧ Kept W W' :=
  run_true (args := [rowArg 13 8]) dt_mixed okB extsB_tr (extsB_ok L hs hW) Tryz.func3 l_body l_name L.hr (glob_glob 6 W) (VRL.cons (.mark _ _ hm) (VRL.nil _))
    (glob_top 6 W (by decide)) (fun id h => L.top id (Nat.le_trans (by decide) h)) (run8 t_xdb32 t_xdb64 t_xp10)
theorem lrun9 (n : Int) (hm : markOk (131072 * 9 + 2 * 13) n) {W : World} {t_xdb32 t_xdb64 t_xp10 : TypeId} (L : Laying 6 W (heapA t_xdb32 t_xdb64 t_xp10)) (hs : 6 ≤ W.heap.size) (hW : Len W) : Calls Tryz.prog 3 #[.int .i64 n] W fun e W' => e = .returned (.bool true) ∧ Kept W W' :=
  run_true (args := [rowArg 13 9]) dt_mixed okB extsB_tr (extsB_ok L hs hW) Tryz.func3 l_body l_name L.hr (glob_glob 6 W) (VRL.cons (.mark _ _ hm) (VRL.nil _))
    (glob_top 6 W (by decide)) (fun id h => L.top id (Nat.le_trans (by decide) h)) (run9 t_xdb32 t_xdb64 t_xp10)
theorem lrun10 (n : Int) (hm : markOk (131072 * 10 + 2 * 13) n) {W : World} {t_xdb32 t_xdb64 t_xp10 : TypeId} (L : Laying 6 W (heapA t_xdb32 t_xdb64 t_xp10)) (hs : 6 ≤ W.heap.size) (hW : Len W) : Calls Tryz.prog 3 #[.int .i64 n] W fun e W' => e = .returned (.bool true) ∧ Kept W W' :=
  run_true (args := [rowArg 13 10]) dt_mixed okB extsB_tr (extsB_ok L hs hW) Tryz.func3 l_body l_name L.hr (glob_glob 6 W) (VRL.cons (.mark _ _ hm) (VRL.nil _))
    (glob_top 6 W (by decide)) (fun id h => L.top id (Nat.le_trans (by decide) h)) (run10 t_xdb32 t_xdb64 t_xp10)
theorem lrun11 (n : Int) (hm : markOk (131072 * 11 + 2 * 13) n) {W : World} {t_xdb32 t_xdb64 t_xp10 : TypeId} (L : Laying 6 W (heapA t_xdb32 t_xdb64 t_xp10)) (hs : 6 ≤ W.heap.size) (hW : Len W) : Calls Tryz.prog 3 #[.int .i64 n] W fun e W' => e = .returned (.bool true) ∧ Kept W W' :=
  run_true (args := [rowArg 13 11]) dt_mixed okB extsB_tr (extsB_ok L hs hW) Tryz.func3 l_body l_name L.hr (glob_glob 6 W) (VRL.cons (.mark _ _ hm) (VRL.nil _))
    (glob_top 6 W (by decide)) (fun id h => L.top id (Nat.le_trans (by decide) h)) (run11 t_xdb32 t_xdb64 t_xp10)
theorem lrun12 (n : Int) (hm : markOk (131072 * 12 + 2 * 13) n) {W : World} {t_xdb32 t_xdb64 t_xp10 : TypeId} (L : Laying 6 W (heapA t_xdb32 t_xdb64 t_xp10)) (hs : 6 ≤ W.heap.size) (hW : Len W) : Calls Tryz.prog 3 #[.int .i64 n] W fun e W' => e = .returned (.bool true) ∧ Kept W W' :=
  run_true (args := [rowArg 13 12]) dt_mixed okB extsB_tr (extsB_ok L hs hW) Tryz.func3 l_body l_name L.hr (glob_glob 6 W) (VRL.cons (.mark _ _ hm) (VRL.nil _))
    (glob_top 6 W (by decide)) (fun id h => L.top id (Nat.le_trans (by decide) h)) (run12 t_xdb32 t_xdb64 t_xp10)
theorem l_calls (n : Int) {W : World} {t_xdb32 t_xdb64 t_xp10 : TypeId} (L : Laying 6 W (heapA t_xdb32 t_xdb64 t_xp10)) (hs : 6 ≤ W.heap.size) (hW : Len W) : Calls Tryz.prog 3 #[.int .i64 n] W fun e W' => e = .returned (.bool true) ∧ Kept W W' := by
  obtain ⟨k, hk, hm⟩ := mark_split (m := 13) (by decide) (by decide) n
  match k, hk with
  | 0, _ => exact lrun0 n hm L hs hW
  | 1, _ => exact lrun1 n hm L hs hW
  | 2, _ => exact lrun2 n hm L hs hW
  | 3, _ => exact lrun3 n hm L hs hW
  | 4, _ => exact lrun4 n hm L hs hW
  | 5, _ => exact lrun5 n hm L hs hW
  | 6, _ => exact lrun6 n hm L hs hW
  | 7, _ => exact lrun7 n hm L hs hW
  | 8, _ => exact lrun8 n hm L hs hW
  | 9, _ => exact lrun9 n hm L hs hW
  | 10, _ => exact lrun10 n hm L hs hW
  | 11, _ => exact lrun11 n hm L hs hW
  | 12, _ => exact lrun12 n hm L hs hW
  | k + 13, hk => exact absurd hk (by omega)
theorem iscpNames_lifted (os : Os) (started : os.Started) (H : Type) (enc : TypeId × Value → H) :
    ReturnsInHanded {} Tryz.checked os 3 .any (fun w args => (Rows.iscpNamesSpec.pre enc Tryz.prog Tryz.f3 [] false w args ∧ laidMetH Tryz.prog Rows.iscpNamesRow.laid w) ∧ sizedMet enc Tryz.prog Tryz.f3 (OpenSpec.ofChange Rows.iscpNamesSpec) false w args)
      (Rows.iscpNamesSpec.post enc Tryz.prog Tryz.f3 false true false false) := by
  refine wrap_shaped (C := Tryz.checked) (X := fun w _ => laidMetH Tryz.prog Rows.iscpNamesRow.laid w) (fun _ _ _ hh h => h.of_heap hh) dt_own started (by kernel_rfl) Tryz.func3
    (ChangeSpec.witness_shaped (enc := enc) (C := Tryz.checked) (os := os) (X := fun w _ => laidMetH Tryz.prog Rows.iscpNamesRow.laid w) false (World.laidAll Tryz.prog os laidA) #[.int .i64 0] 8 (World.laidAll_os _ _ _) (World.shaped_of_ZipB (by kernel_rfl) (by kernel_rfl)) (by kernel_rfl) (by kernel_rfl) (by kernel_rfl) (door_metA os _)) ?_
  intro W base args ds gs before hval0 hW hL hsh
  obtain ⟨t_xdb32, t_xdb64, t_xp10, L, hs⟩ := laidA_at hL
  have hval : ∀ (j : Nat) t v, Tryz.f3.params[j]? = some t → args[j]? = some v → Value.okWide Tryz.prog W .any base t v := hval0
  have hW' := hW
  obtain ⟨p, q, hA0, hV, rfl, hfz, hnd⟩ := hW
  have hA : DataW.TrodAll enc Tryz.prog W 0 (fun _ => true) true Tryz.f3.params.toList args.toList ds p := hA0
  rw [Tryz.params3] at hA hval
  obtain ⟨v0, d0, rfl, rfl, h0⟩ := trodAll_one hA
  obtain ⟨rfl, rfl⟩ := trodVars_none hV
  obtain ⟨n, rfl, rfl, rfl, wn⟩ := open_int Tryz.underlying3 (hval 0 3 v0 rfl rfl) h0
  refine (l_calls n L hs (Len.of_shape hsh hs)).mono fun e W' ⟨he, hw⟩ => ?_
  subst he
  exact ⟨_, rfl, _, _, _, [], [], [], hW', trodAll_mk1 (shut_bool Tryz.underlying4 true), trodAll_mk1 (shut_int Tryz.underlying3 wn), rfl, hw.but _, fun h => by cases h⟩


theorem iscpNames_holds : Rows.IscpNamesSaid :=
  OpenClaim.holds_of_wide 3 Tryz.f3 rfl rfl rfl rfl rfl rfl rfl ⟨rfl, rfl, rfl, rfl, rfl⟩ rfl rfl rfl rfl rfl (by kernel_rfl) Tryz.func3 (by kernel_rfl)
    (of_decide_eq_true (by kernel_rfl)) (by unfold Func.isWrapper; first | (rw [if_pos (by decide +kernel)]; kernel_rfl) | (rw [if_neg (by decide +kernel)]; exact ⟨rfl, rfl⟩))
    (fun os started H enc _ => iscpNames_lifted os started H enc)

theorem iscpNames_card_holds : Rows.IscpNamesCardSaid :=
  Claim7.holds_tied_plain_at .later [] [.data, .data, .data, .data, .pinned] true (true, "b3d841603d1b6990ecb65d3363104b3747a674f04019779aa6f7eff9df5ec821") false
    iscpNames_holds (fun _ h => by cases h) (by kernel_rfl) (fun _ h => by cases h) iscpNames_row_tie rfl ⟨rfl, rfl⟩ (by kernel_rfl) rfl
    (fun f fn hf hfn => by
      obtain rfl : f = 3 := Option.some.inj ((show Tryz.prog.funcNamed "glebe/glebelaw19.IscpNames" = some 3 by kernel_rfl).symm.trans hf) |>.symm
      obtain rfl : fn = Tryz.f3 := (Option.some.inj (Tryz.func3.symm.trans hfn)).symm
      exact ⟨by kernel_rfl, fun j t ht => by
        rw [Tryz.params3] at ht
        have h3 : t = 3 := by
          rcases j with _ | j
          · simpa using ht.symm
          · simp at ht
        subst h3
        exact (show Tryz.prog.wantsStandIn 3 = false by kernel_rfl)⟩)
    (by kernel_rfl)
#print axioms iscpNames_card_holds
end Go.Proofs.YtklegdhcpoibfaaGreatDoor
