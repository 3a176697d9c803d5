/- FactForms: at every start, whatever the number, the call returns true; the conditions: the tables that the row lists read as the program lays them. -/
import Derived.Test.YtklegdhcpoibfabGreatDoorDetFar0
import Derived.Test.YtklegdhcpoibfabGreatDoorDetFar1
import Derived.Test.YtklegdhcpoibfabGreatDoorDetFar2
import Derived.Test.YtklegdhcpoibfabGreatDoorDetFar3
import Derived.Test.YtklegdhcpoibfabGreatDoorDetFar4
import Derived.Test.YtklegdhcpoibfabGreatDoorDetFar5
namespace Go.Proofs.YtklegdhcpoibfabGreatDoor
set_option maxRecDepth 100000
open Go.ChangeShapes Go.WideShapes Go.ChangeAt Go.RowKit Go.Det
theorem l_name : (Tryz.f3.name == "runtime.NumGoroutine") = false := by kernel_rfl
noncomputable def l_code : Code := match Tryz.f3.body with | some c => c | none => .skip
theorem l_body : Tryz.f3.body = some l_code := by kernel_rfl
theorem lrun0 (n : Int) (hm : markOk (131072 * 0 + 2 * 29) n) {W : World} {t_xdb32 t_xdb64 t_xp10 : TypeId} (L : Laying 6 W (heapA t_xdb32 t_xdb64 t_xp10)) (hs : 6 ≤ W.heap.size) (hW : Len W) : Calls Tryz.prog 3 #[.int .i64 n] W fun e W' => e = .returned (.bool true) ∧ Kept W W' :=
  run_true (args := [rowArg 29 0]) dt_mixed okB extsB_tr (extsB_ok L hs hW) Tryz.func3 l_body l_name L.hr (glob_glob 6 W) (VRL.cons (.mark _ _ hm) (VRL.nil _))
    (glob_top 6 W (by decide)) (fun id h => L.top id (Nat.le_trans (by decide) h)) (run0 t_xdb32 t_xdb64 t_xp10)
theorem lrun1 (n : Int) (hm : markOk (131072 * 1 + 2 * 29) n) {W : World} {t_xdb32 t_xdb64 t_xp10 : TypeId} (L : Laying 6 W (heapA t_xdb32 t_xdb64 t_xp10)) (hs : 6 ≤ W.heap.size) (hW : Len W) : Calls Tryz.prog 3 #[.int .i64 n] W fun e W' => e = .returned (.bool true) ∧ Kept W W' :=
  run_true (args := [rowArg 29 1]) dt_mixed okB extsB_tr (extsB_ok L hs hW) Tryz.func3 l_body l_name L.hr (glob_glob 6 W) (VRL.cons (.mark _ _ hm) (VRL.nil _))
    (glob_top 6 W (by decide)) (fun id h => L.top id (Nat.le_trans (by decide) h)) (run1 t_xdb32 t_xdb64 t_xp10)
theorem lrun2 (n : Int) (hm : markOk (131072 * 2 + 2 * 29) n) {W : World} {t_xdb32 t_xdb64 t_xp10 : TypeId} (L : Laying 6 W (heapA t_xdb32 t_xdb64 t_xp10)) (hs : 6 ≤ W.heap.size) (hW : Len W) : Calls Tryz.prog 3 #[.int .i64 n] W fun e W' => e = .returned (.bool true) ∧ Kept W W' :=
  run_true (args := [rowArg 29 2]) dt_mixed okB extsB_tr (extsB_ok L hs hW) Tryz.func3 l_body l_name L.hr (glob_glob 6 W) (VRL.cons (.mark _ _ hm) (VRL.nil _))
    (glob_top 6 W (by decide)) (fun id h => L.top id (Nat.le_trans (by decide) h)) (run2 t_xdb32 t_xdb64 t_xp10)
theorem lrun3 (n : Int) (hm : markOk (131072 * 3 + 2 * 29) n) {W : World} {t_xdb32 t_xdb64 t_xp10 : TypeId} (L : Laying 6 W (heapA t_xdb32 t_xdb64 t_xp10)) (hs : 6 ≤ W.heap.size) (hW : Len W) : Calls Tryz.prog 3 #[.int .i64 n] W fun e W' => e = .returned (.bool true) ∧ Kept W W' :=
  run_true (args := [rowArg 29 3]) dt_mixed okB extsB_tr (extsB_ok L hs hW) Tryz.func3 l_body l_name L.hr (glob_glob 6 W) (VRL.cons (.mark _ _ hm) (VRL.nil _))
    (glob_top 6 W (by decide)) (fun id h => L.top id (Nat.le_trans (by decide) h)) (run3 t_xdb32 t_xdb64 t_xp10)
theorem lrun4 (n : Int) (hm : markOk (131072 * 4 + 2 * 29) n) {W : World} {t_xdb32 t_xdb64 t_xp10 : TypeId} (L : Laying 6 W (heapA t_xdb32 t_xdb64 t_xp10)) (hs : 6 ≤ W.heap.size) (hW : Len W) : Calls Tryz.prog 3 #[.int .i64 n] W fun e W' => e = .returned (.bool true) ∧ Kept W W' :=
  run_true (args := [rowArg 29 4]) dt_mixed okB extsB_tr (extsB_ok L hs hW) Tryz.func3 l_body l_name L.hr (glob_glob 6 W) (VRL.cons (.mark _ _ hm) (VRL.nil _))
    (glob_top 6 W (by decide)) (fun id h => L.top id (Nat.le_trans (by decide) h)) (run4 t_xdb32 t_xdb64 t_xp10)
theorem lrun5 (n : Int) (hm : markOk (131072 * 5 + 2 * 29) n) {W : World} {t_xdb32 t_xdb64 t_xp10 : TypeId} (L : Laying 6 W (heapA t_xdb32 t_xdb64 t_xp10)) (hs : 6 ≤ W.heap.size) (hW : Len W) : Calls Tryz.prog 3 #[.int .i64 n] W fun e W' => e = .returned (.bool true) ∧ Kept W W' :=
  run_true (args := [rowArg 29 5]) dt_mixed okB extsB_tr (extsB_ok L hs hW) Tryz.func3 l_body l_name L.hr (glob_glob 6 W) (VRL.cons (.mark _ _ hm) (VRL.nil _))
    (glob_top 6 W (by decide)) (fun id h => L.top id (Nat.le_trans (by decide) h)) (run5 t_xdb32 t_xdb64 t_xp10)
theorem lrun6 (n : Int) (hm : markOk (131072 * 6 + 2 * 29) n) {W : World} {t_xdb32 t_xdb64 t_xp10 : TypeId} (L : Laying 6 W (heapA t_xdb32 t_xdb64 t_xp10)) (hs : 6 ≤ W.heap.size) (hW : Len W) : Calls Tryz.prog 3 #[.int .i64 n] W fun e W' => e = .returned (.bool true) ∧ Kept W W' :=
  run_true (args := [rowArg 29 6]) dt_mixed okB extsB_tr (extsB_ok L hs hW) Tryz.func3 l_body l_name L.hr (glob_glob 6 W) (VRL.cons (.mark _ _ hm) (VRL.nil _))
    (glob_top 6 W (by decide)) (fun id h => L.top id (Nat.le_trans (by decide) h)) (run6 t_xdb32 t_xdb64 t_xp10)
theorem lrun7 (n : Int) (hm : markOk (131072 * 7 + 2 * 29) n) {W : World} {t_xdb32 t_xdb64 t_xp10 : TypeId} (L : Laying 6 W (heapA t_xdb32 t_xdb64 t_xp10)) (hs : 6 ≤ W.heap.size) (hW : Len W) : Calls Tryz.prog 3 #[.int .i64 n] W fun e W' => e = .returned (.bool true) ∧ Kept W W' :=
  run_true (args := [rowArg 29 7]) dt_mixed okB extsB_tr (extsB_ok L hs hW) Tryz.func3 l_body l_name L.hr (glob_glob 6 W) (VRL.cons (.mark _ _ hm) (VRL.nil _))
    (glob_top 6 W (by decide)) (fun id h => L.top id (Nat.le_trans (by decide) h)) (run7 t_xdb32 t_xdb64 t_xp10)
theorem lrun8 (n : Int) (hm : markOk (131072 * 8 + 2 * 29) n) {W : World} {t_xdb32 t_xdb64 t_xp10 : TypeId} (L : Laying 6 W (heapA t_xdb32 t_xdb64 t_xp10)) (hs : 6 ≤ W.heap.size) (hW : Len W) : Calls Tryz.prog 3 #[.int .i64 n] W fun e W' => e = .returned (.bool true) ∧ Kept W W' :=
  run_true (args := [rowArg 29 8]) dt_mixed okB extsB_tr (extsB_ok L hs hW) Tryz.func3 l_body l_name L.hr (glob_glob 6 W) (VRL.cons (.mark _ _ hm) (VRL.nil _))
    (glob_top 6 W (by decide)) (fun id h => L.top id (Nat.le_trans (by decide) h)) (run8 t_xdb32 t_xdb64 t_xp10)
theorem lrun9 (n : Int) (hm : markOk (131072 * 9 + 2 * 29) n) {W : World} {t_xdb32 t_xdb64 t_xp10 : TypeId} (L : Laying 6 W (heapA t_xdb32 t_xdb64 t_xp10)) (hs : 6 ≤ W.heap.size) (hW : Len W) : Calls Tryz.prog 3 #[.int .i64 n] W fun e W' => e = .returned (.bool true) ∧ Kept W W' :=
  run_true (args := [rowArg 29 9]) dt_mixed okB extsB_tr (extsB_ok L hs hW) Tryz.func3 l_body l_name L.hr (glob_glob 6 W) (VRL.cons (.mark _ _ hm) (VRL.nil _))
    (glob_top 6 W (by decide)) (fun id h => L.top id (Nat.le_trans (by decide) h)) (run9 t_xdb32 t_xdb64 t_xp10)
theorem lrun10 (n : Int) (hm : markOk (131072 * 10 + 2 * 29) n) {W : World} {t_xdb32 t_xdb64 t_xp10 : TypeId} (L : Laying 6 W (heapA t_xdb32 t_xdb64 t_xp10)) (hs : 6 ≤ W.heap.size) (hW : Len W) : Calls Tryz.prog 3 #[.int .i64 n] W fun e W' => e = .returned (.bool true) ∧ Kept W W' :=
  run_true (args := [rowArg 29 10]) dt_mixed okB extsB_tr (extsB_ok L hs hW) Tryz.func3 l_body l_name L.hr (glob_glob 6 W) (VRL.cons (.mark _ _ hm) (VRL.nil _))
    (glob_top 6 W (by decide)) (fun id h => L.top id (Nat.le_trans (by decide) h)) (run10 t_xdb32 t_xdb64 t_xp10)
theorem lrun11 (n : Int) (hm : markOk (131072 * 11 + 2 * 29) n) {W : World} {t_xdb32 t_xdb64 t_xp10 : TypeId} (L : Laying 6 W (heapA t_xdb32 t_xdb64 t_xp10)) (hs : 6 ≤ W.heap.size) (hW : Len W) : Calls Tryz.prog 3 #[.int .i64 n] W fun e W' => e = .returned (.bool true) ∧ Kept W W' :=
  run_true (args := [rowArg 29 11]) dt_mixed okB extsB_tr (extsB_ok L hs hW) Tryz.func3 l_body l_name L.hr (glob_glob 6 W) (VRL.cons (.mark _ _ hm) (VRL.nil _))
    (glob_top 6 W (by decide)) (fun id h => L.top id (Nat.le_trans (by decide) h)) (run11 t_xdb32 t_xdb64 t_xp10)
theorem lrun12 (n : Int) (hm : markOk (131072 * 12 + 2 * 29) n) {W : World} {t_xdb32 t_xdb64 t_xp10 : TypeId} (L : Laying 6 W (heapA t_xdb32 t_xdb64 t_xp10)) (hs : 6 ≤ W.heap.size) (hW : Len W) : Calls Tryz.prog 3 #[.int .i64 n] W fun e W' => e = .returned (.bool true) ∧ Kept W W' :=
  run_true (args := [rowArg 29 12]) dt_mixed okB extsB_tr (extsB_ok L hs hW) Tryz.func3 l_body l_name L.hr (glob_glob 6 W) (VRL.cons (.mark _ _ hm) (VRL.nil _))
    (glob_top 6 W (by decide)) (fun id h => L.top id (Nat.le_trans (by decide) h)) (run12 t_xdb32 t_xdb64 t_xp10)
theorem lrun13 (n : Int) (hm : markOk (131072 * 13 + 2 * 29) n) {W : World} {t_xdb32 t_xdb64 t_xp10 : TypeId} (L : Laying 6 W (heapA t_xdb32 t_xdb64 t_xp10)) (hs : 6 ≤ W.heap.size) (hW : Len W) : Calls Tryz.prog 3 #[.int .i64 n] W fun e W' => e = .returned (.bool true) ∧ Kept W W' :=
  run_true (args := [rowArg 29 13]) dt_mixed okB extsB_tr (extsB_ok L hs hW) Tryz.func3 l_body l_name L.hr (glob_glob 6 W) (VRL.cons (.mark _ _ hm) (VRL.nil _))
    (glob_top 6 W (by decide)) (fun id h => L.top id (Nat.le_trans (by decide) h)) (run13 t_xdb32 t_xdb64 t_xp10)
theorem lrun14 (n : Int) (hm : markOk (131072 * 14 + 2 * 29) n) {W : World} {t_xdb32 t_xdb64 t_xp10 : TypeId} (L : Laying 6 W (heapA t_xdb32 t_xdb64 t_xp10)) (hs : 6 ≤ W.heap.size) (hW : Len W) : Calls Tryz.prog 3 #[.int .i64 n] W fun e W' => e = .returned (.bool true) ∧ Kept W W' :=
  run_true (args := [rowArg 29 14]) dt_mixed okB extsB_tr (extsB_ok L hs hW) Tryz.func3 l_body l_name L.hr (glob_glob 6 W) (VRL.cons (.mark _ _ hm) (VRL.nil _))
    (glob_top 6 W (by decide)) (fun id h => L.top id (Nat.le_trans (by decide) h)) (run14 t_xdb32 t_xdb64 t_xp10)
theorem lrun15 (n : Int) (hm : markOk (131072 * 15 + 2 * 29) n) {W : World} {t_xdb32 t_xdb64 t_xp10 : TypeId} (L : Laying 6 W (heapA t_xdb32 t_xdb64 t_xp10)) (hs : 6 ≤ W.heap.size) (hW : Len W) : Calls Tryz.prog 3 #[.int .i64 n] W fun e W' => e = .returned (.bool true) ∧ Kept W W' :=
  run_true (args := [rowArg 29 15]) dt_mixed okB extsB_tr (extsB_ok L hs hW) Tryz.func3 l_body l_name L.hr (glob_glob 6 W) (VRL.cons (.mark _ _ hm) (VRL.nil _))
    (glob_top 6 W (by decide)) (fun id h => L.top id (Nat.le_trans (by decide) h)) (run15 t_xdb32 t_xdb64 t_xp10)
theorem lrun16 (n : Int) (hm : markOk (131072 * 16 + 2 * 29) n) {W : World} {t_xdb32 t_xdb64 t_xp10 : TypeId} (L : Laying 6 W (heapA t_xdb32 t_xdb64 t_xp10)) (hs : 6 ≤ W.heap.size) (hW : Len W) : Calls Tryz.prog 3 #[.int .i64 n] W fun e W' => e = .returned (.bool true) ∧ Kept W W' :=
  run_true (args := [rowArg 29 16]) dt_mixed okB extsB_tr (extsB_ok L hs hW) Tryz.func3 l_body l_name L.hr (glob_glob 6 W) (VRL.cons (.mark _ _ hm) (VRL.nil _))
    (glob_top 6 W (by decide)) (fun id h => L.top id (Nat.le_trans (by decide) h)) (run16 t_xdb32 t_xdb64 t_xp10)
theorem lrun17 (n : Int) (hm : markOk (131072 * 17 + 2 * 29) n) {W : World} {t_xdb32 t_xdb64 t_xp10 : TypeId} (L : Laying 6 W (heapA t_xdb32 t_xdb64 t_xp10)) (hs : 6 ≤ W.heap.size) (hW : Len W) : Calls Tryz.prog 3 #[.int .i64 n] W fun e W' => e = .returned (.bool true) ∧ Kept W W' :=
  run_true (args := [rowArg 29 17]) dt_mixed okB extsB_tr (extsB_ok L hs hW) Tryz.func3 l_body l_name L.hr (glob_glob 6 W) (VRL.cons (.mark _ _ hm) (VRL.nil _))
    (glob_top 6 W (by decide)) (fun id h => L.top id (Nat.le_trans (by decide) h)) (run17 t_xdb32 t_xdb64 t_xp10)
theorem lrun18 (n : Int) (hm : markOk (131072 * 18 + 2 * 29) n) {W : World} {t_xdb32 t_xdb64 t_xp10 : TypeId} (L : Laying 6 W (heapA t_xdb32 t_xdb64 t_xp10)) (hs : 6 ≤ W.heap.size) (hW : Len W) : Calls Tryz.prog 3 #[.int .i64 n] W fun e W' => e = .returned (.bool true) ∧ Kept W W' :=
  run_true (args := [rowArg 29 18]) dt_mixed okB extsB_tr (extsB_ok L hs hW) Tryz.func3 l_body l_name L.hr (glob_glob 6 W) (VRL.cons (.mark _ _ hm) (VRL.nil _))
    (glob_top 6 W (by decide)) (fun id h => L.top id (Nat.le_trans (by decide) h)) (run18 t_xdb32 t_xdb64 t_xp10)
theorem lrun19 (n : Int) (hm : markOk (131072 * 19 + 2 * 29) n) {W : World} {t_xdb32 t_xdb64 t_xp10 : TypeId} (L : Laying 6 W (heapA t_xdb32 t_xdb64 t_xp10)) (hs : 6 ≤ W.heap.size) (hW : Len W) : Calls Tryz.prog 3 #[.int .i64 n] W fun e W' => e = .returned (.bool true) ∧ Kept W W' :=
  run_true (args := [rowArg 29 19]) dt_mixed okB extsB_tr (extsB_ok L hs hW) Tryz.func3 l_body l_name L.hr (glob_glob 6 W) (VRL.cons (.mark _ _ hm) (VRL.nil _))
    (glob_top 6 W (by decide)) (fun id h => L.top id (Nat.le_trans (by decide) h)) (run19 t_xdb32 t_xdb64 t_xp10)
theorem lrun20 (n : Int) (hm : markOk (131072 * 20 + 2 * 29) n) {W : World} {t_xdb32 t_xdb64 t_xp10 : TypeId} (L : Laying 6 W (heapA t_xdb32 t_xdb64 t_xp10)) (hs : 6 ≤ W.heap.size) (hW : Len W) : Calls Tryz.prog 3 #[.int .i64 n] W fun e W' => e = .returned (.bool true) ∧ Kept W W' :=
  run_true (args := [rowArg 29 20]) dt_mixed okB extsB_tr (extsB_ok L hs hW) Tryz.func3 l_body l_name L.hr (glob_glob 6 W) (VRL.cons (.mark _ _ hm) (VRL.nil _))
    (glob_top 6 W (by decide)) (fun id h => L.top id (Nat.le_trans (by decide) h)) (run20 t_xdb32 t_xdb64 t_xp10)
theorem lrun21 (n : Int) (hm : markOk (131072 * 21 + 2 * 29) n) {W : World} {t_xdb32 t_xdb64 t_xp10 : TypeId} (L : Laying 6 W (heapA t_xdb32 t_xdb64 t_xp10)) (hs : 6 ≤ W.heap.size) (hW : Len W) : Calls Tryz.prog 3 #[.int .i64 n] W fun e W' => e = .returned (.bool true) ∧ Kept W W' :=
  run_true (args := [rowArg 29 21]) dt_mixed okB extsB_tr (extsB_ok L hs hW) Tryz.func3 l_body l_name L.hr (glob_glob 6 W) (VRL.cons (.mark _ _ hm) (VRL.nil _))
    (glob_top 6 W (by decide)) (fun id h => L.top id (Nat.le_trans (by decide) h)) (run21 t_xdb32 t_xdb64 t_xp10)
theorem lrun22 (n : Int) (hm : markOk (131072 * 22 + 2 * 29) n) {W : World} {t_xdb32 t_xdb64 t_xp10 : TypeId} (L : Laying 6 W (heapA t_xdb32 t_xdb64 t_xp10)) (hs : 6 ≤ W.heap.size) (hW : Len W) : Calls Tryz.prog 3 #[.int .i64 n] W fun e W' => e = .returned (.bool true) ∧ Kept W W' :=
  run_true (args := [rowArg 29 22]) dt_mixed okB extsB_tr (extsB_ok L hs hW) Tryz.func3 l_body l_name L.hr (glob_glob 6 W) (VRL.cons (.mark _ _ hm) (VRL.nil _))
    (glob_top 6 W (by decide)) (fun id h => L.top id (Nat.le_trans (by decide) h)) (run22 t_xdb32 t_xdb64 t_xp10)
theorem lrun23 (n : Int) (hm : markOk (131072 * 23 + 2 * 29) n) {W : World} {t_xdb32 t_xdb64 t_xp10 : TypeId} (L : Laying 6 W (heapA t_xdb32 t_xdb64 t_xp10)) (hs : 6 ≤ W.heap.size) (hW : Len W) : Calls Tryz.prog 3 #[.int .i64 n] W fun e W' => e = .returned (.bool true) ∧ Kept W W' :=
  run_true (args := [rowArg 29 23]) dt_mixed okB extsB_tr (extsB_ok L hs hW) Tryz.func3 l_body l_name L.hr (glob_glob 6 W) (VRL.cons (.mark _ _ hm) (VRL.nil _))
    (glob_top 6 W (by decide)) (fun id h => L.top id (Nat.le_trans (by decide) h)) (run23 t_xdb32 t_xdb64 t_xp10)
theorem lrun24 (n : Int) (hm : markOk (131072 * 24 + 2 * 29) n) {W : World} {t_xdb32 t_xdb64 t_xp10 : TypeId} (L : Laying 6 W (heapA t_xdb32 t_xdb64 t_xp10)) (hs : 6 ≤ W.heap.size) (hW : Len W) : Calls Tryz.prog 3 #[.int .i64 n] W fun e W' => e = .returned (.bool true) ∧ Kept W W' :=
  run_true (args := [rowArg 29 24]) dt_mixed okB extsB_tr (extsB_ok L hs hW) Tryz.func3 l_body l_name L.hr (glob_glob 6 W) (VRL.cons (.mark _ _ hm) (VRL.nil _))
    (glob_top 6 W (by decide)) (fun id h => L.top id (Nat.le_trans (by decide) h)) (run24 t_xdb32 t_xdb64 t_xp10)
theorem lrun25 (n : Int) (hm : markOk (131072 * 25 + 2 * 29) n) {W : World} {t_xdb32 t_xdb64 t_xp10 : TypeId} (L : Laying 6 W (heapA t_xdb32 t_xdb64 t_xp10)) (hs : 6 ≤ W.heap.size) (hW : Len W) : Calls Tryz.prog 3 #[.int .i64 n] W fun e W' => e = .returned (.bool true) ∧ Kept W W' :=
  run_true (args := [rowArg 29 25]) dt_mixed okB extsB_tr (extsB_ok L hs hW) Tryz.func3 l_body l_name L.hr (glob_glob 6 W) (VRL.cons (.mark _ _ hm) (VRL.nil _))
    (glob_top 6 W (by decide)) (fun id h => L.top id (Nat.le_trans (by decide) h)) (run25 t_xdb32 t_xdb64 t_xp10)
theorem lrun26 (n : Int) (hm : markOk (131072 * 26 + 2 * 29) n) {W : World} {t_xdb32 t_xdb64 t_xp10 : TypeId} (L : Laying 6 W (heapA t_xdb32 t_xdb64 t_xp10)) (hs : 6 ≤ W.heap.size) (hW : Len W) : Calls Tryz.prog 3 #[.int .i64 n] W fun e W' => e = .returned (.bool true) ∧ Kept W W' :=
  run_true (args := [rowArg 29 26]) dt_mixed okB extsB_tr (extsB_ok L hs hW) Tryz.func3 l_body l_name L.hr (glob_glob 6 W) (VRL.cons (.mark _ _ hm) (VRL.nil _))
    (glob_top 6 W (by decide)) (fun id h => L.top id (Nat.le_trans (by decide) h)) (run26 t_xdb32 t_xdb64 t_xp10)
theorem lrun27 (n : Int) (hm : markOk (131072 * 27 + 2 * 29) n) {W : World} {t_xdb32 t_xdb64 t_xp10 : TypeId} (L : Laying 6 W (heapA t_xdb32 t_xdb64 t_xp10)) (hs : 6 ≤ W.heap.size) (hW : Len W) : Calls Tryz.prog 3 #[.int .i64 n] W fun e W' => e = .returned (.bool true) ∧ Kept W W' :=
  run_true (args := [rowArg 29 27]) dt_mixed okB extsB_tr (extsB_ok L hs hW) Tryz.func3 l_body l_name L.hr (glob_glob 6 W) (VRL.cons (.mark _ _ hm) (VRL.nil _))
    (glob_top 6 W (by decide)) (fun id h => L.top id (Nat.le_trans (by decide) h)) (run27 t_xdb32 t_xdb64 t_xp10)
theorem lrun28 (n : Int) (hm : markOk (131072 * 28 + 2 * 29) n) {W : World} {t_xdb32 t_xdb64 t_xp10 : TypeId} (L : Laying 6 W (heapA t_xdb32 t_xdb64 t_xp10)) (hs : 6 ≤ W.heap.size) (hW : Len W) : Calls Tryz.prog 3 #[.int .i64 n] W fun e W' => e = .returned (.bool true) ∧ Kept W W' :=
  run_true (args := [rowArg 29 28]) dt_mixed okB extsB_tr (extsB_ok L hs hW) Tryz.func3 l_body l_name L.hr (glob_glob 6 W) (VRL.cons (.mark _ _ hm) (VRL.nil _))
    (glob_top 6 W (by decide)) (fun id h => L.top id (Nat.le_trans (by decide) h)) (run28 t_xdb32 t_xdb64 t_xp10)
theorem l_calls (n : Int) {W : World} {t_xdb32 t_xdb64 t_xp10 : TypeId} (L : Laying 6 W (heapA t_xdb32 t_xdb64 t_xp10)) (hs : 6 ≤ W.heap.size) (hW : Len W) : Calls Tryz.prog 3 #[.int .i64 n] W fun e W' => e = .returned (.bool true) ∧ Kept W W' := by
  obtain ⟨k, hk, hm⟩ := mark_split (m := 29) (by decide) (by decide) n
  match k, hk with
  | 0, _ => exact lrun0 n hm L hs hW
  | 1, _ => exact lrun1 n hm L hs hW
  | 2, _ => exact lrun2 n hm L hs hW
  | 3, _ => exact lrun3 n hm L hs hW
  | 4, _ => exact lrun4 n hm L hs hW
  | 5, _ => exact lrun5 n hm L hs hW
  | 6, _ => exact lrun6 n hm L hs hW
  | 7, _ => exact lrun7 n hm L hs hW
  | 8, _ => exact lrun8 n hm L hs hW
  | 9, _ => exact lrun9 n hm L hs hW
  | 10, _ => exact lrun10 n hm L hs hW
  | 11, _ => exact lrun11 n hm L hs hW
  | 12, _ => exact lrun12 n hm L hs hW
  | 13, _ => exact lrun13 n hm L hs hW
  | 14, _ => exact lrun14 n hm L hs hW
  | 15, _ => exact lrun15 n hm L hs hW
  | 16, _ => exact lrun16 n hm L hs hW
  | 17, _ => exact lrun17 n hm L hs hW
  | 18, _ => exact lrun18 n hm L hs hW
  | 19, _ => exact lrun19 n hm L hs hW
  | 20, _ => exact lrun20 n hm L hs hW
  | 21, _ => exact lrun21 n hm L hs hW
  | 22, _ => exact lrun22 n hm L hs hW
  | 23, _ => exact lrun23 n hm L hs hW
  | 24, _ => exact lrun24 n hm L hs hW
  | 25, _ => exact lrun25 n hm L hs hW
  | 26, _ => exact lrun26 n hm L hs hW
  | 27, _ => exact lrun27 n hm L hs hW
  | 28, _ => exact lrun28 n hm L hs hW
  | k + 29, hk => exact absurd hk (by omega)
theorem factForms_lifted (os : Os) (started : os.Started) (H : Type) (enc : TypeId × Value → H) :
    ReturnsInHanded {} Tryz.checked os 3 .any (fun w args => (Rows.factFormsSpec.pre enc Tryz.prog Tryz.f3 [] false w args ∧ laidMetH Tryz.prog Rows.factFormsRow.laid w) ∧ sizedMet enc Tryz.prog Tryz.f3 (OpenSpec.ofChange Rows.factFormsSpec) false w args)
      (Rows.factFormsSpec.post enc Tryz.prog Tryz.f3 false true false false) := by
  refine wrap_shaped (C := Tryz.checked) (X := fun w _ => laidMetH Tryz.prog Rows.factFormsRow.laid w) (fun _ _ _ hh h => h.of_heap hh) dt_own started (by kernel_rfl) Tryz.func3
    (ChangeSpec.witness_shaped (enc := enc) (C := Tryz.checked) (os := os) (X := fun w _ => laidMetH Tryz.prog Rows.factFormsRow.laid w) false (World.laidAll Tryz.prog os laidA) #[.int .i64 0] 8 (World.laidAll_os _ _ _) (World.shaped_of_ZipB (by kernel_rfl) (by kernel_rfl)) (by kernel_rfl) (by kernel_rfl) (by kernel_rfl) (door_metA os _)) ?_
  intro W base args ds gs before hval0 hW hL hsh
  obtain ⟨t_xdb32, t_xdb64, t_xp10, L, hs⟩ := laidA_at hL
  have hval : ∀ (j : Nat) t v, Tryz.f3.params[j]? = some t → args[j]? = some v → Value.okWide Tryz.prog W .any base t v := hval0
  have hW' := hW
  obtain ⟨p, q, hA0, hV, rfl, hfz, hnd⟩ := hW
  have hA : DataW.TrodAll enc Tryz.prog W 0 (fun _ => true) true Tryz.f3.params.toList args.toList ds p := hA0
  rw [Tryz.params3] at hA hval
  obtain ⟨v0, d0, rfl, rfl, h0⟩ := trodAll_one hA
  obtain ⟨rfl, rfl⟩ := trodVars_none hV
  obtain ⟨n, rfl, rfl, rfl, wn⟩ := open_int Tryz.underlying3 (hval 0 3 v0 rfl rfl) h0
  refine (l_calls n L hs (Len.of_shape hsh hs)).mono fun e W' ⟨he, hw⟩ => ?_
  subst he
  exact ⟨_, rfl, _, _, _, [], [], [], hW', trodAll_mk1 (shut_bool Tryz.underlying4 true), trodAll_mk1 (shut_int Tryz.underlying3 wn), rfl, hw.but _, fun h => by cases h⟩


theorem factForms_holds : Rows.FactFormsSaid :=
  OpenClaim.holds_of_wide 3 Tryz.f3 rfl rfl rfl rfl rfl rfl rfl ⟨rfl, rfl, rfl, rfl, rfl⟩ rfl rfl rfl rfl rfl (by kernel_rfl) Tryz.func3 (by kernel_rfl)
    (of_decide_eq_true (by kernel_rfl)) (by unfold Func.isWrapper; first | (rw [if_pos (by decide +kernel)]; kernel_rfl) | (rw [if_neg (by decide +kernel)]; exact ⟨rfl, rfl⟩))
    (fun os started H enc _ => factForms_lifted os started H enc)

theorem factForms_card_holds : Rows.FactFormsCardSaid :=
  Claim7.holds_tied_plain_at .later [] [.data, .data, .data, .data, .pinned] true (true, "642f0d3aa3acda716e4ce9330617e754e2deeb1709e540da0378de90ffd33016") false
    factForms_holds (fun _ h => by cases h) (by kernel_rfl) (fun _ h => by cases h) factForms_row_tie rfl ⟨rfl, rfl⟩ (by kernel_rfl) rfl
    (fun f fn hf hfn => by
      obtain rfl : f = 3 := Option.some.inj ((show Tryz.prog.funcNamed "glebe/glebelaw16.FactForms" = some 3 by kernel_rfl).symm.trans hf) |>.symm
      obtain rfl : fn = Tryz.f3 := (Option.some.inj (Tryz.func3.symm.trans hfn)).symm
      exact ⟨by kernel_rfl, fun j t ht => by
        rw [Tryz.params3] at ht
        have h3 : t = 3 := by
          rcases j with _ | j
          · simpa using ht.symm
          · simp at ht
        subst h3
        exact (show Tryz.prog.wantsStandIn 3 = false by kernel_rfl)⟩)
    (by kernel_rfl)
#print axioms factForms_card_holds
end Go.Proofs.YtklegdhcpoibfabGreatDoor
