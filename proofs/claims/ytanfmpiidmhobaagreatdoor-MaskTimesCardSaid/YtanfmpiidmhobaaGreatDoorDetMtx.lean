/- MaskTimes: at every start, whatever the number, the call returns true; the conditions: the tables that the row lists read as the program lays them. -/
import Derived.Test.YtanfmpiidmhobaaGreatDoorDetMtr0
import Derived.Test.YtanfmpiidmhobaaGreatDoorDetMtr1
import Derived.Test.YtanfmpiidmhobaaGreatDoorDetMtr2
import Derived.Test.YtanfmpiidmhobaaGreatDoorDetMtr3
namespace Go.Proofs.YtanfmpiidmhobaaGreatDoor
set_option maxRecDepth 100000
open Go.ChangeShapes Go.WideShapes Go.ChangeAt Go.RowKit Go.Det
theorem l_name : (Tryz.f3.name == "runtime.NumGoroutine") = false := by kernel_rfl
noncomputable def l_code : Code := match Tryz.f3.body with | some c => c | none => .skip
theorem l_body : Tryz.f3.body = some l_code := by kernel_rfl
theorem lrun0 (n0 : Int) (hm0 : markOk (131072 * 0 + 2 * (256 + 2)) n0) (n1 : Int) (hm1 : markOk (131072 * 0 + 2 * (256 + 2)) n1) {W : World} {t_xdb32 t_xdb64 t_xp10 : TypeId} (L : Laying 6 W (heapA t_xdb32 t_xdb64 t_xp10)) (hs : 6 ≤ W.heap.size) (hW : Len W) : Calls Tryz.prog 3 #[.int .i64 n0, .int .i64 n1, .bool false] W fun e W' => e = .returned (.bool true) ∧ Kept W W' :=
  run_true (args := [bitsArg 2 0, bitsArg 2 0, .bool false]) dt_mixed okB extsB_tr (extsB_ok L hs hW) Tryz.func3 l_body l_name L.hr (glob_glob 6 W) (VRL.cons (.mark _ _ hm0) (VRL.cons (.mark _ _ hm1) (VRL.cons (.bool _) (VRL.nil _))))
    (glob_top 6 W (by decide)) (fun id h => L.top id (Nat.le_trans (by decide) h)) (run0 t_xdb32 t_xdb64 t_xp10)
theorem lrun1 (n0 : Int) (hm0 : markOk (131072 * 0 + 2 * (256 + 2)) n0) (n1 : Int) (hm1 : markOk (131072 * 0 + 2 * (256 + 2)) n1) {W : World} {t_xdb32 t_xdb64 t_xp10 : TypeId} (L : Laying 6 W (heapA t_xdb32 t_xdb64 t_xp10)) (hs : 6 ≤ W.heap.size) (hW : Len W) : Calls Tryz.prog 3 #[.int .i64 n0, .int .i64 n1, .bool true] W fun e W' => e = .returned (.bool true) ∧ Kept W W' :=
  run_true (args := [bitsArg 2 0, bitsArg 2 0, .bool true]) dt_mixed okB extsB_tr (extsB_ok L hs hW) Tryz.func3 l_body l_name L.hr (glob_glob 6 W) (VRL.cons (.mark _ _ hm0) (VRL.cons (.mark _ _ hm1) (VRL.cons (.bool _) (VRL.nil _))))
    (glob_top 6 W (by decide)) (fun id h => L.top id (Nat.le_trans (by decide) h)) (run1 t_xdb32 t_xdb64 t_xp10)
theorem lrun2 (n0 : Int) (hm0 : markOk (131072 * 0 + 2 * (256 + 2)) n0) (n1 : Int) (hm1 : markOk (131072 * 1 + 2 * (256 + 2)) n1) {W : World} {t_xdb32 t_xdb64 t_xp10 : TypeId} (L : Laying 6 W (heapA t_xdb32 t_xdb64 t_xp10)) (hs : 6 ≤ W.heap.size) (hW : Len W) : Calls Tryz.prog 3 #[.int .i64 n0, .int .i64 n1, .bool false] W fun e W' => e = .returned (.bool true) ∧ Kept W W' :=
  run_true (args := [bitsArg 2 0, bitsArg 2 1, .bool false]) dt_mixed okB extsB_tr (extsB_ok L hs hW) Tryz.func3 l_body l_name L.hr (glob_glob 6 W) (VRL.cons (.mark _ _ hm0) (VRL.cons (.mark _ _ hm1) (VRL.cons (.bool _) (VRL.nil _))))
    (glob_top 6 W (by decide)) (fun id h => L.top id (Nat.le_trans (by decide) h)) (run2 t_xdb32 t_xdb64 t_xp10)
theorem lrun3 (n0 : Int) (hm0 : markOk (131072 * 0 + 2 * (256 + 2)) n0) (n1 : Int) (hm1 : markOk (131072 * 1 + 2 * (256 + 2)) n1) {W : World} {t_xdb32 t_xdb64 t_xp10 : TypeId} (L : Laying 6 W (heapA t_xdb32 t_xdb64 t_xp10)) (hs : 6 ≤ W.heap.size) (hW : Len W) : Calls Tryz.prog 3 #[.int .i64 n0, .int .i64 n1, .bool true] W fun e W' => e = .returned (.bool true) ∧ Kept W W' :=
  run_true (args := [bitsArg 2 0, bitsArg 2 1, .bool true]) dt_mixed okB extsB_tr (extsB_ok L hs hW) Tryz.func3 l_body l_name L.hr (glob_glob 6 W) (VRL.cons (.mark _ _ hm0) (VRL.cons (.mark _ _ hm1) (VRL.cons (.bool _) (VRL.nil _))))
    (glob_top 6 W (by decide)) (fun id h => L.top id (Nat.le_trans (by decide) h)) (run3 t_xdb32 t_xdb64 t_xp10)
theorem lrun4 (n0 : Int) (hm0 : markOk (131072 * 0 + 2 * (256 + 2)) n0) (n1 : Int) (hm1 : markOk (131072 * 2 + 2 * (256 + 2)) n1) {W : World} {t_xdb32 t_xdb64 t_xp10 : TypeId} (L : Laying 6 W (heapA t_xdb32 t_xdb64 t_xp10)) (hs : 6 ≤ W.heap.size) (hW : Len W) : Calls Tryz.prog 3 #[.int .i64 n0, .int .i64 n1, .bool false] W fun e W' => e = .returned (.bool true) ∧ Kept W W' :=
  run_true (args := [bitsArg 2 0, bitsArg 2 2, .bool false]) dt_mixed okB extsB_tr (extsB_ok L hs hW) Tryz.func3 l_body l_name L.hr (glob_glob 6 W) (VRL.cons (.mark _ _ hm0) (VRL.cons (.mark _ _ hm1) (VRL.cons (.bool _) (VRL.nil _))))
    (glob_top 6 W (by decide)) (fun id h => L.top id (Nat.le_trans (by decide) h)) (run4 t_xdb32 t_xdb64 t_xp10)
theorem lrun5 (n0 : Int) (hm0 : markOk (131072 * 0 + 2 * (256 + 2)) n0) (n1 : Int) (hm1 : markOk (131072 * 2 + 2 * (256 + 2)) n1) {W : World} {t_xdb32 t_xdb64 t_xp10 : TypeId} (L : Laying 6 W (heapA t_xdb32 t_xdb64 t_xp10)) (hs : 6 ≤ W.heap.size) (hW : Len W) : Calls Tryz.prog 3 #[.int .i64 n0, .int .i64 n1, .bool true] W fun e W' => e = .returned (.bool true) ∧ Kept W W' :=
  run_true (args := [bitsArg 2 0, bitsArg 2 2, .bool true]) dt_mixed okB extsB_tr (extsB_ok L hs hW) Tryz.func3 l_body l_name L.hr (glob_glob 6 W) (VRL.cons (.mark _ _ hm0) (VRL.cons (.mark _ _ hm1) (VRL.cons (.bool _) (VRL.nil _))))
    (glob_top 6 W (by decide)) (fun id h => L.top id (Nat.le_trans (by decide) h)) (run5 t_xdb32 t_xdb64 t_xp10)
theorem lrun6 (n0 : Int) (hm0 : markOk (131072 * 0 + 2 * (256 + 2)) n0) (n1 : Int) (hm1 : markOk (131072 * 3 + 2 * (256 + 2)) n1) {W : World} {t_xdb32 t_xdb64 t_xp10 : TypeId} (L : Laying 6 W (heapA t_xdb32 t_xdb64 t_xp10)) (hs : 6 ≤ W.heap.size) (hW : Len W) : Calls Tryz.prog 3 #[.int .i64 n0, .int .i64 n1, .bool false] W fun e W' => e = .returned (.bool true) ∧ Kept W W' :=
  run_true (args := [bitsArg 2 0, bitsArg 2 3, .bool false]) dt_mixed okB extsB_tr (extsB_ok L hs hW) Tryz.func3 l_body l_name L.hr (glob_glob 6 W) (VRL.cons (.mark _ _ hm0) (VRL.cons (.mark _ _ hm1) (VRL.cons (.bool _) (VRL.nil _))))
    (glob_top 6 W (by decide)) (fun id h => L.top id (Nat.le_trans (by decide) h)) (run6 t_xdb32 t_xdb64 t_xp10)
theorem lrun7 (n0 : Int) (hm0 : markOk (131072 * 0 + 2 * (256 + 2)) n0) (n1 : Int) (hm1 : markOk (131072 * 3 + 2 * (256 + 2)) n1) {W : World} {t_xdb32 t_xdb64 t_xp10 : TypeId} (L : Laying 6 W (heapA t_xdb32 t_xdb64 t_xp10)) (hs : 6 ≤ W.heap.size) (hW : Len W) : Calls Tryz.prog 3 #[.int .i64 n0, .int .i64 n1, .bool true] W fun e W' => e = .returned (.bool true) ∧ Kept W W' :=
  run_true (args := [bitsArg 2 0, bitsArg 2 3, .bool true]) dt_mixed okB extsB_tr (extsB_ok L hs hW) Tryz.func3 l_body l_name L.hr (glob_glob 6 W) (VRL.cons (.mark _ _ hm0) (VRL.cons (.mark _ _ hm1) (VRL.cons (.bool _) (VRL.nil _))))
    (glob_top 6 W (by decide)) (fun id h => L.top id (Nat.le_trans (by decide) h)) (run7 t_xdb32 t_xdb64 t_xp10)
theorem lrun8 (n0 : Int) (hm0 : markOk (131072 * 1 + 2 * (256 + 2)) n0) (n1 : Int) (hm1 : markOk (131072 * 0 + 2 * (256 + 2)) n1) {W : World} {t_xdb32 t_xdb64 t_xp10 : TypeId} (L : Laying 6 W (heapA t_xdb32 t_xdb64 t_xp10)) (hs : 6 ≤ W.heap.size) (hW : Len W) : Calls Tryz.prog 3 #[.int .i64 n0, .int .i64 n1, .bool false] W fun e W' => e = .returned (.bool true) ∧ Kept W W' :=
  run_true (args := [bitsArg 2 1, bitsArg 2 0, .bool false]) dt_mixed okB extsB_tr (extsB_ok L hs hW) Tryz.func3 l_body l_name L.hr (glob_glob 6 W) (VRL.cons (.mark _ _ hm0) (VRL.cons (.mark _ _ hm1) (VRL.cons (.bool _) (VRL.nil _))))
    (glob_top 6 W (by decide)) (fun id h => L.top id (Nat.le_trans (by decide) h)) (run8 t_xdb32 t_xdb64 t_xp10)
theorem lrun9 (n0 : Int) (hm0 : markOk (131072 * 1 + 2 * (256 + 2)) n0) (n1 : Int) (hm1 : markOk (131072 * 0 + 2 * (256 + 2)) n1) {W : World} {t_xdb32 t_xdb64 t_xp10 : TypeId} (L : Laying 6 W (heapA t_xdb32 t_xdb64 t_xp10)) (hs : 6 ≤ W.heap.size) (hW : Len W) : Calls Tryz.prog 3 #[.int .i64 n0, .int .i64 n1, .bool true] W fun e W' => e = .returned (.bool true) ∧ Kept W W' :=
  run_true (args := [bitsArg 2 1, bitsArg 2 0, .bool true]) dt_mixed okB extsB_tr (extsB_ok L hs hW) Tryz.func3 l_body l_name L.hr (glob_glob 6 W) (VRL.cons (.mark _ _ hm0) (VRL.cons (.mark _ _ hm1) (VRL.cons (.bool _) (VRL.nil _))))
    (glob_top 6 W (by decide)) (fun id h => L.top id (Nat.le_trans (by decide) h)) (run9 t_xdb32 t_xdb64 t_xp10)
theorem lrun10 (n0 : Int) (hm0 : markOk (131072 * 1 + 2 * (256 + 2)) n0) (n1 : Int) (hm1 : markOk (131072 * 1 + 2 * (256 + 2)) n1) {W : World} {t_xdb32 t_xdb64 t_xp10 : TypeId} (L : Laying 6 W (heapA t_xdb32 t_xdb64 t_xp10)) (hs : 6 ≤ W.heap.size) (hW : Len W) : Calls Tryz.prog 3 #[.int .i64 n0, .int .i64 n1, .bool false] W fun e W' => e = .returned (.bool true) ∧ Kept W W' :=
  run_true (args := [bitsArg 2 1, bitsArg 2 1, .bool false]) dt_mixed okB extsB_tr (extsB_ok L hs hW) Tryz.func3 l_body l_name L.hr (glob_glob 6 W) (VRL.cons (.mark _ _ hm0) (VRL.cons (.mark _ _ hm1) (VRL.cons (.bool _) (VRL.nil _))))
    (glob_top 6 W (by decide)) (fun id h => L.top id (Nat.le_trans (by decide) h)) (run10 t_xdb32 t_xdb64 t_xp10)
theorem lrun11 (n0 : Int) (hm0 : markOk (131072 * 1 + 2 * (256 + 2)) n0) (n1 : Int) (hm1 : markOk (131072 * 1 + 2 * (256 + 2)) n1) {W : World} {t_xdb32 t_xdb64 t_xp10 : TypeId} (L : Laying 6 W (heapA t_xdb32 t_xdb64 t_xp10)) (hs : 6 ≤ W.heap.size) (hW : Len W) : Calls Tryz.prog 3 #[.int .i64 n0, .int .i64 n1, .bool true] W fun e W' => e = .returned (.bool true) ∧ Kept W W' :=
  run_true (args := [bitsArg 2 1, bitsArg 2 1, .bool true]) dt_mixed okB extsB_tr (extsB_ok L hs hW) Tryz.func3 l_body l_name L.hr (glob_glob 6 W) (VRL.cons (.mark _ _ hm0) (VRL.cons (.mark _ _ hm1) (VRL.cons (.bool _) (VRL.nil _))))
    (glob_top 6 W (by decide)) (fun id h => L.top id (Nat.le_trans (by decide) h)) (run11 t_xdb32 t_xdb64 t_xp10)
theorem lrun12 (n0 : Int) (hm0 : markOk (131072 * 1 + 2 * (256 + 2)) n0) (n1 : Int) (hm1 : markOk (131072 * 2 + 2 * (256 + 2)) n1) {W : World} {t_xdb32 t_xdb64 t_xp10 : TypeId} (L : Laying 6 W (heapA t_xdb32 t_xdb64 t_xp10)) (hs : 6 ≤ W.heap.size) (hW : Len W) : Calls Tryz.prog 3 #[.int .i64 n0, .int .i64 n1, .bool false] W fun e W' => e = .returned (.bool true) ∧ Kept W W' :=
  run_true (args := [bitsArg 2 1, bitsArg 2 2, .bool false]) dt_mixed okB extsB_tr (extsB_ok L hs hW) Tryz.func3 l_body l_name L.hr (glob_glob 6 W) (VRL.cons (.mark _ _ hm0) (VRL.cons (.mark _ _ hm1) (VRL.cons (.bool _) (VRL.nil _))))
    (glob_top 6 W (by decide)) (fun id h => L.top id (Nat.le_trans (by decide) h)) (run12 t_xdb32 t_xdb64 t_xp10)
theorem lrun13 (n0 : Int) (hm0 : markOk (131072 * 1 + 2 * (256 + 2)) n0) (n1 : Int) (hm1 : markOk (131072 * 2 + 2 * (256 + 2)) n1) {W : World} {t_xdb32 t_xdb64 t_xp10 : TypeId} (L : Laying 6 W (heapA t_xdb32 t_xdb64 t_xp10)) (hs : 6 ≤ W.heap.size) (hW : Len W) : Calls Tryz.prog 3 #[.int .i64 n0, .int .i64 n1, .bool true] W fun e W' => e = .returned (.bool true) ∧ Kept W W' :=
  run_true (args := [bitsArg 2 1, bitsArg 2 2, .bool true]) dt_mixed okB extsB_tr (extsB_ok L hs hW) Tryz.func3 l_body l_name L.hr (glob_glob 6 W) (VRL.cons (.mark _ _ hm0) (VRL.cons (.mark _ _ hm1) (VRL.cons (.bool _) (VRL.nil _))))
    (glob_top 6 W (by decide)) (fun id h => L.top id (Nat.le_trans (by decide) h)) (run13 t_xdb32 t_xdb64 t_xp10)
theorem lrun14 (n0 : Int) (hm0 : markOk (131072 * 1 + 2 * (256 + 2)) n0) (n1 : Int) (hm1 : markOk (131072 * 3 + 2 * (256 + 2)) n1) {W : World} {t_xdb32 t_xdb64 t_xp10 : TypeId} (L : Laying 6 W (heapA t_xdb32 t_xdb64 t_xp10)) (hs : 6 ≤ W.heap.size) (hW : Len W) : Calls Tryz.prog 3 #[.int .i64 n0, .int .i64 n1, .bool false] W fun e W' => e = .returned (.bool true) ∧ Kept W W' :=
  run_true (args := [bitsArg 2 1, bitsArg 2 3, .bool false]) dt_mixed okB extsB_tr (extsB_ok L hs hW) Tryz.func3 l_body l_name L.hr (glob_glob 6 W) (VRL.cons (.mark _ _ hm0) (VRL.cons (.mark _ _ hm1) (VRL.cons (.bool _) (VRL.nil _))))
    (glob_top 6 W (by decide)) (fun id h => L.top id (Nat.le_trans (by decide) h)) (run14 t_xdb32 t_xdb64 t_xp10)
theorem lrun15 (n0 : Int) (hm0 : markOk (131072 * 1 + 2 * (256 + 2)) n0) (n1 : Int) (hm1 : markOk (131072 * 3 + 2 * (256 + 2)) n1) {W : World} {t_xdb32 t_xdb64 t_xp10 : TypeId} (L : Laying 6 W (heapA t_xdb32 t_xdb64 t_xp10)) (hs : 6 ≤ W.heap.size) (hW : Len W) : Calls Tryz.prog 3 #[.int .i64 n0, .int .i64 n1, .bool true] W fun e W' => e = .returned (.bool true) ∧ Kept W W' :=
  run_true (args := [bitsArg 2 1, bitsArg 2 3, .bool true]) dt_mixed okB extsB_tr (extsB_ok L hs hW) Tryz.func3 l_body l_name L.hr (glob_glob 6 W) (VRL.cons (.mark _ _ hm0) (VRL.cons (.mark _ _ hm1) (VRL.cons (.bool _) (VRL.nil _))))
    (glob_top 6 W (by decide)) (fun id h => L.top id (Nat.le_trans (by decide) h)) (run15 t_xdb32 t_xdb64 t_xp10)
theorem lrun16 (n0 : Int) (hm0 : markOk (131072 * 2 + 2 * (256 + 2)) n0) (n1 : Int) (hm1 : markOk (131072 * 0 + 2 * (256 + 2)) n1) {W : World} {t_xdb32 t_xdb64 t_xp10 : TypeId} (L : Laying 6 W (heapA t_xdb32 t_xdb64 t_xp10)) (hs : 6 ≤ W.heap.size) (hW : Len W) : Calls Tryz.prog 3 #[.int .i64 n0, .int .i64 n1, .bool false] W fun e W' => e = .returned (.bool true) ∧ Kept W W' :=
  run_true (args := [bitsArg 2 2, bitsArg 2 0, .bool false]) dt_mixed okB extsB_tr (extsB_ok L hs hW) Tryz.func3 l_body l_name L.hr (glob_glob 6 W) (VRL.cons (.mark _ _ hm0) (VRL.cons (.mark _ _ hm1) (VRL.cons (.bool _) (VRL.nil _))))
    (glob_top 6 W (by decide)) (fun id h => L.top id (Nat.le_trans (by decide) h)) (run16 t_xdb32 t_xdb64 t_xp10)
theorem lrun17 (n0 : Int) (hm0 : markOk (131072 * 2 + 2 * (256 + 2)) n0) (n1 : Int) (hm1 : markOk (131072 * 0 + 2 * (256 + 2)) n1) {W : World} {t_xdb32 t_xdb64 t_xp10 : TypeId} (L : Laying 6 W (heapA t_xdb32 t_xdb64 t_xp10)) (hs : 6 ≤ W.heap.size) (hW : Len W) : Calls Tryz.prog 3 #[.int .i64 n0, .int .i64 n1, .bool true] W fun e W' => e = .returned (.bool true) ∧ Kept W W' :=
  run_true (args := [bitsArg 2 2, bitsArg 2 0, .bool true]) dt_mixed okB extsB_tr (extsB_ok L hs hW) Tryz.func3 l_body l_name L.hr (glob_glob 6 W) (VRL.cons (.mark _ _ hm0) (VRL.cons (.mark _ _ hm1) (VRL.cons (.bool _) (VRL.nil _))))
    (glob_top 6 W (by decide)) (fun id h => L.top id (Nat.le_trans (by decide) h)) (run17 t_xdb32 t_xdb64 t_xp10)
theorem lrun18 (n0 : Int) (hm0 : markOk (131072 * 2 + 2 * (256 + 2)) n0) (n1 : Int) (hm1 : markOk (131072 * 1 + 2 * (256 + 2)) n1) {W : World} {t_xdb32 t_xdb64 t_xp10 : TypeId} (L : Laying 6 W (heapA t_xdb32 t_xdb64 t_xp10)) (hs : 6 ≤ W.heap.size) (hW : Len W) : Calls Tryz.prog 3 #[.int .i64 n0, .int .i64 n1, .bool false] W fun e W' => e = .returned (.bool true) ∧ Kept W W' :=
  run_true (args := [bitsArg 2 2, bitsArg 2 1, .bool false]) dt_mixed okB extsB_tr (extsB_ok L hs hW) Tryz.func3 l_body l_name L.hr (glob_glob 6 W) (VRL.cons (.mark _ _ hm0) (VRL.cons (.mark _ _ hm1) (VRL.cons (.bool _) (VRL.nil _))))
    (glob_top 6 W (by decide)) (fun id h => L.top id (Nat.le_trans (by decide) h)) (run18 t_xdb32 t_xdb64 t_xp10)
theorem lrun19 (n0 : Int) (hm0 : markOk (131072 * 2 + 2 * (256 + 2)) n0) (n1 : Int) (hm1 : markOk (131072 * 1 + 2 * (256 + 2)) n1) {W : World} {t_xdb32 t_xdb64 t_xp10 : TypeId} (L : Laying 6 W (heapA t_xdb32 t_xdb64 t_xp10)) (hs : 6 ≤ W.heap.size) (hW : Len W) : Calls Tryz.prog 3 #[.int .i64 n0, .int .i64 n1, .bool true] W fun e W' => e = .returned (.bool true) ∧ Kept W W' :=
  run_true (args := [bitsArg 2 2, bitsArg 2 1, .bool true]) dt_mixed okB extsB_tr (extsB_ok L hs hW) Tryz.func3 l_body l_name L.hr (glob_glob 6 W) (VRL.cons (.mark _ _ hm0) (VRL.cons (.mark _ _ hm1) (VRL.cons (.bool _) (VRL.nil _))))
    (glob_top 6 W (by decide)) (fun id h => L.top id (Nat.le_trans (by decide) h)) (run19 t_xdb32 t_xdb64 t_xp10)
theorem lrun20 (n0 : Int) (hm0 : markOk (131072 * 2 + 2 * (256 + 2)) n0) (n1 : Int) (hm1 : markOk (131072 * 2 + 2 * (256 + 2)) n1) {W : World} {t_xdb32 t_xdb64 t_xp10 : TypeId} (L : Laying 6 W (heapA t_xdb32 t_xdb64 t_xp10)) (hs : 6 ≤ W.heap.size) (hW : Len W) : Calls Tryz.prog 3 #[.int .i64 n0, .int .i64 n1, .bool false] W fun e W' => e = .returned (.bool true) ∧ Kept W W' :=
  run_true (args := [bitsArg 2 2, bitsArg 2 2, .bool false]) dt_mixed okB extsB_tr (extsB_ok L hs hW) Tryz.func3 l_body l_name L.hr (glob_glob 6 W) (VRL.cons (.mark _ _ hm0) (VRL.cons (.mark _ _ hm1) (VRL.cons (.bool _) (VRL.nil _))))
    (glob_top 6 W (by decide)) (fun id h => L.top id (Nat.le_trans (by decide) h)) (run20 t_xdb32 t_xdb64 t_xp10)
theorem lrun21 (n0 : Int) (hm0 : markOk (131072 * 2 + 2 * (256 + 2)) n0) (n1 : Int) (hm1 : markOk (131072 * 2 + 2 * (256 + 2)) n1) {W : World} {t_xdb32 t_xdb64 t_xp10 : TypeId} (L : Laying 6 W (heapA t_xdb32 t_xdb64 t_xp10)) (hs : 6 ≤ W.heap.size) (hW : Len W) : Calls Tryz.prog 3 #[.int .i64 n0, .int .i64 n1, .bool true] W fun e W' => e = .returned (.bool true) ∧ Kept W W' :=
  run_true (args := [bitsArg 2 2, bitsArg 2 2, .bool true]) dt_mixed okB extsB_tr (extsB_ok L hs hW) Tryz.func3 l_body l_name L.hr (glob_glob 6 W) (VRL.cons (.mark _ _ hm0) (VRL.cons (.mark _ _ hm1) (VRL.cons (.bool _) (VRL.nil _))))
    (glob_top 6 W (by decide)) (fun id h => L.top id (Nat.le_trans (by decide) h)) (run21 t_xdb32 t_xdb64 t_xp10)
theorem lrun22 (n0 : Int) (hm0 : markOk (131072 * 2 + 2 * (256 + 2)) n0) (n1 : Int) (hm1 : markOk (131072 * 3 + 2 * (256 + 2)) n1) {W : World} {t_xdb32 t_xdb64 t_xp10 : TypeId} (L : Laying 6 W (heapA t_xdb32 t_xdb64 t_xp10)) (hs : 6 ≤ W.heap.size) (hW : Len W) : Calls Tryz.prog 3 #[.int .i64 n0, .int .i64 n1, .bool false] W fun e W' => e = .returned (.bool true) ∧ Kept W W' :=
  run_true (args := [bitsArg 2 2, bitsArg 2 3, .bool false]) dt_mixed okB extsB_tr (extsB_ok L hs hW) Tryz.func3 l_body l_name L.hr (glob_glob 6 W) (VRL.cons (.mark _ _ hm0) (VRL.cons (.mark _ _ hm1) (VRL.cons (.bool _) (VRL.nil _))))
    (glob_top 6 W (by decide)) (fun id h => L.top id (Nat.le_trans (by decide) h)) (run22 t_xdb32 t_xdb64 t_xp10)
theorem lrun23 (n0 : Int) (hm0 : markOk (131072 * 2 + 2 * (256 + 2)) n0) (n1 : Int) (hm1 : markOk (131072 * 3 + 2 * (256 + 2)) n1) {W : World} {t_xdb32 t_xdb64 t_xp10 : TypeId} (L : Laying 6 W (heapA t_xdb32 t_xdb64 t_xp10)) (hs : 6 ≤ W.heap.size) (hW : Len W) : Calls Tryz.prog 3 #[.int .i64 n0, .int .i64 n1, .bool true] W fun e W' => e = .returned (.bool true) ∧ Kept W W' :=
  run_true (args := [bitsArg 2 2, bitsArg 2 3, .bool true]) dt_mixed okB extsB_tr (extsB_ok L hs hW) Tryz.func3 l_body l_name L.hr (glob_glob 6 W) (VRL.cons (.mark _ _ hm0) (VRL.cons (.mark _ _ hm1) (VRL.cons (.bool _) (VRL.nil _))))
    (glob_top 6 W (by decide)) (fun id h => L.top id (Nat.le_trans (by decide) h)) (run23 t_xdb32 t_xdb64 t_xp10)
theorem lrun24 (n0 : Int) (hm0 : markOk (131072 * 3 + 2 * (256 + 2)) n0) (n1 : Int) (hm1 : markOk (131072 * 0 + 2 * (256 + 2)) n1) {W : World} {t_xdb32 t_xdb64 t_xp10 : TypeId} (L : Laying 6 W (heapA t_xdb32 t_xdb64 t_xp10)) (hs : 6 ≤ W.heap.size) (hW : Len W) : Calls Tryz.prog 3 #[.int .i64 n0, .int .i64 n1, .bool false] W fun e W' => e = .returned (.bool true) ∧ Kept W W' :=
  run_true (args := [bitsArg 2 3, bitsArg 2 0, .bool false]) dt_mixed okB extsB_tr (extsB_ok L hs hW) Tryz.func3 l_body l_name L.hr (glob_glob 6 W) (VRL.cons (.mark _ _ hm0) (VRL.cons (.mark _ _ hm1) (VRL.cons (.bool _) (VRL.nil _))))
    (glob_top 6 W (by decide)) (fun id h => L.top id (Nat.le_trans (by decide) h)) (run24 t_xdb32 t_xdb64 t_xp10)
theorem lrun25 (n0 : Int) (hm0 : markOk (131072 * 3 + 2 * (256 + 2)) n0) (n1 : Int) (hm1 : markOk (131072 * 0 + 2 * (256 + 2)) n1) {W : World} {t_xdb32 t_xdb64 t_xp10 : TypeId} (L : Laying 6 W (heapA t_xdb32 t_xdb64 t_xp10)) (hs : 6 ≤ W.heap.size) (hW : Len W) : Calls Tryz.prog 3 #[.int .i64 n0, .int .i64 n1, .bool true] W fun e W' => e = .returned (.bool true) ∧ Kept W W' :=
  run_true (args := [bitsArg 2 3, bitsArg 2 0, .bool true]) dt_mixed okB extsB_tr (extsB_ok L hs hW) Tryz.func3 l_body l_name L.hr (glob_glob 6 W) (VRL.cons (.mark _ _ hm0) (VRL.cons (.mark _ _ hm1) (VRL.cons (.bool _) (VRL.nil _))))
    (glob_top 6 W (by decide)) (fun id h => L.top id (Nat.le_trans (by decide) h)) (run25 t_xdb32 t_xdb64 t_xp10)
theorem lrun26 (n0 : Int) (hm0 : markOk (131072 * 3 + 2 * (256 + 2)) n0) (n1 : Int) (hm1 : markOk (131072 * 1 + 2 * (256 + 2)) n1) {W : World} {t_xdb32 t_xdb64 t_xp10 : TypeId} (L : Laying 6 W (heapA t_xdb32 t_xdb64 t_xp10)) (hs : 6 ≤ W.heap.size) (hW : Len W) : Calls Tryz.prog 3 #[.int .i64 n0, .int .i64 n1, .bool false] W fun e W' => e = .returned (.bool true) ∧ Kept W W' :=
  run_true (args := [bitsArg 2 3, bitsArg 2 1, .bool false]) dt_mixed okB extsB_tr (extsB_ok L hs hW) Tryz.func3 l_body l_name L.hr (glob_glob 6 W) (VRL.cons (.mark _ _ hm0) (VRL.cons (.mark _ _ hm1) (VRL.cons (.bool _) (VRL.nil _))))
    (glob_top 6 W (by decide)) (fun id h => L.top id (Nat.le_trans (by decide) h)) (run26 t_xdb32 t_xdb64 t_xp10)
theorem lrun27 (n0 : Int) (hm0 : markOk (131072 * 3 + 2 * (256 + 2)) n0) (n1 : Int) (hm1 : markOk (131072 * 1 + 2 * (256 + 2)) n1) {W : World} {t_xdb32 t_xdb64 t_xp10 : TypeId} (L : Laying 6 W (heapA t_xdb32 t_xdb64 t_xp10)) (hs : 6 ≤ W.heap.size) (hW : Len W) : Calls Tryz.prog 3 #[.int .i64 n0, .int .i64 n1, .bool true] W fun e W' => e = .returned (.bool true) ∧ Kept W W' :=
  run_true (args := [bitsArg 2 3, bitsArg 2 1, .bool true]) dt_mixed okB extsB_tr (extsB_ok L hs hW) Tryz.func3 l_body l_name L.hr (glob_glob 6 W) (VRL.cons (.mark _ _ hm0) (VRL.cons (.mark _ _ hm1) (VRL.cons (.bool _) (VRL.nil _))))
    (glob_top 6 W (by decide)) (fun id h => L.top id (Nat.le_trans (by decide) h)) (run27 t_xdb32 t_xdb64 t_xp10)
theorem lrun28 (n0 : Int) (hm0 : markOk (131072 * 3 + 2 * (256 + 2)) n0) (n1 : Int) (hm1 : markOk (131072 * 2 + 2 * (256 + 2)) n1) {W : World} {t_xdb32 t_xdb64 t_xp10 : TypeId} (L : Laying 6 W (heapA t_xdb32 t_xdb64 t_xp10)) (hs : 6 ≤ W.heap.size) (hW : Len W) : Calls Tryz.prog 3 #[.int .i64 n0, .int .i64 n1, .bool false] W fun e W' => e = .returned (.bool true) ∧ Kept W W' :=
  run_true (args := [bitsArg 2 3, bitsArg 2 2, .bool false]) dt_mixed okB extsB_tr (extsB_ok L hs hW) Tryz.func3 l_body l_name L.hr (glob_glob 6 W) (VRL.cons (.mark _ _ hm0) (VRL.cons (.mark _ _ hm1) (VRL.cons (.bool _) (VRL.nil _))))
    (glob_top 6 W (by decide)) (fun id h => L.top id (Nat.le_trans (by decide) h)) (run28 t_xdb32 t_xdb64 t_xp10)
theorem lrun29 (n0 : Int) (hm0 : markOk (131072 * 3 + 2 * (256 + 2)) n0) (n1 : Int) (hm1 : markOk (131072 * 2 + 2 * (256 + 2)) n1) {W : World} {t_xdb32 t_xdb64 t_xp10 : TypeId} (L : Laying 6 W (heapA t_xdb32 t_xdb64 t_xp10)) (hs : 6 ≤ W.heap.size) (hW : Len W) : Calls Tryz.prog 3 #[.int .i64 n0, .int .i64 n1, .bool true] W fun e W' => e = .returned (.bool true) ∧ Kept W W' :=
  run_true (args := [bitsArg 2 3, bitsArg 2 2, .bool true]) dt_mixed okB extsB_tr (extsB_ok L hs hW) Tryz.func3 l_body l_name L.hr (glob_glob 6 W) (VRL.cons (.mark _ _ hm0) (VRL.cons (.mark _ _ hm1) (VRL.cons (.bool _) (VRL.nil _))))
    (glob_top 6 W (by decide)) (fun id h => L.top id (Nat.le_trans (by decide) h)) (run29 t_xdb32 t_xdb64 t_xp10)
theorem lrun30 (n0 : Int) (hm0 : markOk (131072 * 3 + 2 * (256 + 2)) n0) (n1 : Int) (hm1 : markOk (131072 * 3 + 2 * (256 + 2)) n1) {W : World} {t_xdb32 t_xdb64 t_xp10 : TypeId} (L : Laying 6 W (heapA t_xdb32 t_xdb64 t_xp10)) (hs : 6 ≤ W.heap.size) (hW : Len W) : Calls Tryz.prog 3 #[.int .i64 n0, .int .i64 n1, .bool false] W fun e W' => e = .returned (.bool true) ∧ Kept W W' :=
  run_true (args := [bitsArg 2 3, bitsArg 2 3, .bool false]) dt_mixed okB extsB_tr (extsB_ok L hs hW) Tryz.func3 l_body l_name L.hr (glob_glob 6 W) (VRL.cons (.mark _ _ hm0) (VRL.cons (.mark _ _ hm1) (VRL.cons (.bool _) (VRL.nil _))))
    (glob_top 6 W (by decide)) (fun id h => L.top id (Nat.le_trans (by decide) h)) (run30 t_xdb32 t_xdb64 t_xp10)
theorem lrun31 (n0 : Int) (hm0 : markOk (131072 * 3 + 2 * (256 + 2)) n0) (n1 : Int) (hm1 : markOk (131072 * 3 + 2 * (256 + 2)) n1) {W : World} {t_xdb32 t_xdb64 t_xp10 : TypeId} (L : Laying 6 W (heapA t_xdb32 t_xdb64 t_xp10)) (hs : 6 ≤ W.heap.size) (hW : Len W) : Calls Tryz.prog 3 #[.int .i64 n0, .int .i64 n1, .bool true] W fun e W' => e = .returned (.bool true) ∧ Kept W W' :=
  run_true (args := [bitsArg 2 3, bitsArg 2 3, .bool true]) dt_mixed okB extsB_tr (extsB_ok L hs hW) Tryz.func3 l_body l_name L.hr (glob_glob 6 W) (VRL.cons (.mark _ _ hm0) (VRL.cons (.mark _ _ hm1) (VRL.cons (.bool _) (VRL.nil _))))
    (glob_top 6 W (by decide)) (fun id h => L.top id (Nat.le_trans (by decide) h)) (run31 t_xdb32 t_xdb64 t_xp10)
theorem l_calls (n0 : Int) (n1 : Int) (n2 : Bool) {W : World} {t_xdb32 t_xdb64 t_xp10 : TypeId} (L : Laying 6 W (heapA t_xdb32 t_xdb64 t_xp10)) (hs : 6 ≤ W.heap.size) (hW : Len W) : Calls Tryz.prog 3 #[.int .i64 n0, .int .i64 n1, .bool n2] W fun e W' => e = .returned (.bool true) ∧ Kept W W' := by
  obtain ⟨k0, hk0, hm0⟩ := mark_bits (k := 2) (by decide) n0
  obtain ⟨k1, hk1, hm1⟩ := mark_bits (k := 2) (by decide) n1
  match k0, hk0, k1, hk1, n2 with
  | 0, _, 0, _, false => exact lrun0 n0 hm0 n1 hm1 L hs hW
  | 0, _, 0, _, true => exact lrun1 n0 hm0 n1 hm1 L hs hW
  | 0, _, 1, _, false => exact lrun2 n0 hm0 n1 hm1 L hs hW
  | 0, _, 1, _, true => exact lrun3 n0 hm0 n1 hm1 L hs hW
  | 0, _, 2, _, false => exact lrun4 n0 hm0 n1 hm1 L hs hW
  | 0, _, 2, _, true => exact lrun5 n0 hm0 n1 hm1 L hs hW
  | 0, _, 3, _, false => exact lrun6 n0 hm0 n1 hm1 L hs hW
  | 0, _, 3, _, true => exact lrun7 n0 hm0 n1 hm1 L hs hW
  | 1, _, 0, _, false => exact lrun8 n0 hm0 n1 hm1 L hs hW
  | 1, _, 0, _, true => exact lrun9 n0 hm0 n1 hm1 L hs hW
  | 1, _, 1, _, false => exact lrun10 n0 hm0 n1 hm1 L hs hW
  | 1, _, 1, _, true => exact lrun11 n0 hm0 n1 hm1 L hs hW
  | 1, _, 2, _, false => exact lrun12 n0 hm0 n1 hm1 L hs hW
  | 1, _, 2, _, true => exact lrun13 n0 hm0 n1 hm1 L hs hW
  | 1, _, 3, _, false => exact lrun14 n0 hm0 n1 hm1 L hs hW
  | 1, _, 3, _, true => exact lrun15 n0 hm0 n1 hm1 L hs hW
  | 2, _, 0, _, false => exact lrun16 n0 hm0 n1 hm1 L hs hW
  | 2, _, 0, _, true => exact lrun17 n0 hm0 n1 hm1 L hs hW
  | 2, _, 1, _, false => exact lrun18 n0 hm0 n1 hm1 L hs hW
  | 2, _, 1, _, true => exact lrun19 n0 hm0 n1 hm1 L hs hW
  | 2, _, 2, _, false => exact lrun20 n0 hm0 n1 hm1 L hs hW
  | 2, _, 2, _, true => exact lrun21 n0 hm0 n1 hm1 L hs hW
  | 2, _, 3, _, false => exact lrun22 n0 hm0 n1 hm1 L hs hW
  | 2, _, 3, _, true => exact lrun23 n0 hm0 n1 hm1 L hs hW
  | 3, _, 0, _, false => exact lrun24 n0 hm0 n1 hm1 L hs hW
  | 3, _, 0, _, true => exact lrun25 n0 hm0 n1 hm1 L hs hW
  | 3, _, 1, _, false => exact lrun26 n0 hm0 n1 hm1 L hs hW
  | 3, _, 1, _, true => exact lrun27 n0 hm0 n1 hm1 L hs hW
  | 3, _, 2, _, false => exact lrun28 n0 hm0 n1 hm1 L hs hW
  | 3, _, 2, _, true => exact lrun29 n0 hm0 n1 hm1 L hs hW
  | 3, _, 3, _, false => exact lrun30 n0 hm0 n1 hm1 L hs hW
  | 3, _, 3, _, true => exact lrun31 n0 hm0 n1 hm1 L hs hW
  | k + 4, hk, _, _, _ => exact absurd hk (by simp only [Nat.reducePow]; omega)
  | _, _, k + 4, hk, _ => exact absurd hk (by simp only [Nat.reducePow]; omega)
theorem maskTimes_lifted (os : Os) (started : os.Started) (H : Type) (enc : TypeId × Value → H) :
    ReturnsInHanded {} Tryz.checked os 3 .any (fun w args => (Rows.maskTimesSpec.pre enc Tryz.prog Tryz.f3 [] false w args ∧ laidMetH Tryz.prog Rows.maskTimesRow.laid w) ∧ sizedMet enc Tryz.prog Tryz.f3 (OpenSpec.ofChange Rows.maskTimesSpec) false w args)
      (Rows.maskTimesSpec.post enc Tryz.prog Tryz.f3 false true false false) := by
  refine wrap_shaped (C := Tryz.checked) (X := fun w _ => laidMetH Tryz.prog Rows.maskTimesRow.laid w) (fun _ _ _ hh h => h.of_heap hh) dt_own started (by kernel_rfl) Tryz.func3
    (ChangeSpec.witness_shaped (enc := enc) (C := Tryz.checked) (os := os) (X := fun w _ => laidMetH Tryz.prog Rows.maskTimesRow.laid w) false (World.laidAll Tryz.prog os laidA) #[.int .i64 0, .int .i64 0, .bool false] 8 (World.laidAll_os _ _ _) (World.shaped_of_ZipB (by kernel_rfl) (by kernel_rfl)) (by kernel_rfl) (by kernel_rfl) (by kernel_rfl) (door_metA os _)) ?_
  intro W base args ds gs before hval0 hW hL hsh
  obtain ⟨t_xdb32, t_xdb64, t_xp10, L, hs⟩ := laidA_at hL
  have hval : ∀ (j : Nat) t v, Tryz.f3.params[j]? = some t → args[j]? = some v → Value.okWide Tryz.prog W .any base t v := hval0
  have hW' := hW
  obtain ⟨p, q, hA0, hV, rfl, hfz, hnd⟩ := hW
  have hA : DataW.TrodAll enc Tryz.prog W 0 (fun _ => true) true Tryz.f3.params.toList args.toList ds p := hA0
  rw [Tryz.params3] at hA hval
  obtain ⟨v0, v1, v2, d0, d1, d2, p0, p1, p2, rfl, rfl, rfl, h0, h1, h2⟩ := trodAll_three hA
  obtain ⟨rfl, rfl⟩ := trodVars_none hV
  obtain ⟨n0, rfl, rfl, rfl, wn0⟩ := open_int Tryz.underlying3 (hval 0 3 v0 rfl rfl) h0
  obtain ⟨n1, rfl, rfl, rfl, wn1⟩ := open_int Tryz.underlying3 (hval 1 3 v1 rfl rfl) h1
  obtain ⟨n2, rfl, rfl, rfl⟩ := open_bool Tryz.underlying4 (hval 2 4 v2 rfl rfl) h2
  refine (l_calls n0 n1 n2 L hs (Len.of_shape hsh hs)).mono fun e W' ⟨he, hw⟩ => ?_
  subst he
  exact ⟨_, rfl, _, _, _, [], [], [], hW', trodAll_mk1 (shut_bool Tryz.underlying4 true), trodAll_mk3 (shut_int Tryz.underlying3 wn0) (shut_int Tryz.underlying3 wn1) (shut_bool Tryz.underlying4 n2), rfl, hw.but _, fun h => by cases h⟩


theorem maskTimes_holds : Rows.MaskTimesSaid :=
  OpenClaim.holds_of_wide 3 Tryz.f3 rfl rfl rfl rfl rfl rfl rfl ⟨rfl, rfl, rfl, rfl, rfl⟩ rfl rfl rfl rfl rfl (by kernel_rfl) Tryz.func3 (by kernel_rfl)
    (of_decide_eq_true (by kernel_rfl)) (by unfold Func.isWrapper; first | (rw [if_pos (by decide +kernel)]; kernel_rfl) | (rw [if_neg (by decide +kernel)]; exact ⟨rfl, rfl⟩))
    (fun os started H enc _ => maskTimes_lifted os started H enc)

theorem maskTimes_card_holds : Rows.MaskTimesCardSaid :=
  Claim7.holds_tied_plain_at .later [] [.data, .data, .data, .data, .pinned] true (true, "cb161a5da90cffaffdd799172c73ef6e8a1a3f8e09da03b60521ff82436c4ef4") false
    maskTimes_holds (fun _ h => by cases h) (by kernel_rfl) (fun _ h => by cases h) maskTimes_row_tie rfl ⟨rfl, rfl⟩ (by kernel_rfl) rfl
    (fun f fn hf hfn => by
      obtain rfl : f = 3 := Option.some.inj ((show Tryz.prog.funcNamed "glebe/glebelaw23.MaskTimes" = some 3 by kernel_rfl).symm.trans hf) |>.symm
      obtain rfl : fn = Tryz.f3 := (Option.some.inj (Tryz.func3.symm.trans hfn)).symm
      exact ⟨by kernel_rfl, fun j t ht => by
        rw [Tryz.params3] at ht
        have h3 : t = 3 ∨ t = 4 := by
          match j, ht with
          | 0, ht => simp at ht; subst ht; first | exact .inl rfl | exact .inr rfl | rfl
          | 1, ht => simp at ht; subst ht; first | exact .inl rfl | exact .inr rfl | rfl
          | 2, ht => simp at ht; subst ht; first | exact .inl rfl | exact .inr rfl | rfl
          | j + 3, ht => simp at ht
        rcases h3 with rfl | rfl
        · exact (show Tryz.prog.wantsStandIn 3 = false by kernel_rfl)
        · exact (show Tryz.prog.wantsStandIn 4 = false by kernel_rfl)⟩)
    (by kernel_rfl)
#print axioms maskTimes_card_holds
end Go.Proofs.YtanfmpiidmhobaaGreatDoor
