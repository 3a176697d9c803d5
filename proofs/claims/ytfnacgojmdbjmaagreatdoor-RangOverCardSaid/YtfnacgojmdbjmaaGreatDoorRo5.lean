/- RangForms: at every start, whatever the number, the call returns true; the conditions: the tables that the row lists read as the program lays them. -/
import Derived.Test.YtfnacgojmdbjmaaGreatDoorRows
import Derived.Test.YtfnacgojmdbjmaaGreatDoorCards
import Derived.Test.YtfnacgojmdbjmaaGreatDoorTie
import Derived.Test.YtfnacgojmdbjmaaGreatDoorRo4
import Derived.ChangeSame
import Derived.ProofKit
import Derived.LaidMore
import Derived.OpenShut
import Derived.Stop.Joined
import Derived.HandedShaped
import Derived.Lay
import Derived.Shelf.LaysM
import Derived.Shelf.Strings.Search2
import Derived.Shelf.Strings.Shaped
namespace Go.Proofs
open Go.Shelf
set_option maxRecDepth 100000
def Tryz.lays219_ren : Go.Shelf.Ren := ⟨fun | 219 => 100 | 217 => 111 | 225 => 112 | 224 => 113 | 267 => 114 | 266 => 123 | 314 => 124 | n => n, fun | 9 => 9 | 3 => 3 | 4 => 4 | 5 => 5 | 46 => 39 | 146 => 129 | 51 => 128 | n => n, fun | 1 => 0 | n => n⟩
theorem Tryz.lays219 : Go.Proofs.Lays.n219 Tryz.prog Tryz.lays219_ren := {
  mixed := by kernel_rfl
  f217 := Tryz.func111.trans (congrArg some (by kernel_rfl))
  f219 := Tryz.func100.trans (congrArg some (by kernel_rfl))
  f224 := Tryz.func113.trans (congrArg some (by kernel_rfl))
  f225 := Tryz.func112.trans (congrArg some (by kernel_rfl))
  f266 := Tryz.func123.trans (congrArg some (by kernel_rfl))
  f267 := Tryz.func114.trans (congrArg some (by kernel_rfl))
  f314 := Tryz.func124.trans (congrArg some (by kernel_rfl))
  t3 := Tryz.underlying3
  a3 := Tryz.isAgg3
  z3 := Tryz.sizeOf3
  v3 := Tryz.zeroValue3
  t4 := Tryz.underlying4
  a4 := Tryz.isAgg4
  z4 := Tryz.sizeOf4
  v4 := Tryz.zeroValue4
  t5 := Tryz.underlying5
  a5 := Tryz.isAgg5
  z5 := Tryz.sizeOf5
  v5 := Tryz.zeroValue5
  t9 := Tryz.underlying9
  a9 := Tryz.isAgg9
  z9 := Tryz.sizeOf9
  v9 := Tryz.zeroValue9
  t46 := Tryz.underlying39
  a46 := Tryz.isAgg39
  z46 := Tryz.sizeOf39
  v46 := Tryz.zeroValue39
  t51 := Tryz.underlying128
  a51 := Tryz.isAgg128
  z51 := Tryz.sizeOf128
  v51 := Tryz.zeroValue128
  t146 := Tryz.underlying129
  a146 := Tryz.isAgg129
  z146 := Tryz.sizeOf129
  v146 := Tryz.zeroValue129
  g1 := by kernel_rfl }
def Tryz.laysM219_ren : Go.Shelf.Ren := ⟨fun | 219 => 100 | 217 => 111 | 225 => 112 | 224 => 113 | 267 => 114 | 266 => 123 | 314 => 124 | n => n, fun | 9 => 9 | 3 => 3 | 4 => 4 | 5 => 5 | 46 => 39 | 146 => 129 | 51 => 128 | n => n, fun | 1 => 0 | n => n⟩
theorem Tryz.laysM219 : Go.Proofs.LaysM.n219 Tryz.prog Tryz.laysM219_ren := {
  mixed := by kernel_rfl
  f217 := Tryz.func111.trans (congrArg some (by kernel_rfl))
  f219 := Tryz.func100.trans (congrArg some (by kernel_rfl))
  f224 := Tryz.func113.trans (congrArg some (by kernel_rfl))
  f225 := Tryz.func112.trans (congrArg some (by kernel_rfl))
  f266 := Tryz.func123.trans (congrArg some (by kernel_rfl))
  f267 := Tryz.func114.trans (congrArg some (by kernel_rfl))
  f314 := Tryz.func124.trans (congrArg some (by kernel_rfl))
  t3 := Tryz.underlying3
  a3 := Tryz.isAgg3
  z3 := Tryz.sizeOf3
  v3 := Tryz.zeroValue3
  t4 := Tryz.underlying4
  a4 := Tryz.isAgg4
  z4 := Tryz.sizeOf4
  v4 := Tryz.zeroValue4
  t5 := Tryz.underlying5
  a5 := Tryz.isAgg5
  z5 := Tryz.sizeOf5
  v5 := Tryz.zeroValue5
  t9 := Tryz.underlying9
  a9 := Tryz.isAgg9
  z9 := Tryz.sizeOf9
  v9 := Tryz.zeroValue9
  t46 := Tryz.underlying39
  a46 := Tryz.isAgg39
  z46 := Tryz.sizeOf39
  v46 := Tryz.zeroValue39
  t51 := Tryz.underlying128
  a51 := Tryz.isAgg128
  z51 := Tryz.sizeOf128
  v51 := Tryz.zeroValue128
  t146 := Tryz.underlying129
  a146 := Tryz.isAgg129
  z146 := Tryz.sizeOf129
  v146 := Tryz.zeroValue129
  g1 := by kernel_rfl
  i3 := by kernel_rfl
  i4 := by kernel_rfl
  i5 := by kernel_rfl
  i9 := by kernel_rfl
  i46 := by kernel_rfl
  i51 := by kernel_rfl
  i146 := by kernel_rfl
  m1 := by kernel_rfl
  s1_3 := fun w h => Go.Proofs.cell_of_shapedOpen_int (zero := #[.int .i64 0]) (t := 3) h (of_decide_eq_true (by kernel_rfl)) (by kernel_rfl) rfl (by kernel_rfl) (by kernel_rfl) Tryz.underlying3 }
open Go.RowKit Go.Lib in
theorem Tryz.stringslite_Index (s sub : ByteArray) (m : Int) (w : World) (hs : s.size < 4294967281) (hm : w.cell? ⟨0, 0, none⟩ = some (.int .i64 m)) :
    Calls Tryz.prog 100 #[.string s, .string sub] w fun e w' => e = .returned (.int .i64 (Lib.index s.data.toList sub.data.toList)) ∧ w' = w := Any.stringslite_Index Tryz.lays219 s sub m w hs hm
end Go.Proofs
namespace Go.Proofs.YtfnacgojmdbjmaaGreatDoor
set_option maxRecDepth 100000
open Go.ChangeShapes Go.WideShapes Go.ChangeAt Go.RowKit Go.Det
theorem dt_own : ownKnob Tryz.prog.godebug = none := by kernel_rfl
theorem dt_mixed : Tryz.prog.follows .mixedOrders = true := by kernel_rfl
theorem u_u8 : Tryz.prog.underlying 5 = some (.int .u8) := by kernel_rfl
theorem c_u8 : Tryz.prog.cellsOf 5 = 1 := by kernel_rfl
theorem u_u64 : Tryz.prog.underlying 23 = some (.int .u64) := by kernel_rfl
theorem c_u64 : Tryz.prog.cellsOf 23 = 1 := by kernel_rfl
def db32 : List Int := [0, 1, 28, 2, 29, 14, 24, 3, 30, 22, 20, 15, 25, 17, 4, 8, 31, 27, 13, 23, 21, 19, 16, 7, 26, 12, 18, 6, 11, 5, 10, 9]
theorem db32_flat : flatL (db32.map (Value.int .u8)) = true := by kernel_rfl
theorem g_db32 : Tryz.prog.globalNamed "math/bits.deBruijn32tab" = some 3 := by kernel_rfl
theorem t_db32 : (Tryz.prog.globals[3]?).map (·.type) = some 142 := by kernel_rfl
theorem u_db32 : Tryz.prog.underlying 142 = some (.array 32 5) := by kernel_rfl
theorem c_db32 : Tryz.prog.cellsOf 142 = 32 := by kernel_rfl
def db64 : List Int := [0, 1, 56, 2, 57, 49, 28, 3, 61, 58, 42, 50, 38, 29, 17, 4, 62, 47, 59, 36, 45, 43, 51, 22, 53, 39, 33, 30, 24, 18, 12, 5, 63, 55, 48, 27, 60, 41, 37, 16, 46, 35, 44, 21, 52, 32, 23, 11, 54, 26, 40, 15, 34, 20, 31, 10, 25, 14, 19, 9, 13, 8, 7, 6]
theorem db64_flat : flatL (db64.map (Value.int .u8)) = true := by kernel_rfl
theorem g_db64 : Tryz.prog.globalNamed "math/bits.deBruijn64tab" = some 1 := by kernel_rfl
theorem t_db64 : (Tryz.prog.globals[1]?).map (·.type) = some 127 := by kernel_rfl
theorem u_db64 : Tryz.prog.underlying 127 = some (.array 64 5) := by kernel_rfl
theorem c_db64 : Tryz.prog.cellsOf 127 = 64 := by kernel_rfl
def p10 : List Int := [1, 10, 100, 1000, 10000, 100000, 1000000, 10000000, 100000000, 1000000000, 10000000000, 100000000000, 1000000000000, 10000000000000, 100000000000000, 1000000000000000, 10000000000000000, 100000000000000000, 1000000000000000000, 10000000000000000000]
theorem p10_flat : flatL (p10.map (Value.int .u64)) = true := by kernel_rfl
theorem g_p10 : Tryz.prog.globalNamed "internal/strconv.uint64pow10" = some 2 := by kernel_rfl
theorem t_p10 : (Tryz.prog.globals[2]?).map (·.type) = some 136 := by kernel_rfl
theorem u_p10 : Tryz.prog.underlying 136 = some (.array 20 23) := by kernel_rfl
theorem c_p10 : Tryz.prog.cellsOf 136 = 20 := by kernel_rfl
noncomputable def heapA (t_xdb32 t_xdb64 t_xp10 : TypeId) : Heap := Heap.set (Heap.set (Heap.set ([]) 3 (.cells (db32.map (Value.int .u8)) (2 * t_xdb32) true)) 1 (.cells (db64.map (Value.int .u8)) (2 * t_xdb64) true)) 2 (.cells (p10.map (Value.int .u64)) (2 * t_xp10) true)
abbrev laidA : List (String × DataW Unit) := [("math/bits.deBruijn32tab", Rows.laid_math_bits_deBruijn32tab), ("math/bits.deBruijn64tab", Rows.laid_math_bits_deBruijn64tab), ("internal/strconv.uint64pow10", Rows.laid_internal_strconv_uint64pow10), ("unicode/utf8.acceptRanges", Rows.laid_unicode_utf8_acceptRanges), ("unicode/utf8.first", Rows.laid_unicode_utf8_first)]
theorem g_top : Tryz.prog.globalNamed "unicode/utf8.acceptRanges" = some 5 := by kernel_rfl
theorem laidA_at {W : World} (h : laidMetH Tryz.prog laidA W) : ∃ t_xdb32 t_xdb64 t_xp10, Laying 6 W (heapA t_xdb32 t_xdb64 t_xp10) ∧ 6 ≤ W.heap.size := by
  rw [MakeChecks.laidMetH_plain _ _ _ (by kernel_rfl)] at h
  obtain ⟨ps, ⟨gdb32, ydb32, csdb32, fueldb32, pdb32, qdb32, hgdb32, htdb32, hvdb32, hddb32, ⟨gdb64, ydb64, csdb64, fueldb64, pdb64, qdb64, hgdb64, htdb64, hvdb64, hddb64, ⟨gp10, yp10, csp10, fuelp10, pp10, qp10, hgp10, htp10, hvp10, hdp10, ⟨gM, yM, csM, fuelM, pM, qM, hgM, htM, hvM, hdM, _, _⟩, _⟩, _⟩, _⟩, _⟩ := h
  obtain rfl := Option.some.inj (g_db32.symm.trans hgdb32)
  obtain rfl := Option.some.inj (t_db32.symm.trans htdb32)
  obtain ⟨t_xdb32, fzdb32, hbdb32⟩ := block_of_var g_db32 hvdb32
  obtain rfl := Option.some.inj (g_db64.symm.trans hgdb64)
  obtain rfl := Option.some.inj (t_db64.symm.trans htdb64)
  obtain ⟨t_xdb64, fzdb64, hbdb64⟩ := block_of_var g_db64 hvdb64
  obtain rfl := Option.some.inj (g_p10.symm.trans hgp10)
  obtain rfl := Option.some.inj (t_p10.symm.trans htp10)
  obtain ⟨t_xp10, fzp10, hbp10⟩ := block_of_var g_p10 hvp10
  obtain rfl := Option.some.inj (g_top.symm.trans hgM)
  obtain ⟨t_xM, fzM, hbM⟩ := block_of_var g_top hvM
  have hs : 6 ≤ W.heap.size := block_lt hbM
  have Ldb32 := (Laying.empty (G := 6) hs).lay (by decide) hbdb32 (ints_of_trod u_db32 u_u8 c_u8 c_db32 hddb32) db32_flat
  have Ldb64 := Ldb32.lay (by decide) hbdb64 (ints_of_trod u_db64 u_u8 c_u8 c_db64 hddb64) db64_flat
  have Lp10 := Ldb64.lay (by decide) hbp10 (ints_of_trod u_p10 u_u64 c_u64 c_p10 hdp10) p10_flat
  exact ⟨t_xdb32, t_xdb64, t_xp10, Lp10, hs⟩
theorem door_metA (os : Os) (args : Array Value) : laidMetH Tryz.prog laidA ((World.laidAll Tryz.prog os laidA).forCall (fun _ _ => 0) ⟨#[], args, []⟩).memory := by
  rw [MakeChecks.laidMetH_plain _ _ _ (by kernel_rfl)]
  exact laidMet_laidAll _ (by kernel_rfl) (by kernel_rfl)
def Len (W : World) : Prop := 0 < W.heap.size ∧ ∃ m, W.cell? ⟨0, 0, none⟩ = some (.int .i64 m)
theorem en110 : Entry Tryz.prog 110 add64Entry := Entry.mk (fn := Tryz.f110) Tryz.func110 (by kernel_rfl) (by kernel_rfl) (by kernel_rfl) (by kernel_rfl)
theorem o110 {W : World} (_ : Len W) (G : Nat) : OwnOk Tryz.prog W G 110 (pureD addH) := add64_ok en110
theorem enterI (args : Array Value) (w : World) : (callFunc 100 args).run Tryz.prog w = .ok (.enter 100 args) w :=
  callFunc_run (fn := Tryz.f100) (c := match Tryz.f100.body with | some c => c | none => .skip) Tryz.func100 (by kernel_rfl) (by kernel_rfl) args w
theorem o100 {W : World} (hW : Len W) (G : Nat) : OwnOk Tryz.prog W G 100 (pureD indexH) := by
  refine index_ok enterI hW.1 fun s sub w hw hs => ?_
  obtain ⟨_, m, hm⟩ := hW
  refine Tryz.stringslite_Index s sub m w hs ?_
  rw [← hm]
  unfold World.cell?
  rw [hw]
theorem en128 : Entry Tryz.prog 128 Extern.AbiNoEscape.same := Entry.mk (fn := Tryz.f128) Tryz.func128 (by kernel_rfl) (by kernel_rfl) (by kernel_rfl) (by kernel_rfl)
theorem o128 {W : World} (_ : Len W) (G : Nat) : OwnOk Tryz.prog W G 128 sameD := same_ok en128
theorem en129 : Entry Tryz.prog 129 (Extern.BytealgMakeNoZero.makeNoZero Tryz.f129.params #[22]) := Entry.mk (fn := Tryz.f129) Tryz.func129 (by kernel_rfl) (by kernel_rfl) (by kernel_rfl) (by kernel_rfl)
theorem o129 {W : World} (_ : Len W) (G : Nat) : OwnOk Tryz.prog W G 129 (rawD 5) := raw_ok en129 (show Tryz.prog.underlying 22 = some (.slice 5) by kernel_rfl)
theorem en123 : Entry Tryz.prog 123 Extern.BytealgIndexByte.indexByte := Entry.mk (fn := Tryz.f123) Tryz.func123 (by kernel_rfl) (by kernel_rfl) (by kernel_rfl) (by kernel_rfl)
theorem o123 {W : World} (_ : Len W) (G : Nat) : OwnOk Tryz.prog W G 123 (pureD indexByteH) := indexByte_ok en123
theorem en137 : Entry Tryz.prog 137 Extern.BytealgCount.count := Entry.mk (fn := Tryz.f137) Tryz.func137 (by kernel_rfl) (by kernel_rfl) (by kernel_rfl) (by kernel_rfl)
theorem o137 {W : World} (_ : Len W) (G : Nat) : OwnOk Tryz.prog W G 137 (pureD countByteH) := countByte_ok en137
noncomputable def extsA : List (Nat × Own) := [(100, pureD indexH), (110, pureD addH), (123, pureD indexByteH), (128, sameD), (129, rawD 5), (137, pureD countByteH)]
theorem extsA_tr : IntrTr (extL extsA) := extL_tr fun x hx => by
  simp only [extsA, List.mem_cons, List.not_mem_nil, or_false] at hx
  rcases hx with rfl | rfl | rfl | rfl | rfl | rfl
  · exact pureD_tr _
  · exact pureD_tr _
  · exact pureD_tr _
  · exact sameD_tr
  · exact rawD_tr 5
  · exact pureD_tr _
theorem extsA_ok {W : World} (hW : Len W) (G : Nat) : IntrOk Tryz.prog W G (extL extsA) := extL_ok fun x hx => by
  simp only [extsA, List.mem_cons, List.not_mem_nil, or_false] at hx
  rcases hx with rfl | rfl | rfl | rfl | rfl | rfl
  · exact o100 hW G
  · exact o110 hW G
  · exact o123 hW G
  · exact o128 hW G
  · exact o129 hW G
  · exact o137 hW G
noncomputable def maskA : Nat := 1218540520820572493101426102222558936956927
theorem okA : (Nat.ble (maskA + 1) (Nat.shiftLeft 1 140) && okMask Tryz.prog 6 maskA 140) = true := by kernel_rfl
/-- the wrap of a row that lists variables, the start's shape kept -/
theorem wrap_shaped {H : Type} {enc : TypeId × Value → H} {C : Checked} {os : Os} {f : FuncId} {fn : Func} {s : ChangeSpec} {X : World → Array Value → Prop}
    (hX : ∀ (w w' : World) (args : Array Value), w.heap = w'.heap → X w args → X w' args)
    (own : ownKnob C.prog.godebug = none) (started : os.Started) (noInit : C.prog.inits.idxOf? f = none) (hfn : C.prog.funcs[f]? = some fn)
    (witness : ∃ (w : World) (tape : Tape) (i : Input), w.os = os ∧ (w.forCall tape i).Shaped C.prog ∧ i.vars = [] ∧ Input.okWide C.prog (w.forCall tape i) .any w.heap.size f i ∧
      ((s.pre enc C.prog fn [] false (w.forCall tape i).memory i.args ∧ X (w.forCall tape i).memory i.args) ∧ sizedMet enc C.prog fn (OpenSpec.ofChange s) false (w.forCall tape i).memory i.args) ∧ ({} : Assume).holds C.prog (lone (Frame.enter C.prog f i.args .normal) [] (w.forCall tape i)))
    (contract : ∀ (W : World) (base : Nat) (args : Array Value) (ds gs : List (DataW H)) (before : List MemPlace),
      (∀ (j : Nat) t v, fn.params[j]? = some t → args[j]? = some v → Value.okWide C.prog W .any base t v) →
      DataW.Whole enc C.prog fn.params.toList s.vars false W args.toList ds gs before → X W args → W.ShapedOpen C.prog →
      Calls C.prog f args W fun e W' => ∃ v, e = .returned v ∧ s.post enc C.prog fn false true false false W args v W') :
    ReturnsInHanded {} C os f .any (fun w args => (s.pre enc C.prog fn [] false w args ∧ X w args) ∧ sizedMet enc C.prog fn (OpenSpec.ofChange s) false w args) (s.post enc C.prog fn false true false false) := by
  refine returnsInHanded_of_calls own started noInit witness ?_
  intro w tape i _ hsh _ hok hpre _
  obtain ⟨_, _, _, fn', hfn', _, _, _, _, hval⟩ := hok
  have e : fn' = fn := Option.some.inj (hfn'.symm.trans hfn)
  subst e
  obtain ⟨⟨⟨ds, gs, before, hw, _⟩, hx⟩, _⟩ := hpre
  have hw' := DataW.Whole.of_heap (w' := w.forCall tape i) (by rfl) hw
  refine (contract (w.forCall tape i) w.heap.size i.args ds gs before hval hw' (hX _ _ _ (by rfl) hx) hsh).mono fun e W' ⟨v, he, hp⟩ => ?_
  subst he
  exact ChangeSpec.post_blind hp
theorem Len.of_shape {W : World} (h : W.ShapedOpen Tryz.prog) (hs : 6 ≤ W.heap.size) : Len W := ⟨by omega, Tryz.laysM219.s1_3 W h⟩
theorem Len.later {W w : World} (h : Len W) (h1 : W.heap.size ≤ w.heap.size) (h2 : ∀ b, b < W.heap.size → w.heap[b]? = W.heap[b]?) : Len w := by
  obtain ⟨h0, m, hm⟩ := h
  refine ⟨by omega, m, ?_⟩
  rw [← hm]
  unfold World.cell?
  rw [h2 0 h0]
theorem wakeA_run (t_xdb32 t_xdb64 t_xp10 : TypeId) : isTrue (callD Tryz.prog (mkIntr maskA (extL extsA)) 1000 80 34 [] (birth (heapA t_xdb32 t_xdb64 t_xp10) 64)) = true := by kernel_rfl
theorem wakeA_ok {W : World} {t_xdb32 t_xdb64 t_xp10 : TypeId} (L : Laying 6 W (heapA t_xdb32 t_xdb64 t_xp10)) (hs : 6 ≤ W.heap.size) (hW : Len W) : OwnOk Tryz.prog W 6 34 doneD :=
  done_ok (fn := Tryz.f34) (c := match Tryz.f34.body with | some c => c | none => .skip) L hs (by decide : 6 ≤ 64) dt_mixed okA extsA_tr (fun w h1 h2 => extsA_ok (hW.later h1 h2) 6) Tryz.func34 (by kernel_rfl) (by kernel_rfl) (wakeA_run t_xdb32 t_xdb64 t_xp10)
noncomputable def extsB : List (Nat × Own) := (34, doneD) :: extsA
theorem extsB_tr : IntrTr (extL extsB) := by
  intro f g h
  unfold extsB extL at h
  split at h
  · cases h; exact doneD_tr
  · exact extsA_tr f g h
theorem extsB_ok {W : World} {t_xdb32 t_xdb64 t_xp10 : TypeId} (L : Laying 6 W (heapA t_xdb32 t_xdb64 t_xp10)) (hs : 6 ≤ W.heap.size) (hW : Len W) : IntrOk Tryz.prog W 6 (extL extsB) := by
  intro f g h
  unfold extsB extL at h
  split at h
  · rename_i hb
    cases h
    rw [← Nat.eq_of_beq_eq_true hb]
    exact wakeA_ok L hs hW
  · exact extsA_ok hW 6 f g h
noncomputable def maskB : Nat := 1218540520820572493101426102222541757087743
theorem okB : (Nat.ble (maskB + 1) (Nat.shiftLeft 1 140) && okMask Tryz.prog 6 maskB 140) = true := by kernel_rfl
noncomputable def tb0_22_0 : Tbl := [([.agg #[.int .i64 6, .int .u64 2306139568115548160, .int .u64 0, .int .i64 29]], .bool true),
  ([.agg #[.int .i64 6, .int .u64 2306139568115548160, .int .u64 0, .int .i64 30]], .bool true),
  ([.agg #[.int .i64 6, .int .u64 2306139568115548160, .int .u64 0, .int .i64 31]], .bool true),
  ([.agg #[.int .i64 6, .int .u64 2306139568115548160, .int .u64 0, .int .i64 32]], .bool true),
  ([.agg #[.int .i64 6, .int .u64 2306139568115548160, .int .u64 0, .int .i64 33]], .bool true),
  ([.agg #[.int .i64 6, .int .u64 2306139568115548160, .int .u64 0, .int .i64 34]], .bool true),
  ([.agg #[.int .i64 6, .int .u64 2306139568115548160, .int .u64 0, .int .i64 35]], .bool true),
  ([.agg #[.int .i64 6, .int .u64 2306139568115548160, .int .u64 0, .int .i64 36]], .bool true),
  ([.agg #[.int .i64 6, .int .u64 2306139568115548160, .int .u64 0, .int .i64 37]], .bool true),
  ([.agg #[.int .i64 6, .int .u64 2306139568115548160, .int .u64 0, .int .i64 38]], .bool true),
  ([.agg #[.int .i64 6, .int .u64 2306139568115548160, .int .u64 0, .int .i64 39]], .bool true),
  ([.agg #[.int .i64 6, .int .u64 2306139568115548160, .int .u64 0, .int .i64 40]], .bool true),
  ([.agg #[.int .i64 6, .int .u64 2306139568115548160, .int .u64 0, .int .i64 41]], .bool true),
  ([.agg #[.int .i64 6, .int .u64 2306139568115548160, .int .u64 0, .int .i64 42]], .bool true),
  ([.agg #[.int .i64 6, .int .u64 2306139568115548160, .int .u64 0, .int .i64 43]], .bool true),
  ([.agg #[.int .i64 6, .int .u64 2306139568115548160, .int .u64 0, .int .i64 44]], .bool true),
  ([.agg #[.int .i64 6, .int .u64 2306139568115548160, .int .u64 0, .int .i64 45]], .bool true),
  ([.agg #[.int .i64 6, .int .u64 2306139568115548160, .int .u64 0, .int .i64 46]], .bool true),
  ([.agg #[.int .i64 6, .int .u64 2306139568115548160, .int .u64 0, .int .i64 47]], .bool true),
  ([.agg #[.int .i64 6, .int .u64 2306139568115548160, .int .u64 0, .int .i64 48]], .bool true),
  ([.agg #[.int .i64 6, .int .u64 2306139568115548160, .int .u64 0, .int .i64 49]], .bool true),
  ([.agg #[.int .i64 6, .int .u64 2306139568115548160, .int .u64 0, .int .i64 50]], .bool true),
  ([.agg #[.int .i64 6, .int .u64 2306139568115548160, .int .u64 0, .int .i64 51]], .bool true),
  ([.agg #[.int .i64 6, .int .u64 2306139568115548160, .int .u64 0, .int .i64 52]], .bool true),
  ([.agg #[.int .i64 6, .int .u64 2306139568115548160, .int .u64 0, .int .i64 53]], .bool true),
  ([.agg #[.int .i64 6, .int .u64 2306139568115548160, .int .u64 0, .int .i64 54]], .bool true),
  ([.agg #[.int .i64 6, .int .u64 2306139568115548160, .int .u64 0, .int .i64 55]], .bool true),
  ([.agg #[.int .i64 6, .int .u64 2306139568115548160, .int .u64 0, .int .i64 56]], .bool true),
  ([.agg #[.int .i64 6, .int .u64 2306139568115548160, .int .u64 0, .int .i64 57]], .bool true),
  ([.agg #[.int .i64 6, .int .u64 2306139568115548160, .int .u64 0, .int .i64 58]], .bool true)]
theorem tbo0_22_0 (t_xdb32 t_xdb64 t_xp10 : TypeId) : tabOk (fun args => callD Tryz.prog (mkIntr maskB (extL extsB)) 1000 80 22 args (birth (heapA t_xdb32 t_xdb64 t_xp10) 64)) tb0_22_0 = true := by kernel_rfl
noncomputable def tb0_22_1 : Tbl := [([.agg #[.int .i64 6, .int .u64 2306139568115548160, .int .u64 0, .int .i64 59]], .bool true),
  ([.agg #[.int .i64 6, .int .u64 2306139568115548160, .int .u64 0, .int .i64 60]], .bool true),
  ([.agg #[.int .i64 6, .int .u64 2306139568115548160, .int .u64 0, .int .i64 61]], .bool true),
  ([.agg #[.int .i64 6, .int .u64 2306139568115548160, .int .u64 0, .int .i64 62]], .bool true),
  ([.agg #[.int .i64 6, .int .u64 2306139568115548160, .int .u64 0, .int .i64 63]], .bool true),
  ([.agg #[.int .i64 6, .int .u64 2306139568115548160, .int .u64 0, .int .i64 64]], .bool true),
  ([.agg #[.int .i64 6, .int .u64 2306139568115548160, .int .u64 0, .int .i64 65]], .bool true),
  ([.agg #[.int .i64 6, .int .u64 2306139568115548160, .int .u64 0, .int .i64 66]], .bool true),
  ([.agg #[.int .i64 6, .int .u64 2306139568115548160, .int .u64 0, .int .i64 67]], .bool true),
  ([.agg #[.int .i64 6, .int .u64 2306139568115548160, .int .u64 0, .int .i64 68]], .bool true),
  ([.agg #[.int .i64 6, .int .u64 2306139568115548160, .int .u64 0, .int .i64 69]], .bool true),
  ([.agg #[.int .i64 6, .int .u64 2306139568115548160, .int .u64 0, .int .i64 70]], .bool true),
  ([.agg #[.int .i64 6, .int .u64 2306139568115548160, .int .u64 0, .int .i64 71]], .bool true),
  ([.agg #[.int .i64 6, .int .u64 2306139568115548160, .int .u64 0, .int .i64 72]], .bool true),
  ([.agg #[.int .i64 6, .int .u64 2306139568115548160, .int .u64 0, .int .i64 73]], .bool true),
  ([.agg #[.int .i64 6, .int .u64 2306139568115548160, .int .u64 0, .int .i64 74]], .bool true),
  ([.agg #[.int .i64 6, .int .u64 2306139568115548160, .int .u64 0, .int .i64 75]], .bool true),
  ([.agg #[.int .i64 6, .int .u64 2306139568115548160, .int .u64 0, .int .i64 76]], .bool true),
  ([.agg #[.int .i64 6, .int .u64 2306139568115548160, .int .u64 0, .int .i64 77]], .bool true),
  ([.agg #[.int .i64 6, .int .u64 2306139568115548160, .int .u64 0, .int .i64 78]], .bool true),
  ([.agg #[.int .i64 6, .int .u64 2306139568115548160, .int .u64 0, .int .i64 79]], .bool true),
  ([.agg #[.int .i64 6, .int .u64 2306139568115548160, .int .u64 0, .int .i64 80]], .bool true),
  ([.agg #[.int .i64 6, .int .u64 2306139568115548160, .int .u64 0, .int .i64 81]], .bool true),
  ([.agg #[.int .i64 6, .int .u64 2306139568115548160, .int .u64 0, .int .i64 82]], .bool true),
  ([.agg #[.int .i64 6, .int .u64 2306139568115548160, .int .u64 0, .int .i64 83]], .bool true),
  ([.agg #[.int .i64 6, .int .u64 2306139568115548160, .int .u64 0, .int .i64 84]], .bool true),
  ([.agg #[.int .i64 6, .int .u64 2306139568115548160, .int .u64 0, .int .i64 85]], .bool true),
  ([.agg #[.int .i64 6, .int .u64 2306139568115548160, .int .u64 0, .int .i64 86]], .bool true),
  ([.agg #[.int .i64 6, .int .u64 2306139568115548160, .int .u64 0, .int .i64 87]], .bool true),
  ([.agg #[.int .i64 6, .int .u64 2306139568115548160, .int .u64 0, .int .i64 88]], .bool true)]
theorem tbo0_22_1 (t_xdb32 t_xdb64 t_xp10 : TypeId) : tabOk (fun args => callD Tryz.prog (mkIntr maskB (extL extsB)) 1000 80 22 args (birth (heapA t_xdb32 t_xdb64 t_xp10) 64)) tb0_22_1 = true := by kernel_rfl
noncomputable def tb0_22_2 : Tbl := [([.agg #[.int .i64 6, .int .u64 2306139568115548160, .int .u64 0, .int .i64 89]], .bool true),
  ([.agg #[.int .i64 6, .int .u64 2306139568115548160, .int .u64 0, .int .i64 90]], .bool true),
  ([.agg #[.int .i64 6, .int .u64 2306139568115548160, .int .u64 0, .int .i64 91]], .bool true),
  ([.agg #[.int .i64 6, .int .u64 2306139568115548160, .int .u64 0, .int .i64 92]], .bool true),
  ([.agg #[.int .i64 6, .int .u64 2306139568115548160, .int .u64 0, .int .i64 93]], .bool true),
  ([.agg #[.int .i64 6, .int .u64 2306139568115548160, .int .u64 0, .int .i64 94]], .bool true),
  ([.agg #[.int .i64 6, .int .u64 2306139568115548160, .int .u64 0, .int .i64 95]], .bool true),
  ([.agg #[.int .i64 6, .int .u64 2306139568115548160, .int .u64 0, .int .i64 96]], .bool true),
  ([.agg #[.int .i64 6, .int .u64 2306139568115548160, .int .u64 0, .int .i64 97]], .bool true),
  ([.agg #[.int .i64 6, .int .u64 2306139568115548160, .int .u64 0, .int .i64 98]], .bool true),
  ([.agg #[.int .i64 6, .int .u64 2306139568115548160, .int .u64 0, .int .i64 99]], .bool true),
  ([.agg #[.int .i64 6, .int .u64 2306139568115548160, .int .u64 0, .int .i64 100]], .bool true),
  ([.agg #[.int .i64 6, .int .u64 2306139568115548160, .int .u64 0, .int .i64 101]], .bool true),
  ([.agg #[.int .i64 6, .int .u64 2306139568115548160, .int .u64 0, .int .i64 102]], .bool true),
  ([.agg #[.int .i64 6, .int .u64 2306139568115548160, .int .u64 0, .int .i64 103]], .bool true),
  ([.agg #[.int .i64 6, .int .u64 2306139568115548160, .int .u64 0, .int .i64 104]], .bool true),
  ([.agg #[.int .i64 6, .int .u64 2306139568115548160, .int .u64 0, .int .i64 105]], .bool true),
  ([.agg #[.int .i64 6, .int .u64 2306139568115548160, .int .u64 0, .int .i64 106]], .bool true),
  ([.agg #[.int .i64 6, .int .u64 2306139568115548160, .int .u64 0, .int .i64 107]], .bool true),
  ([.agg #[.int .i64 6, .int .u64 2306139568115548160, .int .u64 0, .int .i64 108]], .bool true),
  ([.agg #[.int .i64 6, .int .u64 2306139568115548160, .int .u64 0, .int .i64 109]], .bool true),
  ([.agg #[.int .i64 6, .int .u64 2306139568115548160, .int .u64 0, .int .i64 110]], .bool true),
  ([.agg #[.int .i64 6, .int .u64 2306139568115548160, .int .u64 0, .int .i64 111]], .bool true),
  ([.agg #[.int .i64 6, .int .u64 2306139568115548160, .int .u64 0, .int .i64 112]], .bool true),
  ([.agg #[.int .i64 6, .int .u64 2306139568115548160, .int .u64 65536, .int .i64 112]], .bool true),
  ([.agg #[.int .i64 6, .int .u64 2306139568115548160, .int .u64 65536, .int .i64 113]], .bool true),
  ([.agg #[.int .i64 6, .int .u64 2306139568115548160, .int .u64 65536, .int .i64 114]], .bool true),
  ([.agg #[.int .i64 6, .int .u64 2306139568115548160, .int .u64 65536, .int .i64 115]], .bool true),
  ([.agg #[.int .i64 6, .int .u64 2306139568115548160, .int .u64 65536, .int .i64 116]], .bool true),
  ([.agg #[.int .i64 6, .int .u64 2306139568115548160, .int .u64 65536, .int .i64 117]], .bool true)]
theorem tbo0_22_2 (t_xdb32 t_xdb64 t_xp10 : TypeId) : tabOk (fun args => callD Tryz.prog (mkIntr maskB (extL extsB)) 1000 80 22 args (birth (heapA t_xdb32 t_xdb64 t_xp10) 64)) tb0_22_2 = true := by kernel_rfl
noncomputable def tb0_22_3 : Tbl := [([.agg #[.int .i64 6, .int .u64 2306139568115548160, .int .u64 65536, .int .i64 118]], .bool true),
  ([.agg #[.int .i64 6, .int .u64 2306139568115548160, .int .u64 65536, .int .i64 119]], .bool true),
  ([.agg #[.int .i64 6, .int .u64 2306139568115548160, .int .u64 65536, .int .i64 120]], .bool true),
  ([.agg #[.int .i64 6, .int .u64 2306139568115548160, .int .u64 65536, .int .i64 121]], .bool true),
  ([.agg #[.int .i64 6, .int .u64 2306139568115548160, .int .u64 65536, .int .i64 122]], .bool true),
  ([.agg #[.int .i64 6, .int .u64 2306139568115548160, .int .u64 65536, .int .i64 123]], .bool true),
  ([.agg #[.int .i64 6, .int .u64 2306139568115548160, .int .u64 65536, .int .i64 124]], .bool true),
  ([.agg #[.int .i64 6, .int .u64 2306139568115548160, .int .u64 65536, .int .i64 125]], .bool true),
  ([.agg #[.int .i64 6, .int .u64 2306139568115548160, .int .u64 65536, .int .i64 126]], .bool true),
  ([.agg #[.int .i64 6, .int .u64 2306139568115548160, .int .u64 65536, .int .i64 127]], .bool true),
  ([.agg #[.int .i64 6, .int .u64 2306139568115548160, .int .u64 65536, .int .i64 128]], .bool true)]
theorem tbo0_22_3 (t_xdb32 t_xdb64 t_xp10 : TypeId) : tabOk (fun args => callD Tryz.prog (mkIntr maskB (extL extsB)) 1000 80 22 args (birth (heapA t_xdb32 t_xdb64 t_xp10) 64)) tb0_22_3 = true := by kernel_rfl
noncomputable def tb0_22 : Tbl := (tb0_22_0 ++ (tb0_22_1 ++ (tb0_22_2 ++ tb0_22_3)))
theorem om0_22 {W : World} {t_xdb32 t_xdb64 t_xp10 : TypeId} (L : Laying 6 W (heapA t_xdb32 t_xdb64 t_xp10)) (hs : 6 ≤ W.heap.size) (hW : Len W) : OwnOk Tryz.prog W 6 22 (tabD tb0_22) :=
  tab_ok (fn := Tryz.f22) (c := match Tryz.f22.body with | some c => c | none => .skip) L hs (by decide : 6 ≤ 64) dt_mixed okB extsB_tr (fun w h1 h2 => extsB_ok (L.move h1 h2 hs) (Nat.le_trans hs h1) (hW.later h1 h2)) Tryz.func22 (by kernel_rfl) (by kernel_rfl) (tabOk_append (tbo0_22_0 t_xdb32 t_xdb64 t_xp10) (tabOk_append (tbo0_22_1 t_xdb32 t_xdb64 t_xp10) (tabOk_append (tbo0_22_2 t_xdb32 t_xdb64 t_xp10) (tbo0_22_3 t_xdb32 t_xdb64 t_xp10))))
noncomputable def tb0_24_0 : Tbl := [([.agg #[.int .i64 6, .int .u64 2306139568115548160, .int .u64 0, .int .i64 29]], .agg #[.int .i64 6, .int .u64 2306139602475286527, .int .u64 18446744073709551615]),
  ([.agg #[.int .i64 6, .int .u64 2306139568115548160, .int .u64 0, .int .i64 30]], .agg #[.int .i64 6, .int .u64 2306139585295417343, .int .u64 18446744073709551615]),
  ([.agg #[.int .i64 6, .int .u64 2306139568115548160, .int .u64 0, .int .i64 31]], .agg #[.int .i64 6, .int .u64 2306139576705482751, .int .u64 18446744073709551615]),
  ([.agg #[.int .i64 6, .int .u64 2306139568115548160, .int .u64 0, .int .i64 32]], .agg #[.int .i64 6, .int .u64 2306139572410515455, .int .u64 18446744073709551615]),
  ([.agg #[.int .i64 6, .int .u64 2306139568115548160, .int .u64 0, .int .i64 33]], .agg #[.int .i64 6, .int .u64 2306139570263031807, .int .u64 18446744073709551615]),
  ([.agg #[.int .i64 6, .int .u64 2306139568115548160, .int .u64 0, .int .i64 34]], .agg #[.int .i64 6, .int .u64 2306139569189289983, .int .u64 18446744073709551615]),
  ([.agg #[.int .i64 6, .int .u64 2306139568115548160, .int .u64 0, .int .i64 35]], .agg #[.int .i64 6, .int .u64 2306139568652419071, .int .u64 18446744073709551615]),
  ([.agg #[.int .i64 6, .int .u64 2306139568115548160, .int .u64 0, .int .i64 36]], .agg #[.int .i64 6, .int .u64 2306139568383983615, .int .u64 18446744073709551615]),
  ([.agg #[.int .i64 6, .int .u64 2306139568115548160, .int .u64 0, .int .i64 37]], .agg #[.int .i64 6, .int .u64 2306139568249765887, .int .u64 18446744073709551615]),
  ([.agg #[.int .i64 6, .int .u64 2306139568115548160, .int .u64 0, .int .i64 38]], .agg #[.int .i64 6, .int .u64 2306139568182657023, .int .u64 18446744073709551615]),
  ([.agg #[.int .i64 6, .int .u64 2306139568115548160, .int .u64 0, .int .i64 39]], .agg #[.int .i64 6, .int .u64 2306139568149102591, .int .u64 18446744073709551615]),
  ([.agg #[.int .i64 6, .int .u64 2306139568115548160, .int .u64 0, .int .i64 40]], .agg #[.int .i64 6, .int .u64 2306139568132325375, .int .u64 18446744073709551615]),
  ([.agg #[.int .i64 6, .int .u64 2306139568115548160, .int .u64 0, .int .i64 41]], .agg #[.int .i64 6, .int .u64 2306139568123936767, .int .u64 18446744073709551615]),
  ([.agg #[.int .i64 6, .int .u64 2306139568115548160, .int .u64 0, .int .i64 42]], .agg #[.int .i64 6, .int .u64 2306139568119742463, .int .u64 18446744073709551615]),
  ([.agg #[.int .i64 6, .int .u64 2306139568115548160, .int .u64 0, .int .i64 43]], .agg #[.int .i64 6, .int .u64 2306139568117645311, .int .u64 18446744073709551615]),
  ([.agg #[.int .i64 6, .int .u64 2306139568115548160, .int .u64 0, .int .i64 44]], .agg #[.int .i64 6, .int .u64 2306139568116596735, .int .u64 18446744073709551615]),
  ([.agg #[.int .i64 6, .int .u64 2306139568115548160, .int .u64 0, .int .i64 45]], .agg #[.int .i64 6, .int .u64 2306139568116072447, .int .u64 18446744073709551615]),
  ([.agg #[.int .i64 6, .int .u64 2306139568115548160, .int .u64 0, .int .i64 46]], .agg #[.int .i64 6, .int .u64 2306139568115810303, .int .u64 18446744073709551615]),
  ([.agg #[.int .i64 6, .int .u64 2306139568115548160, .int .u64 0, .int .i64 47]], .agg #[.int .i64 6, .int .u64 2306139568115679231, .int .u64 18446744073709551615]),
  ([.agg #[.int .i64 6, .int .u64 2306139568115548160, .int .u64 0, .int .i64 48]], .agg #[.int .i64 6, .int .u64 2306139568115613695, .int .u64 18446744073709551615]),
  ([.agg #[.int .i64 6, .int .u64 2306139568115548160, .int .u64 0, .int .i64 49]], .agg #[.int .i64 6, .int .u64 2306139568115580927, .int .u64 18446744073709551615]),
  ([.agg #[.int .i64 6, .int .u64 2306139568115548160, .int .u64 0, .int .i64 50]], .agg #[.int .i64 6, .int .u64 2306139568115564543, .int .u64 18446744073709551615]),
  ([.agg #[.int .i64 6, .int .u64 2306139568115548160, .int .u64 0, .int .i64 51]], .agg #[.int .i64 6, .int .u64 2306139568115556351, .int .u64 18446744073709551615]),
  ([.agg #[.int .i64 6, .int .u64 2306139568115548160, .int .u64 0, .int .i64 52]], .agg #[.int .i64 6, .int .u64 2306139568115552255, .int .u64 18446744073709551615]),
  ([.agg #[.int .i64 6, .int .u64 2306139568115548160, .int .u64 0, .int .i64 53]], .agg #[.int .i64 6, .int .u64 2306139568115550207, .int .u64 18446744073709551615]),
  ([.agg #[.int .i64 6, .int .u64 2306139568115548160, .int .u64 0, .int .i64 54]], .agg #[.int .i64 6, .int .u64 2306139568115549183, .int .u64 18446744073709551615]),
  ([.agg #[.int .i64 6, .int .u64 2306139568115548160, .int .u64 0, .int .i64 55]], .agg #[.int .i64 6, .int .u64 2306139568115548671, .int .u64 18446744073709551615]),
  ([.agg #[.int .i64 6, .int .u64 2306139568115548160, .int .u64 0, .int .i64 56]], .agg #[.int .i64 6, .int .u64 2306139568115548415, .int .u64 18446744073709551615]),
  ([.agg #[.int .i64 6, .int .u64 2306139568115548160, .int .u64 0, .int .i64 57]], .agg #[.int .i64 6, .int .u64 2306139568115548287, .int .u64 18446744073709551615]),
  ([.agg #[.int .i64 6, .int .u64 2306139568115548160, .int .u64 0, .int .i64 58]], .agg #[.int .i64 6, .int .u64 2306139568115548223, .int .u64 18446744073709551615])]
theorem tbo0_24_0 (t_xdb32 t_xdb64 t_xp10 : TypeId) : tabOk (fun args => callD Tryz.prog (mkIntr maskB (extL extsB)) 1000 80 24 args (birth (heapA t_xdb32 t_xdb64 t_xp10) 64)) tb0_24_0 = true := by kernel_rfl
noncomputable def tb0_24_1 : Tbl := [([.agg #[.int .i64 6, .int .u64 2306139568115548160, .int .u64 0, .int .i64 59]], .agg #[.int .i64 6, .int .u64 2306139568115548191, .int .u64 18446744073709551615]),
  ([.agg #[.int .i64 6, .int .u64 2306139568115548160, .int .u64 0, .int .i64 60]], .agg #[.int .i64 6, .int .u64 2306139568115548175, .int .u64 18446744073709551615]),
  ([.agg #[.int .i64 6, .int .u64 2306139568115548160, .int .u64 0, .int .i64 61]], .agg #[.int .i64 6, .int .u64 2306139568115548167, .int .u64 18446744073709551615]),
  ([.agg #[.int .i64 6, .int .u64 2306139568115548160, .int .u64 0, .int .i64 62]], .agg #[.int .i64 6, .int .u64 2306139568115548163, .int .u64 18446744073709551615]),
  ([.agg #[.int .i64 6, .int .u64 2306139568115548160, .int .u64 0, .int .i64 63]], .agg #[.int .i64 6, .int .u64 2306139568115548161, .int .u64 18446744073709551615]),
  ([.agg #[.int .i64 6, .int .u64 2306139568115548160, .int .u64 0, .int .i64 64]], .agg #[.int .i64 6, .int .u64 2306139568115548160, .int .u64 18446744073709551615]),
  ([.agg #[.int .i64 6, .int .u64 2306139568115548160, .int .u64 0, .int .i64 65]], .agg #[.int .i64 6, .int .u64 2306139568115548160, .int .u64 9223372036854775807]),
  ([.agg #[.int .i64 6, .int .u64 2306139568115548160, .int .u64 0, .int .i64 66]], .agg #[.int .i64 6, .int .u64 2306139568115548160, .int .u64 4611686018427387903]),
  ([.agg #[.int .i64 6, .int .u64 2306139568115548160, .int .u64 0, .int .i64 67]], .agg #[.int .i64 6, .int .u64 2306139568115548160, .int .u64 2305843009213693951]),
  ([.agg #[.int .i64 6, .int .u64 2306139568115548160, .int .u64 0, .int .i64 68]], .agg #[.int .i64 6, .int .u64 2306139568115548160, .int .u64 1152921504606846975]),
  ([.agg #[.int .i64 6, .int .u64 2306139568115548160, .int .u64 0, .int .i64 69]], .agg #[.int .i64 6, .int .u64 2306139568115548160, .int .u64 576460752303423487]),
  ([.agg #[.int .i64 6, .int .u64 2306139568115548160, .int .u64 0, .int .i64 70]], .agg #[.int .i64 6, .int .u64 2306139568115548160, .int .u64 288230376151711743]),
  ([.agg #[.int .i64 6, .int .u64 2306139568115548160, .int .u64 0, .int .i64 71]], .agg #[.int .i64 6, .int .u64 2306139568115548160, .int .u64 144115188075855871]),
  ([.agg #[.int .i64 6, .int .u64 2306139568115548160, .int .u64 0, .int .i64 72]], .agg #[.int .i64 6, .int .u64 2306139568115548160, .int .u64 72057594037927935]),
  ([.agg #[.int .i64 6, .int .u64 2306139568115548160, .int .u64 0, .int .i64 73]], .agg #[.int .i64 6, .int .u64 2306139568115548160, .int .u64 36028797018963967]),
  ([.agg #[.int .i64 6, .int .u64 2306139568115548160, .int .u64 0, .int .i64 74]], .agg #[.int .i64 6, .int .u64 2306139568115548160, .int .u64 18014398509481983]),
  ([.agg #[.int .i64 6, .int .u64 2306139568115548160, .int .u64 0, .int .i64 75]], .agg #[.int .i64 6, .int .u64 2306139568115548160, .int .u64 9007199254740991]),
  ([.agg #[.int .i64 6, .int .u64 2306139568115548160, .int .u64 0, .int .i64 76]], .agg #[.int .i64 6, .int .u64 2306139568115548160, .int .u64 4503599627370495]),
  ([.agg #[.int .i64 6, .int .u64 2306139568115548160, .int .u64 0, .int .i64 77]], .agg #[.int .i64 6, .int .u64 2306139568115548160, .int .u64 2251799813685247]),
  ([.agg #[.int .i64 6, .int .u64 2306139568115548160, .int .u64 0, .int .i64 78]], .agg #[.int .i64 6, .int .u64 2306139568115548160, .int .u64 1125899906842623]),
  ([.agg #[.int .i64 6, .int .u64 2306139568115548160, .int .u64 0, .int .i64 79]], .agg #[.int .i64 6, .int .u64 2306139568115548160, .int .u64 562949953421311]),
  ([.agg #[.int .i64 6, .int .u64 2306139568115548160, .int .u64 0, .int .i64 80]], .agg #[.int .i64 6, .int .u64 2306139568115548160, .int .u64 281474976710655]),
  ([.agg #[.int .i64 6, .int .u64 2306139568115548160, .int .u64 0, .int .i64 81]], .agg #[.int .i64 6, .int .u64 2306139568115548160, .int .u64 140737488355327]),
  ([.agg #[.int .i64 6, .int .u64 2306139568115548160, .int .u64 0, .int .i64 82]], .agg #[.int .i64 6, .int .u64 2306139568115548160, .int .u64 70368744177663]),
  ([.agg #[.int .i64 6, .int .u64 2306139568115548160, .int .u64 0, .int .i64 83]], .agg #[.int .i64 6, .int .u64 2306139568115548160, .int .u64 35184372088831]),
  ([.agg #[.int .i64 6, .int .u64 2306139568115548160, .int .u64 0, .int .i64 84]], .agg #[.int .i64 6, .int .u64 2306139568115548160, .int .u64 17592186044415]),
  ([.agg #[.int .i64 6, .int .u64 2306139568115548160, .int .u64 0, .int .i64 85]], .agg #[.int .i64 6, .int .u64 2306139568115548160, .int .u64 8796093022207]),
  ([.agg #[.int .i64 6, .int .u64 2306139568115548160, .int .u64 0, .int .i64 86]], .agg #[.int .i64 6, .int .u64 2306139568115548160, .int .u64 4398046511103]),
  ([.agg #[.int .i64 6, .int .u64 2306139568115548160, .int .u64 0, .int .i64 87]], .agg #[.int .i64 6, .int .u64 2306139568115548160, .int .u64 2199023255551]),
  ([.agg #[.int .i64 6, .int .u64 2306139568115548160, .int .u64 0, .int .i64 88]], .agg #[.int .i64 6, .int .u64 2306139568115548160, .int .u64 1099511627775])]
theorem tbo0_24_1 (t_xdb32 t_xdb64 t_xp10 : TypeId) : tabOk (fun args => callD Tryz.prog (mkIntr maskB (extL extsB)) 1000 80 24 args (birth (heapA t_xdb32 t_xdb64 t_xp10) 64)) tb0_24_1 = true := by kernel_rfl
noncomputable def tb0_24_2 : Tbl := [([.agg #[.int .i64 6, .int .u64 2306139568115548160, .int .u64 0, .int .i64 89]], .agg #[.int .i64 6, .int .u64 2306139568115548160, .int .u64 549755813887]),
  ([.agg #[.int .i64 6, .int .u64 2306139568115548160, .int .u64 0, .int .i64 90]], .agg #[.int .i64 6, .int .u64 2306139568115548160, .int .u64 274877906943]),
  ([.agg #[.int .i64 6, .int .u64 2306139568115548160, .int .u64 0, .int .i64 91]], .agg #[.int .i64 6, .int .u64 2306139568115548160, .int .u64 137438953471]),
  ([.agg #[.int .i64 6, .int .u64 2306139568115548160, .int .u64 0, .int .i64 92]], .agg #[.int .i64 6, .int .u64 2306139568115548160, .int .u64 68719476735]),
  ([.agg #[.int .i64 6, .int .u64 2306139568115548160, .int .u64 0, .int .i64 93]], .agg #[.int .i64 6, .int .u64 2306139568115548160, .int .u64 34359738367]),
  ([.agg #[.int .i64 6, .int .u64 2306139568115548160, .int .u64 0, .int .i64 94]], .agg #[.int .i64 6, .int .u64 2306139568115548160, .int .u64 17179869183]),
  ([.agg #[.int .i64 6, .int .u64 2306139568115548160, .int .u64 0, .int .i64 95]], .agg #[.int .i64 6, .int .u64 2306139568115548160, .int .u64 8589934591]),
  ([.agg #[.int .i64 6, .int .u64 2306139568115548160, .int .u64 0, .int .i64 96]], .agg #[.int .i64 6, .int .u64 2306139568115548160, .int .u64 4294967295]),
  ([.agg #[.int .i64 6, .int .u64 2306139568115548160, .int .u64 0, .int .i64 97]], .agg #[.int .i64 6, .int .u64 2306139568115548160, .int .u64 2147483647]),
  ([.agg #[.int .i64 6, .int .u64 2306139568115548160, .int .u64 0, .int .i64 98]], .agg #[.int .i64 6, .int .u64 2306139568115548160, .int .u64 1073741823]),
  ([.agg #[.int .i64 6, .int .u64 2306139568115548160, .int .u64 0, .int .i64 99]], .agg #[.int .i64 6, .int .u64 2306139568115548160, .int .u64 536870911]),
  ([.agg #[.int .i64 6, .int .u64 2306139568115548160, .int .u64 0, .int .i64 100]], .agg #[.int .i64 6, .int .u64 2306139568115548160, .int .u64 268435455]),
  ([.agg #[.int .i64 6, .int .u64 2306139568115548160, .int .u64 0, .int .i64 101]], .agg #[.int .i64 6, .int .u64 2306139568115548160, .int .u64 134217727]),
  ([.agg #[.int .i64 6, .int .u64 2306139568115548160, .int .u64 0, .int .i64 102]], .agg #[.int .i64 6, .int .u64 2306139568115548160, .int .u64 67108863]),
  ([.agg #[.int .i64 6, .int .u64 2306139568115548160, .int .u64 0, .int .i64 103]], .agg #[.int .i64 6, .int .u64 2306139568115548160, .int .u64 33554431]),
  ([.agg #[.int .i64 6, .int .u64 2306139568115548160, .int .u64 0, .int .i64 104]], .agg #[.int .i64 6, .int .u64 2306139568115548160, .int .u64 16777215]),
  ([.agg #[.int .i64 6, .int .u64 2306139568115548160, .int .u64 0, .int .i64 105]], .agg #[.int .i64 6, .int .u64 2306139568115548160, .int .u64 8388607]),
  ([.agg #[.int .i64 6, .int .u64 2306139568115548160, .int .u64 0, .int .i64 106]], .agg #[.int .i64 6, .int .u64 2306139568115548160, .int .u64 4194303]),
  ([.agg #[.int .i64 6, .int .u64 2306139568115548160, .int .u64 0, .int .i64 107]], .agg #[.int .i64 6, .int .u64 2306139568115548160, .int .u64 2097151]),
  ([.agg #[.int .i64 6, .int .u64 2306139568115548160, .int .u64 0, .int .i64 108]], .agg #[.int .i64 6, .int .u64 2306139568115548160, .int .u64 1048575]),
  ([.agg #[.int .i64 6, .int .u64 2306139568115548160, .int .u64 0, .int .i64 109]], .agg #[.int .i64 6, .int .u64 2306139568115548160, .int .u64 524287]),
  ([.agg #[.int .i64 6, .int .u64 2306139568115548160, .int .u64 0, .int .i64 110]], .agg #[.int .i64 6, .int .u64 2306139568115548160, .int .u64 262143]),
  ([.agg #[.int .i64 6, .int .u64 2306139568115548160, .int .u64 0, .int .i64 111]], .agg #[.int .i64 6, .int .u64 2306139568115548160, .int .u64 131071]),
  ([.agg #[.int .i64 6, .int .u64 2306139568115548160, .int .u64 0, .int .i64 112]], .agg #[.int .i64 6, .int .u64 2306139568115548160, .int .u64 65535]),
  ([.agg #[.int .i64 6, .int .u64 2306139568115548160, .int .u64 65536, .int .i64 112]], .agg #[.int .i64 6, .int .u64 2306139568115548160, .int .u64 131071]),
  ([.agg #[.int .i64 6, .int .u64 2306139568115548160, .int .u64 65536, .int .i64 113]], .agg #[.int .i64 6, .int .u64 2306139568115548160, .int .u64 98303]),
  ([.agg #[.int .i64 6, .int .u64 2306139568115548160, .int .u64 65536, .int .i64 114]], .agg #[.int .i64 6, .int .u64 2306139568115548160, .int .u64 81919]),
  ([.agg #[.int .i64 6, .int .u64 2306139568115548160, .int .u64 65536, .int .i64 115]], .agg #[.int .i64 6, .int .u64 2306139568115548160, .int .u64 73727]),
  ([.agg #[.int .i64 6, .int .u64 2306139568115548160, .int .u64 65536, .int .i64 116]], .agg #[.int .i64 6, .int .u64 2306139568115548160, .int .u64 69631]),
  ([.agg #[.int .i64 6, .int .u64 2306139568115548160, .int .u64 65536, .int .i64 117]], .agg #[.int .i64 6, .int .u64 2306139568115548160, .int .u64 67583])]
theorem tbo0_24_2 (t_xdb32 t_xdb64 t_xp10 : TypeId) : tabOk (fun args => callD Tryz.prog (mkIntr maskB (extL extsB)) 1000 80 24 args (birth (heapA t_xdb32 t_xdb64 t_xp10) 64)) tb0_24_2 = true := by kernel_rfl
noncomputable def tb0_24_3 : Tbl := [([.agg #[.int .i64 6, .int .u64 2306139568115548160, .int .u64 65536, .int .i64 118]], .agg #[.int .i64 6, .int .u64 2306139568115548160, .int .u64 66559]),
  ([.agg #[.int .i64 6, .int .u64 2306139568115548160, .int .u64 65536, .int .i64 119]], .agg #[.int .i64 6, .int .u64 2306139568115548160, .int .u64 66047]),
  ([.agg #[.int .i64 6, .int .u64 2306139568115548160, .int .u64 65536, .int .i64 120]], .agg #[.int .i64 6, .int .u64 2306139568115548160, .int .u64 65791]),
  ([.agg #[.int .i64 6, .int .u64 2306139568115548160, .int .u64 65536, .int .i64 121]], .agg #[.int .i64 6, .int .u64 2306139568115548160, .int .u64 65663]),
  ([.agg #[.int .i64 6, .int .u64 2306139568115548160, .int .u64 65536, .int .i64 122]], .agg #[.int .i64 6, .int .u64 2306139568115548160, .int .u64 65599]),
  ([.agg #[.int .i64 6, .int .u64 2306139568115548160, .int .u64 65536, .int .i64 123]], .agg #[.int .i64 6, .int .u64 2306139568115548160, .int .u64 65567]),
  ([.agg #[.int .i64 6, .int .u64 2306139568115548160, .int .u64 65536, .int .i64 124]], .agg #[.int .i64 6, .int .u64 2306139568115548160, .int .u64 65551]),
  ([.agg #[.int .i64 6, .int .u64 2306139568115548160, .int .u64 65536, .int .i64 125]], .agg #[.int .i64 6, .int .u64 2306139568115548160, .int .u64 65543]),
  ([.agg #[.int .i64 6, .int .u64 2306139568115548160, .int .u64 65536, .int .i64 126]], .agg #[.int .i64 6, .int .u64 2306139568115548160, .int .u64 65539]),
  ([.agg #[.int .i64 6, .int .u64 2306139568115548160, .int .u64 65536, .int .i64 127]], .agg #[.int .i64 6, .int .u64 2306139568115548160, .int .u64 65537]),
  ([.agg #[.int .i64 6, .int .u64 2306139568115548160, .int .u64 65536, .int .i64 128]], .agg #[.int .i64 6, .int .u64 2306139568115548160, .int .u64 65536])]
theorem tbo0_24_3 (t_xdb32 t_xdb64 t_xp10 : TypeId) : tabOk (fun args => callD Tryz.prog (mkIntr maskB (extL extsB)) 1000 80 24 args (birth (heapA t_xdb32 t_xdb64 t_xp10) 64)) tb0_24_3 = true := by kernel_rfl
noncomputable def tb0_24 : Tbl := (tb0_24_0 ++ (tb0_24_1 ++ (tb0_24_2 ++ tb0_24_3)))
theorem om0_24 {W : World} {t_xdb32 t_xdb64 t_xp10 : TypeId} (L : Laying 6 W (heapA t_xdb32 t_xdb64 t_xp10)) (hs : 6 ≤ W.heap.size) (hW : Len W) : OwnOk Tryz.prog W 6 24 (tabD tb0_24) :=
  tab_ok (fn := Tryz.f24) (c := match Tryz.f24.body with | some c => c | none => .skip) L hs (by decide : 6 ≤ 64) dt_mixed okB extsB_tr (fun w h1 h2 => extsB_ok (L.move h1 h2 hs) (Nat.le_trans hs h1) (hW.later h1 h2)) Tryz.func24 (by kernel_rfl) (by kernel_rfl) (tabOk_append (tbo0_24_0 t_xdb32 t_xdb64 t_xp10) (tabOk_append (tbo0_24_1 t_xdb32 t_xdb64 t_xp10) (tabOk_append (tbo0_24_2 t_xdb32 t_xdb64 t_xp10) (tbo0_24_3 t_xdb32 t_xdb64 t_xp10))))
noncomputable def extsC0_22 : List (Nat × Own) := (22, tabD tb0_22) :: extsB
theorem extsC0_22_tr : IntrTr (extL extsC0_22) := by
  intro f g h
  unfold extsC0_22 extL at h
  split at h
  · cases h; exact tabD_tr _
  · exact extsB_tr f g h
theorem extsC0_22_ok {W : World} {t_xdb32 t_xdb64 t_xp10 : TypeId} (L : Laying 6 W (heapA t_xdb32 t_xdb64 t_xp10)) (hs : 6 ≤ W.heap.size) (hW : Len W) : IntrOk Tryz.prog W 6 (extL extsC0_22) := by
  intro f g h
  unfold extsC0_22 extL at h
  split at h
  · rename_i hb
    cases h
    rw [← Nat.eq_of_beq_eq_true hb]
    exact om0_22 L hs hW
  · exact extsB_ok L hs hW f g h
noncomputable def extsC0_24 : List (Nat × Own) := (24, tabD tb0_24) :: extsC0_22
theorem extsC0_24_tr : IntrTr (extL extsC0_24) := by
  intro f g h
  unfold extsC0_24 extL at h
  split at h
  · cases h; exact tabD_tr _
  · exact extsC0_22_tr f g h
theorem extsC0_24_ok {W : World} {t_xdb32 t_xdb64 t_xp10 : TypeId} (L : Laying 6 W (heapA t_xdb32 t_xdb64 t_xp10)) (hs : 6 ≤ W.heap.size) (hW : Len W) : IntrOk Tryz.prog W 6 (extL extsC0_24) := by
  intro f g h
  unfold extsC0_24 extL at h
  split at h
  · rename_i hb
    cases h
    rw [← Nat.eq_of_beq_eq_true hb]
    exact om0_24 L hs hW
  · exact extsC0_22_ok L hs hW f g h
noncomputable def maskC0 : Nat := 1218540520820572493101426102222541736116223
theorem okC0 : (Nat.ble (maskC0 + 1) (Nat.shiftLeft 1 140) && okMask Tryz.prog 6 maskC0 140) = true := by kernel_rfl
end Go.Proofs.YtfnacgojmdbjmaaGreatDoor
