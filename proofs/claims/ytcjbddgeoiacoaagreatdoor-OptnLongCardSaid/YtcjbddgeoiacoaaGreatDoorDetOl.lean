/- OptnLong: at every start, whatever the number, the call returns true; the conditions: the tables that the row lists read as the program lays them. -/
import Derived.Test.YtcjbddgeoiacoaaGreatDoorRows
import Derived.Test.YtcjbddgeoiacoaaGreatDoorCards
import Derived.Test.YtcjbddgeoiacoaaGreatDoorTie
import Derived.Test.YtcjbddgeoiacoaaGreatDoorDetIntr3
import Derived.Test.YtcjbddgeoiacoaaGreatDoorDetOnce
import Derived.ChangeSame
import Derived.ProofKit
import Derived.LaidMore
import Derived.OpenShut
import Derived.Stop.Joined
import Derived.HandedShaped
import Derived.Lay
import Derived.Shelf.LaysM
import Derived.Shelf.Strings.Search2
import Derived.Shelf.Strings.Shaped
namespace Go.Proofs
open Go.Shelf
set_option maxRecDepth 100000
def Tryz.lays219_ren : Go.Shelf.Ren := ⟨fun | 219 => 80 | 217 => 100 | 225 => 101 | 224 => 102 | 267 => 103 | 266 => 121 | 314 => 122 | n => n, fun | 9 => 9 | 3 => 3 | 4 => 4 | 5 => 5 | 46 => 47 | 146 => 155 | 51 => 61 | n => n, fun | 1 => 0 | n => n⟩
theorem Tryz.lays219 : Go.Proofs.Lays.n219 Tryz.prog Tryz.lays219_ren := {
  mixed := by kernel_rfl
  f217 := Tryz.func100.trans (congrArg some (by kernel_rfl))
  f219 := Tryz.func80.trans (congrArg some (by kernel_rfl))
  f224 := Tryz.func102.trans (congrArg some (by kernel_rfl))
  f225 := Tryz.func101.trans (congrArg some (by kernel_rfl))
  f266 := Tryz.func121.trans (congrArg some (by kernel_rfl))
  f267 := Tryz.func103.trans (congrArg some (by kernel_rfl))
  f314 := Tryz.func122.trans (congrArg some (by kernel_rfl))
  t3 := Tryz.underlying3
  a3 := Tryz.isAgg3
  z3 := Tryz.sizeOf3
  v3 := Tryz.zeroValue3
  t4 := Tryz.underlying4
  a4 := Tryz.isAgg4
  z4 := Tryz.sizeOf4
  v4 := Tryz.zeroValue4
  t5 := Tryz.underlying5
  a5 := Tryz.isAgg5
  z5 := Tryz.sizeOf5
  v5 := Tryz.zeroValue5
  t9 := Tryz.underlying9
  a9 := Tryz.isAgg9
  z9 := Tryz.sizeOf9
  v9 := Tryz.zeroValue9
  t46 := Tryz.underlying47
  a46 := Tryz.isAgg47
  z46 := Tryz.sizeOf47
  v46 := Tryz.zeroValue47
  t51 := Tryz.underlying61
  a51 := Tryz.isAgg61
  z51 := Tryz.sizeOf61
  v51 := Tryz.zeroValue61
  t146 := Tryz.underlying155
  a146 := Tryz.isAgg155
  z146 := Tryz.sizeOf155
  v146 := Tryz.zeroValue155
  g1 := by kernel_rfl }
def Tryz.laysM219_ren : Go.Shelf.Ren := ⟨fun | 219 => 80 | 217 => 100 | 225 => 101 | 224 => 102 | 267 => 103 | 266 => 121 | 314 => 122 | n => n, fun | 9 => 9 | 3 => 3 | 4 => 4 | 5 => 5 | 46 => 47 | 146 => 155 | 51 => 61 | n => n, fun | 1 => 0 | n => n⟩
theorem Tryz.laysM219 : Go.Proofs.LaysM.n219 Tryz.prog Tryz.laysM219_ren := {
  mixed := by kernel_rfl
  f217 := Tryz.func100.trans (congrArg some (by kernel_rfl))
  f219 := Tryz.func80.trans (congrArg some (by kernel_rfl))
  f224 := Tryz.func102.trans (congrArg some (by kernel_rfl))
  f225 := Tryz.func101.trans (congrArg some (by kernel_rfl))
  f266 := Tryz.func121.trans (congrArg some (by kernel_rfl))
  f267 := Tryz.func103.trans (congrArg some (by kernel_rfl))
  f314 := Tryz.func122.trans (congrArg some (by kernel_rfl))
  t3 := Tryz.underlying3
  a3 := Tryz.isAgg3
  z3 := Tryz.sizeOf3
  v3 := Tryz.zeroValue3
  t4 := Tryz.underlying4
  a4 := Tryz.isAgg4
  z4 := Tryz.sizeOf4
  v4 := Tryz.zeroValue4
  t5 := Tryz.underlying5
  a5 := Tryz.isAgg5
  z5 := Tryz.sizeOf5
  v5 := Tryz.zeroValue5
  t9 := Tryz.underlying9
  a9 := Tryz.isAgg9
  z9 := Tryz.sizeOf9
  v9 := Tryz.zeroValue9
  t46 := Tryz.underlying47
  a46 := Tryz.isAgg47
  z46 := Tryz.sizeOf47
  v46 := Tryz.zeroValue47
  t51 := Tryz.underlying61
  a51 := Tryz.isAgg61
  z51 := Tryz.sizeOf61
  v51 := Tryz.zeroValue61
  t146 := Tryz.underlying155
  a146 := Tryz.isAgg155
  z146 := Tryz.sizeOf155
  v146 := Tryz.zeroValue155
  g1 := by kernel_rfl
  i3 := by kernel_rfl
  i4 := by kernel_rfl
  i5 := by kernel_rfl
  i9 := by kernel_rfl
  i46 := by kernel_rfl
  i51 := by kernel_rfl
  i146 := by kernel_rfl
  m1 := by kernel_rfl
  s1_3 := fun w h => Go.Proofs.cell_of_shapedOpen_int (zero := #[.int .i64 0]) (t := 3) h (of_decide_eq_true (by kernel_rfl)) (by kernel_rfl) rfl (by kernel_rfl) (by kernel_rfl) Tryz.underlying3 }
open Go.RowKit Go.Lib in
theorem Tryz.stringslite_Index (s sub : ByteArray) (m : Int) (w : World) (hs : s.size < 4294967281) (hm : w.cell? ⟨0, 0, none⟩ = some (.int .i64 m)) :
    Calls Tryz.prog 80 #[.string s, .string sub] w fun e w' => e = .returned (.int .i64 (Lib.index s.data.toList sub.data.toList)) ∧ w' = w := Any.stringslite_Index Tryz.lays219 s sub m w hs hm
end Go.Proofs
namespace Go.Proofs.YtcjbddgeoiacoaaGreatDoor
set_option maxRecDepth 100000
open Go.ChangeShapes Go.WideShapes Go.ChangeAt Go.RowKit Go.Det
theorem dt_own : ownKnob Tryz.prog.godebug = none := by kernel_rfl
theorem dt_mixed : Tryz.prog.follows .mixedOrders = true := by kernel_rfl
theorem u_u8 : Tryz.prog.underlying 5 = some (.int .u8) := by kernel_rfl
theorem c_u8 : Tryz.prog.cellsOf 5 = 1 := by kernel_rfl
theorem u_u64 : Tryz.prog.underlying 45 = some (.int .u64) := by kernel_rfl
theorem c_u64 : Tryz.prog.cellsOf 45 = 1 := by kernel_rfl
def db32 : List Int := [0, 1, 28, 2, 29, 14, 24, 3, 30, 22, 20, 15, 25, 17, 4, 8, 31, 27, 13, 23, 21, 19, 16, 7, 26, 12, 18, 6, 11, 5, 10, 9]
theorem db32_flat : flatL (db32.map (Value.int .u8)) = true := by kernel_rfl
theorem g_db32 : Tryz.prog.globalNamed "math/bits.deBruijn32tab" = some 4 := by kernel_rfl
theorem t_db32 : (Tryz.prog.globals[4]?).map (·.type) = some 161 := by kernel_rfl
theorem u_db32 : Tryz.prog.underlying 161 = some (.array 32 5) := by kernel_rfl
theorem c_db32 : Tryz.prog.cellsOf 161 = 32 := by kernel_rfl
def db64 : List Int := [0, 1, 56, 2, 57, 49, 28, 3, 61, 58, 42, 50, 38, 29, 17, 4, 62, 47, 59, 36, 45, 43, 51, 22, 53, 39, 33, 30, 24, 18, 12, 5, 63, 55, 48, 27, 60, 41, 37, 16, 46, 35, 44, 21, 52, 32, 23, 11, 54, 26, 40, 15, 34, 20, 31, 10, 25, 14, 19, 9, 13, 8, 7, 6]
theorem db64_flat : flatL (db64.map (Value.int .u8)) = true := by kernel_rfl
theorem g_db64 : Tryz.prog.globalNamed "math/bits.deBruijn64tab" = some 5 := by kernel_rfl
theorem t_db64 : (Tryz.prog.globals[5]?).map (·.type) = some 162 := by kernel_rfl
theorem u_db64 : Tryz.prog.underlying 162 = some (.array 64 5) := by kernel_rfl
theorem c_db64 : Tryz.prog.cellsOf 162 = 64 := by kernel_rfl
def p10 : List Int := [1, 10, 100, 1000, 10000, 100000, 1000000, 10000000, 100000000, 1000000000, 10000000000, 100000000000, 1000000000000, 10000000000000, 100000000000000, 1000000000000000, 10000000000000000, 100000000000000000, 1000000000000000000, 10000000000000000000]
theorem p10_flat : flatL (p10.map (Value.int .u64)) = true := by kernel_rfl
theorem g_p10 : Tryz.prog.globalNamed "internal/strconv.uint64pow10" = some 1 := by kernel_rfl
theorem t_p10 : (Tryz.prog.globals[1]?).map (·.type) = some 148 := by kernel_rfl
theorem u_p10 : Tryz.prog.underlying 148 = some (.array 20 45) := by kernel_rfl
theorem c_p10 : Tryz.prog.cellsOf 148 = 20 := by kernel_rfl
noncomputable def heapA (t_xdb32 t_xdb64 t_xp10 : TypeId) : Heap := Heap.set (Heap.set (Heap.set ([]) 4 (.cells (db32.map (Value.int .u8)) (2 * t_xdb32) true)) 5 (.cells (db64.map (Value.int .u8)) (2 * t_xdb64) true)) 1 (.cells (p10.map (Value.int .u64)) (2 * t_xp10) true)
abbrev laidA : List (String × DataW Unit) := [("math/bits.deBruijn32tab", Rows.laid_math_bits_deBruijn32tab), ("math/bits.deBruijn64tab", Rows.laid_math_bits_deBruijn64tab), ("internal/strconv.uint64pow10", Rows.laid_internal_strconv_uint64pow10), ("unicode/utf8.acceptRanges", Rows.laid_unicode_utf8_acceptRanges), ("unicode/utf8.first", Rows.laid_unicode_utf8_first)]
theorem laidA_at {W : World} (h : laidMetH Tryz.prog laidA W) : ∃ t_xdb32 t_xdb64 t_xp10, Laying 6 W (heapA t_xdb32 t_xdb64 t_xp10) ∧ 6 ≤ W.heap.size := by
  rw [MakeChecks.laidMetH_plain _ _ _ (by kernel_rfl)] at h
  obtain ⟨ps, ⟨gdb32, ydb32, csdb32, fueldb32, pdb32, qdb32, hgdb32, htdb32, hvdb32, hddb32, ⟨gdb64, ydb64, csdb64, fueldb64, pdb64, qdb64, hgdb64, htdb64, hvdb64, hddb64, ⟨gp10, yp10, csp10, fuelp10, pp10, qp10, hgp10, htp10, hvp10, hdp10, _, _⟩, _⟩, _⟩, _⟩ := h
  obtain rfl := Option.some.inj (g_db32.symm.trans hgdb32)
  obtain rfl := Option.some.inj (t_db32.symm.trans htdb32)
  obtain ⟨t_xdb32, fzdb32, hbdb32⟩ := block_of_var g_db32 hvdb32
  obtain rfl := Option.some.inj (g_db64.symm.trans hgdb64)
  obtain rfl := Option.some.inj (t_db64.symm.trans htdb64)
  obtain ⟨t_xdb64, fzdb64, hbdb64⟩ := block_of_var g_db64 hvdb64
  obtain rfl := Option.some.inj (g_p10.symm.trans hgp10)
  obtain rfl := Option.some.inj (t_p10.symm.trans htp10)
  obtain ⟨t_xp10, fzp10, hbp10⟩ := block_of_var g_p10 hvp10
  have hs : 6 ≤ W.heap.size := block_lt hbdb64
  have Ldb32 := (Laying.empty (G := 6) hs).lay (by decide) hbdb32 (ints_of_trod u_db32 u_u8 c_u8 c_db32 hddb32) db32_flat
  have Ldb64 := Ldb32.lay (by decide) hbdb64 (ints_of_trod u_db64 u_u8 c_u8 c_db64 hddb64) db64_flat
  have Lp10 := Ldb64.lay (by decide) hbp10 (ints_of_trod u_p10 u_u64 c_u64 c_p10 hdp10) p10_flat
  exact ⟨t_xdb32, t_xdb64, t_xp10, Lp10, hs⟩
theorem door_metA (os : Os) (args : Array Value) : laidMetH Tryz.prog laidA ((World.laidAll Tryz.prog os laidA).forCall (fun _ _ => 0) ⟨#[], args, []⟩).memory := by
  rw [MakeChecks.laidMetH_plain _ _ _ (by kernel_rfl)]
  exact laidMet_laidAll _ (by kernel_rfl) (by kernel_rfl)
def Len (W : World) : Prop := 0 < W.heap.size ∧ ∃ m, W.cell? ⟨0, 0, none⟩ = some (.int .i64 m)
theorem enterI (args : Array Value) (w : World) : (callFunc 80 args).run Tryz.prog w = .ok (.enter 80 args) w :=
  callFunc_run (fn := Tryz.f80) (c := match Tryz.f80.body with | some c => c | none => .skip) Tryz.func80 (by kernel_rfl) (by kernel_rfl) args w
theorem o80 {W : World} (hW : Len W) (G : Nat) : OwnOk Tryz.prog W G 80 (pureD indexH) := by
  refine index_ok enterI hW.1 fun s sub w hw hs => ?_
  obtain ⟨_, m, hm⟩ := hW
  refine Tryz.stringslite_Index s sub m w hs ?_
  rw [← hm]
  unfold World.cell?
  rw [hw]
theorem en114 : Entry Tryz.prog 114 Extern.AbiNoEscape.same := Entry.mk (fn := Tryz.f114) Tryz.func114 (by kernel_rfl) (by kernel_rfl) (by kernel_rfl) (by kernel_rfl)
theorem o114 {W : World} (_ : Len W) (G : Nat) : OwnOk Tryz.prog W G 114 sameD := same_ok en114
theorem en115 : Entry Tryz.prog 115 (Extern.BytealgMakeNoZero.makeNoZero Tryz.f115.params #[42]) := Entry.mk (fn := Tryz.f115) Tryz.func115 (by kernel_rfl) (by kernel_rfl) (by kernel_rfl) (by kernel_rfl)
theorem o115 {W : World} (_ : Len W) (G : Nat) : OwnOk Tryz.prog W G 115 (rawD 5) := raw_ok en115 (show Tryz.prog.underlying 42 = some (.slice 5) by kernel_rfl)
theorem en121 : Entry Tryz.prog 121 Extern.BytealgIndexByte.indexByte := Entry.mk (fn := Tryz.f121) Tryz.func121 (by kernel_rfl) (by kernel_rfl) (by kernel_rfl) (by kernel_rfl)
theorem o121 {W : World} (_ : Len W) (G : Nat) : OwnOk Tryz.prog W G 121 (pureD indexByteH) := indexByte_ok en121
theorem en79 : Entry Tryz.prog 79 Extern.BytealgCount.count := Entry.mk (fn := Tryz.f79) Tryz.func79 (by kernel_rfl) (by kernel_rfl) (by kernel_rfl) (by kernel_rfl)
theorem o79 {W : World} (_ : Len W) (G : Nat) : OwnOk Tryz.prog W G 79 (pureD countByteH) := countByte_ok en79
theorem en85 : Entry Tryz.prog 85 Extern.BytealgCompare.compare := Entry.mk (fn := Tryz.f85) Tryz.func85 (by kernel_rfl) (by kernel_rfl) (by kernel_rfl) (by kernel_rfl)
theorem o85 {W : World} (_ : Len W) (G : Nat) : OwnOk Tryz.prog W G 85 (pureD cmpH) := cmp_ok en85
theorem o13 {W : World} (_ : Len W) (G : Nat) : OwnOk Tryz.prog W G 13 allD := all_ok
noncomputable def extsA : List (Nat × Own) := [(13, allD), (79, pureD countByteH), (80, pureD indexH), (85, pureD cmpH), (114, sameD), (115, rawD 5), (121, pureD indexByteH)]
theorem extsA_tr : IntrTr (extL extsA) := extL_tr fun x hx => by
  simp only [extsA, List.mem_cons, List.not_mem_nil, or_false] at hx
  rcases hx with rfl | rfl | rfl | rfl | rfl | rfl | rfl
  · exact allD_tr
  · exact pureD_tr _
  · exact pureD_tr _
  · exact pureD_tr _
  · exact sameD_tr
  · exact rawD_tr 5
  · exact pureD_tr _
theorem extsA_ok {W : World} (hW : Len W) (G : Nat) : IntrOk Tryz.prog W G (extL extsA) := extL_ok fun x hx => by
  simp only [extsA, List.mem_cons, List.not_mem_nil, or_false] at hx
  rcases hx with rfl | rfl | rfl | rfl | rfl | rfl | rfl
  · exact o13 hW G
  · exact o79 hW G
  · exact o80 hW G
  · exact o85 hW G
  · exact o114 hW G
  · exact o115 hW G
  · exact o121 hW G
noncomputable def maskA : Nat := 43553419281659220394965929316794798956543
theorem okA : (Nat.ble (maskA + 1) (Nat.shiftLeft 1 135) && okMask Tryz.prog 6 maskA 135) = true := by kernel_rfl
/-- the wrap of a row that lists variables, the start's shape kept -/
theorem wrap_shaped {H : Type} {enc : TypeId × Value → H} {C : Checked} {os : Os} {f : FuncId} {fn : Func} {s : ChangeSpec} {X : World → Array Value → Prop}
    (hX : ∀ (w w' : World) (args : Array Value), w.heap = w'.heap → X w args → X w' args)
    (own : ownKnob C.prog.godebug = none) (started : os.Started) (noInit : C.prog.inits.idxOf? f = none) (hfn : C.prog.funcs[f]? = some fn)
    (witness : ∃ (w : World) (tape : Tape) (i : Input), w.os = os ∧ (w.forCall tape i).Shaped C.prog ∧ i.vars = [] ∧ Input.okWide C.prog (w.forCall tape i) .any w.heap.size f i ∧
      ((s.pre enc C.prog fn [] false (w.forCall tape i).memory i.args ∧ X (w.forCall tape i).memory i.args) ∧ sizedMet enc C.prog fn (OpenSpec.ofChange s) false (w.forCall tape i).memory i.args) ∧ ({} : Assume).holds C.prog (lone (Frame.enter C.prog f i.args .normal) [] (w.forCall tape i)))
    (contract : ∀ (W : World) (base : Nat) (args : Array Value) (ds gs : List (DataW H)) (before : List MemPlace),
      (∀ (j : Nat) t v, fn.params[j]? = some t → args[j]? = some v → Value.okWide C.prog W .any base t v) →
      DataW.Whole enc C.prog fn.params.toList s.vars false W args.toList ds gs before → X W args → W.ShapedOpen C.prog →
      Calls C.prog f args W fun e W' => ∃ v, e = .returned v ∧ s.post enc C.prog fn false true false false W args v W') :
    ReturnsInHanded {} C os f .any (fun w args => (s.pre enc C.prog fn [] false w args ∧ X w args) ∧ sizedMet enc C.prog fn (OpenSpec.ofChange s) false w args) (s.post enc C.prog fn false true false false) := by
  refine returnsInHanded_of_calls own started noInit witness ?_
  intro w tape i _ hsh _ hok hpre _
  obtain ⟨_, _, _, fn', hfn', _, _, _, _, hval⟩ := hok
  have e : fn' = fn := Option.some.inj (hfn'.symm.trans hfn)
  subst e
  obtain ⟨⟨⟨ds, gs, before, hw, _⟩, hx⟩, _⟩ := hpre
  have hw' := DataW.Whole.of_heap (w' := w.forCall tape i) (by rfl) hw
  refine (contract (w.forCall tape i) w.heap.size i.args ds gs before hval hw' (hX _ _ _ (by rfl) hx) hsh).mono fun e W' ⟨v, he, hp⟩ => ?_
  subst he
  exact ChangeSpec.post_blind hp
theorem Len.of_shape {W : World} (h : W.ShapedOpen Tryz.prog) (hs : 6 ≤ W.heap.size) : Len W := ⟨by omega, Tryz.laysM219.s1_3 W h⟩
theorem Len.later {W w : World} (h : Len W) (h1 : W.heap.size ≤ w.heap.size) (h2 : ∀ b, b < W.heap.size → w.heap[b]? = W.heap[b]?) : Len w := by
  obtain ⟨h0, m, hm⟩ := h
  refine ⟨by omega, m, ?_⟩
  rw [← hm]
  unfold World.cell?
  rw [h2 0 h0]
noncomputable def tm_58_0 : Tbl := [([.int .i64 4, .string ⟨#[49, 48, 46, 48, 46, 48, 46, 49]⟩], .tuple #[.string ⟨#[49, 48, 46, 48, 46, 48, 46, 49]⟩, .bool true]),
  ([.int .i64 4, .string ⟨#[49, 48, 46, 48, 46, 48, 46, 50]⟩], .tuple #[.string ⟨#[49, 48, 46, 48, 46, 48, 46, 50]⟩, .bool true]),
  ([.int .i64 4, .string ⟨#[58, 58, 49]⟩], .tuple #[.string ⟨#[]⟩, .bool false]),
  ([.int .i64 6, .string ⟨#[50, 48, 48, 49, 58, 68, 66, 56, 58, 48, 58, 48, 58, 48, 58, 48, 58, 48, 58, 49]⟩], .tuple #[.string ⟨#[50, 48, 48, 49, 58, 100, 98, 56, 58, 58, 49]⟩, .bool true]),
  ([.int .i64 6, .string ⟨#[50, 48, 48, 49, 58, 68, 66, 56, 58, 48, 58, 48, 58, 48, 58, 48, 58, 48, 58, 50]⟩], .tuple #[.string ⟨#[50, 48, 48, 49, 58, 100, 98, 56, 58, 58, 50]⟩, .bool true]),
  ([.int .i64 6, .string ⟨#[50, 48, 48, 49, 58, 68, 66, 56, 58, 48, 58, 48, 58, 48, 58, 48, 58, 48, 58, 51]⟩], .tuple #[.string ⟨#[50, 48, 48, 49, 58, 100, 98, 56, 58, 58, 51]⟩, .bool true]),
  ([.int .i64 6, .string ⟨#[50, 48, 48, 49, 58, 68, 66, 56, 58, 48, 58, 48, 58, 48, 58, 48, 58, 48, 58, 52]⟩], .tuple #[.string ⟨#[50, 48, 48, 49, 58, 100, 98, 56, 58, 58, 52]⟩, .bool true]),
  ([.int .i64 6, .string ⟨#[50, 48, 48, 49, 58, 68, 66, 56, 58, 48, 58, 48, 58, 48, 58, 48, 58, 48, 58, 53]⟩], .tuple #[.string ⟨#[50, 48, 48, 49, 58, 100, 98, 56, 58, 58, 53]⟩, .bool true]),
  ([.int .i64 6, .string ⟨#[50, 48, 48, 49, 58, 68, 66, 56, 58, 48, 58, 48, 58, 48, 58, 48, 58, 48, 58, 54]⟩], .tuple #[.string ⟨#[50, 48, 48, 49, 58, 100, 98, 56, 58, 58, 54]⟩, .bool true]),
  ([.int .i64 6, .string ⟨#[50, 48, 48, 49, 58, 68, 66, 56, 58, 48, 58, 48, 58, 48, 58, 48, 58, 48, 58, 55]⟩], .tuple #[.string ⟨#[50, 48, 48, 49, 58, 100, 98, 56, 58, 58, 55]⟩, .bool true])]
theorem tmo_58_0 (t_xdb32 t_xdb64 t_xp10 : TypeId) : tabOk (fun args => callD Tryz.prog (mkIntr maskA (extL extsA)) 1000 80 58 args (birth (heapA t_xdb32 t_xdb64 t_xp10) 64)) tm_58_0 = true := by kernel_rfl
noncomputable def tm_58 : Tbl := tm_58_0
theorem otm_58 {W : World} {t_xdb32 t_xdb64 t_xp10 : TypeId} (L : Laying 6 W (heapA t_xdb32 t_xdb64 t_xp10)) (hs : 6 ≤ W.heap.size) (hW : Len W) : OwnOk Tryz.prog W 6 58 (tabD tm_58) :=
  tab_ok (fn := Tryz.f58) (c := match Tryz.f58.body with | some c => c | none => .skip) L hs (by decide : 6 ≤ 64) dt_mixed okA extsA_tr (fun w h1 h2 => extsA_ok (hW.later h1 h2) 6) Tryz.func58 (by kernel_rfl) (by kernel_rfl) (tmo_58_0 t_xdb32 t_xdb64 t_xp10)
theorem extsA_ok2 {W : World} {t_xdb32 t_xdb64 t_xp10 : TypeId} (_ : Laying 6 W (heapA t_xdb32 t_xdb64 t_xp10)) (_ : 6 ≤ W.heap.size) (hW : Len W) : IntrOk Tryz.prog W 6 (extL extsA) := extsA_ok hW 6
noncomputable def extsM58 : List (Nat × Own) := (58, tabD tm_58) :: extsA
theorem extsM58_tr : IntrTr (extL extsM58) := by
  intro f g h
  unfold extsM58 extL at h
  split at h
  · cases h; exact tabD_tr _
  · exact extsA_tr f g h
theorem extsM58_ok {W : World} {t_xdb32 t_xdb64 t_xp10 : TypeId} (L : Laying 6 W (heapA t_xdb32 t_xdb64 t_xp10)) (hs : 6 ≤ W.heap.size) (hW : Len W) : IntrOk Tryz.prog W 6 (extL extsM58) := by
  intro f g h
  unfold extsM58 extL at h
  split at h
  · rename_i hb
    cases h
    rw [← Nat.eq_of_beq_eq_true hb]
    exact otm_58 L hs hW
  · exact extsA_ok2 L hs hW f g h
noncomputable def maskM : Nat := 43553419281659220394965641086418647244799
theorem okM : (Nat.ble (maskM + 1) (Nat.shiftLeft 1 135) && okMask Tryz.prog 6 maskM 135) = true := by kernel_rfl
theorem wakeA_run (t_xdb32 t_xdb64 t_xp10 : TypeId) : isTrue (callD Tryz.prog (mkIntr maskM (extL extsM58)) 1000 80 12 [] (birth (heapA t_xdb32 t_xdb64 t_xp10) 64)) = true := by kernel_rfl
theorem wakeA_ok {W : World} {t_xdb32 t_xdb64 t_xp10 : TypeId} (L : Laying 6 W (heapA t_xdb32 t_xdb64 t_xp10)) (hs : 6 ≤ W.heap.size) (hW : Len W) : OwnOk Tryz.prog W 6 12 doneD :=
  done_ok (fn := Tryz.f12) (c := match Tryz.f12.body with | some c => c | none => .skip) L hs (by decide : 6 ≤ 64) dt_mixed okM extsM58_tr (fun w h1 h2 => extsM58_ok (L.move h1 h2 hs) (Nat.le_trans hs h1) (hW.later h1 h2)) Tryz.func12 (by kernel_rfl) (by kernel_rfl) (wakeA_run t_xdb32 t_xdb64 t_xp10)
noncomputable def extsB : List (Nat × Own) := (12, doneD) :: extsM58
theorem extsB_tr : IntrTr (extL extsB) := by
  intro f g h
  unfold extsB extL at h
  split at h
  · cases h; exact doneD_tr
  · exact extsM58_tr f g h
theorem extsB_ok {W : World} {t_xdb32 t_xdb64 t_xp10 : TypeId} (L : Laying 6 W (heapA t_xdb32 t_xdb64 t_xp10)) (hs : 6 ≤ W.heap.size) (hW : Len W) : IntrOk Tryz.prog W 6 (extL extsB) := by
  intro f g h
  unfold extsB extL at h
  split at h
  · rename_i hb
    cases h
    rw [← Nat.eq_of_beq_eq_true hb]
    exact wakeA_ok L hs hW
  · exact extsM58_ok L hs hW f g h
noncomputable def maskB : Nat := 43553419281659220394965641086418647240703
theorem okB : (Nat.ble (maskB + 1) (Nat.shiftLeft 1 135) && okMask Tryz.prog 6 maskB 135) = true := by kernel_rfl
end Go.Proofs.YtcjbddgeoiacoaaGreatDoor
