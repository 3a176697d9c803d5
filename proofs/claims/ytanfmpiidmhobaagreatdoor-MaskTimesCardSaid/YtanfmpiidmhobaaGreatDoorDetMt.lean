/- MaskTimes: at every start, whatever the number, the call returns true; the conditions: the tables that the row lists read as the program lays them. -/
import Derived.Test.YtanfmpiidmhobaaGreatDoorRows
import Derived.Test.YtanfmpiidmhobaaGreatDoorCards
import Derived.Test.YtanfmpiidmhobaaGreatDoorTie
import Derived.Test.YtanfmpiidmhobaaGreatDoorDetIntr3
import Derived.Test.YtanfmpiidmhobaaGreatDoorDetOnceMt
import Derived.ChangeSame
import Derived.ProofKit
import Derived.LaidMore
import Derived.OpenShut
import Derived.Stop.Joined
import Derived.HandedShaped
import Derived.Lay
import Derived.Shelf.LaysM
import Derived.Shelf.Strings.Search2
import Derived.Shelf.Strings.Shaped
namespace Go.Proofs
open Go.Shelf
set_option maxRecDepth 100000
def Tryz.lays219_ren : Go.Shelf.Ren := ⟨fun | 219 => 218 | 217 => 198 | 225 => 230 | 224 => 231 | 267 => 232 | 266 => 222 | 314 => 237 | n => n, fun | 9 => 9 | 3 => 3 | 4 => 4 | 5 => 5 | 46 => 147 | 146 => 278 | 51 => 246 | n => n, fun | 1 => 0 | n => n⟩
theorem Tryz.lays219 : Go.Proofs.Lays.n219 Tryz.prog Tryz.lays219_ren := {
  mixed := by kernel_rfl
  f217 := Tryz.func198.trans (congrArg some (by kernel_rfl))
  f219 := Tryz.func218.trans (congrArg some (by kernel_rfl))
  f224 := Tryz.func231.trans (congrArg some (by kernel_rfl))
  f225 := Tryz.func230.trans (congrArg some (by kernel_rfl))
  f266 := Tryz.func222.trans (congrArg some (by kernel_rfl))
  f267 := Tryz.func232.trans (congrArg some (by kernel_rfl))
  f314 := Tryz.func237.trans (congrArg some (by kernel_rfl))
  t3 := Tryz.underlying3
  a3 := Tryz.isAgg3
  z3 := Tryz.sizeOf3
  v3 := Tryz.zeroValue3
  t4 := Tryz.underlying4
  a4 := Tryz.isAgg4
  z4 := Tryz.sizeOf4
  v4 := Tryz.zeroValue4
  t5 := Tryz.underlying5
  a5 := Tryz.isAgg5
  z5 := Tryz.sizeOf5
  v5 := Tryz.zeroValue5
  t9 := Tryz.underlying9
  a9 := Tryz.isAgg9
  z9 := Tryz.sizeOf9
  v9 := Tryz.zeroValue9
  t46 := Tryz.underlying147
  a46 := Tryz.isAgg147
  z46 := Tryz.sizeOf147
  v46 := Tryz.zeroValue147
  t51 := Tryz.underlying246
  a51 := Tryz.isAgg246
  z51 := Tryz.sizeOf246
  v51 := Tryz.zeroValue246
  t146 := Tryz.underlying278
  a146 := Tryz.isAgg278
  z146 := Tryz.sizeOf278
  v146 := Tryz.zeroValue278
  g1 := by kernel_rfl }
def Tryz.laysM219_ren : Go.Shelf.Ren := ⟨fun | 219 => 218 | 217 => 198 | 225 => 230 | 224 => 231 | 267 => 232 | 266 => 222 | 314 => 237 | n => n, fun | 9 => 9 | 3 => 3 | 4 => 4 | 5 => 5 | 46 => 147 | 146 => 278 | 51 => 246 | n => n, fun | 1 => 0 | n => n⟩
theorem Tryz.laysM219 : Go.Proofs.LaysM.n219 Tryz.prog Tryz.laysM219_ren := {
  mixed := by kernel_rfl
  f217 := Tryz.func198.trans (congrArg some (by kernel_rfl))
  f219 := Tryz.func218.trans (congrArg some (by kernel_rfl))
  f224 := Tryz.func231.trans (congrArg some (by kernel_rfl))
  f225 := Tryz.func230.trans (congrArg some (by kernel_rfl))
  f266 := Tryz.func222.trans (congrArg some (by kernel_rfl))
  f267 := Tryz.func232.trans (congrArg some (by kernel_rfl))
  f314 := Tryz.func237.trans (congrArg some (by kernel_rfl))
  t3 := Tryz.underlying3
  a3 := Tryz.isAgg3
  z3 := Tryz.sizeOf3
  v3 := Tryz.zeroValue3
  t4 := Tryz.underlying4
  a4 := Tryz.isAgg4
  z4 := Tryz.sizeOf4
  v4 := Tryz.zeroValue4
  t5 := Tryz.underlying5
  a5 := Tryz.isAgg5
  z5 := Tryz.sizeOf5
  v5 := Tryz.zeroValue5
  t9 := Tryz.underlying9
  a9 := Tryz.isAgg9
  z9 := Tryz.sizeOf9
  v9 := Tryz.zeroValue9
  t46 := Tryz.underlying147
  a46 := Tryz.isAgg147
  z46 := Tryz.sizeOf147
  v46 := Tryz.zeroValue147
  t51 := Tryz.underlying246
  a51 := Tryz.isAgg246
  z51 := Tryz.sizeOf246
  v51 := Tryz.zeroValue246
  t146 := Tryz.underlying278
  a146 := Tryz.isAgg278
  z146 := Tryz.sizeOf278
  v146 := Tryz.zeroValue278
  g1 := by kernel_rfl
  i3 := by kernel_rfl
  i4 := by kernel_rfl
  i5 := by kernel_rfl
  i9 := by kernel_rfl
  i46 := by kernel_rfl
  i51 := by kernel_rfl
  i146 := by kernel_rfl
  m1 := by kernel_rfl
  s1_3 := fun w h => Go.Proofs.cell_of_shapedOpen_int (zero := #[.int .i64 0]) (t := 3) h (of_decide_eq_true (by kernel_rfl)) (by kernel_rfl) rfl (by kernel_rfl) (by kernel_rfl) Tryz.underlying3 }
open Go.RowKit Go.Lib in
theorem Tryz.stringslite_Index (s sub : ByteArray) (m : Int) (w : World) (hs : s.size < 4294967281) (hm : w.cell? ⟨0, 0, none⟩ = some (.int .i64 m)) :
    Calls Tryz.prog 218 #[.string s, .string sub] w fun e w' => e = .returned (.int .i64 (Lib.index s.data.toList sub.data.toList)) ∧ w' = w := Any.stringslite_Index Tryz.lays219 s sub m w hs hm
end Go.Proofs
namespace Go.Proofs.YtanfmpiidmhobaaGreatDoor
set_option maxRecDepth 100000
open Go.ChangeShapes Go.WideShapes Go.ChangeAt Go.RowKit Go.Det
theorem dt_own : ownKnob Tryz.prog.godebug = none := by kernel_rfl
theorem dt_mixed : Tryz.prog.follows .mixedOrders = true := by kernel_rfl
theorem u_u8 : Tryz.prog.underlying 5 = some (.int .u8) := by kernel_rfl
theorem c_u8 : Tryz.prog.cellsOf 5 = 1 := by kernel_rfl
theorem u_u64 : Tryz.prog.underlying 23 = some (.int .u64) := by kernel_rfl
theorem c_u64 : Tryz.prog.cellsOf 23 = 1 := by kernel_rfl
def db32 : List Int := [0, 1, 28, 2, 29, 14, 24, 3, 30, 22, 20, 15, 25, 17, 4, 8, 31, 27, 13, 23, 21, 19, 16, 7, 26, 12, 18, 6, 11, 5, 10, 9]
theorem db32_flat : flatL (db32.map (Value.int .u8)) = true := by kernel_rfl
theorem g_db32 : Tryz.prog.globalNamed "math/bits.deBruijn32tab" = some 2 := by kernel_rfl
theorem t_db32 : (Tryz.prog.globals[2]?).map (·.type) = some 268 := by kernel_rfl
theorem u_db32 : Tryz.prog.underlying 268 = some (.array 32 5) := by kernel_rfl
theorem c_db32 : Tryz.prog.cellsOf 268 = 32 := by kernel_rfl
def db64 : List Int := [0, 1, 56, 2, 57, 49, 28, 3, 61, 58, 42, 50, 38, 29, 17, 4, 62, 47, 59, 36, 45, 43, 51, 22, 53, 39, 33, 30, 24, 18, 12, 5, 63, 55, 48, 27, 60, 41, 37, 16, 46, 35, 44, 21, 52, 32, 23, 11, 54, 26, 40, 15, 34, 20, 31, 10, 25, 14, 19, 9, 13, 8, 7, 6]
theorem db64_flat : flatL (db64.map (Value.int .u8)) = true := by kernel_rfl
theorem g_db64 : Tryz.prog.globalNamed "math/bits.deBruijn64tab" = some 3 := by kernel_rfl
theorem t_db64 : (Tryz.prog.globals[3]?).map (·.type) = some 269 := by kernel_rfl
theorem u_db64 : Tryz.prog.underlying 269 = some (.array 64 5) := by kernel_rfl
theorem c_db64 : Tryz.prog.cellsOf 269 = 64 := by kernel_rfl
def p10 : List Int := [1, 10, 100, 1000, 10000, 100000, 1000000, 10000000, 100000000, 1000000000, 10000000000, 100000000000, 1000000000000, 10000000000000, 100000000000000, 1000000000000000, 10000000000000000, 100000000000000000, 1000000000000000000, 10000000000000000000]
theorem p10_flat : flatL (p10.map (Value.int .u64)) = true := by kernel_rfl
theorem g_p10 : Tryz.prog.globalNamed "internal/strconv.uint64pow10" = some 1 := by kernel_rfl
theorem t_p10 : (Tryz.prog.globals[1]?).map (·.type) = some 245 := by kernel_rfl
theorem u_p10 : Tryz.prog.underlying 245 = some (.array 20 23) := by kernel_rfl
theorem c_p10 : Tryz.prog.cellsOf 245 = 20 := by kernel_rfl
noncomputable def heapA (t_xdb32 t_xdb64 t_xp10 : TypeId) : Heap := Heap.set (Heap.set (Heap.set ([]) 2 (.cells (db32.map (Value.int .u8)) (2 * t_xdb32) true)) 3 (.cells (db64.map (Value.int .u8)) (2 * t_xdb64) true)) 1 (.cells (p10.map (Value.int .u64)) (2 * t_xp10) true)
abbrev laidA : List (String × DataW Unit) := [("math/bits.deBruijn32tab", Rows.laid_math_bits_deBruijn32tab), ("math/bits.deBruijn64tab", Rows.laid_math_bits_deBruijn64tab), ("internal/strconv.uint64pow10", Rows.laid_internal_strconv_uint64pow10), ("unicode/utf8.acceptRanges", Rows.laid_unicode_utf8_acceptRanges), ("unicode/utf8.first", Rows.laid_unicode_utf8_first)]
theorem g_top : Tryz.prog.globalNamed "unicode/utf8.acceptRanges" = some 5 := by kernel_rfl
theorem laidA_at {W : World} (h : laidMetH Tryz.prog laidA W) : ∃ t_xdb32 t_xdb64 t_xp10, Laying 6 W (heapA t_xdb32 t_xdb64 t_xp10) ∧ 6 ≤ W.heap.size := by
  rw [MakeChecks.laidMetH_plain _ _ _ (by kernel_rfl)] at h
  obtain ⟨ps, ⟨gdb32, ydb32, csdb32, fueldb32, pdb32, qdb32, hgdb32, htdb32, hvdb32, hddb32, ⟨gdb64, ydb64, csdb64, fueldb64, pdb64, qdb64, hgdb64, htdb64, hvdb64, hddb64, ⟨gp10, yp10, csp10, fuelp10, pp10, qp10, hgp10, htp10, hvp10, hdp10, ⟨gM, yM, csM, fuelM, pM, qM, hgM, htM, hvM, hdM, _, _⟩, _⟩, _⟩, _⟩, _⟩ := h
  obtain rfl := Option.some.inj (g_db32.symm.trans hgdb32)
  obtain rfl := Option.some.inj (t_db32.symm.trans htdb32)
  obtain ⟨t_xdb32, fzdb32, hbdb32⟩ := block_of_var g_db32 hvdb32
  obtain rfl := Option.some.inj (g_db64.symm.trans hgdb64)
  obtain rfl := Option.some.inj (t_db64.symm.trans htdb64)
  obtain ⟨t_xdb64, fzdb64, hbdb64⟩ := block_of_var g_db64 hvdb64
  obtain rfl := Option.some.inj (g_p10.symm.trans hgp10)
  obtain rfl := Option.some.inj (t_p10.symm.trans htp10)
  obtain ⟨t_xp10, fzp10, hbp10⟩ := block_of_var g_p10 hvp10
  obtain rfl := Option.some.inj (g_top.symm.trans hgM)
  obtain ⟨t_xM, fzM, hbM⟩ := block_of_var g_top hvM
  have hs : 6 ≤ W.heap.size := block_lt hbM
  have Ldb32 := (Laying.empty (G := 6) hs).lay (by decide) hbdb32 (ints_of_trod u_db32 u_u8 c_u8 c_db32 hddb32) db32_flat
  have Ldb64 := Ldb32.lay (by decide) hbdb64 (ints_of_trod u_db64 u_u8 c_u8 c_db64 hddb64) db64_flat
  have Lp10 := Ldb64.lay (by decide) hbp10 (ints_of_trod u_p10 u_u64 c_u64 c_p10 hdp10) p10_flat
  exact ⟨t_xdb32, t_xdb64, t_xp10, Lp10, hs⟩
theorem door_metA (os : Os) (args : Array Value) : laidMetH Tryz.prog laidA ((World.laidAll Tryz.prog os laidA).forCall (fun _ _ => 0) ⟨#[], args, []⟩).memory := by
  rw [MakeChecks.laidMetH_plain _ _ _ (by kernel_rfl)]
  exact laidMet_laidAll _ (by kernel_rfl) (by kernel_rfl)
def Len (W : World) : Prop := 0 < W.heap.size ∧ ∃ m, W.cell? ⟨0, 0, none⟩ = some (.int .i64 m)
theorem enterI (args : Array Value) (w : World) : (callFunc 218 args).run Tryz.prog w = .ok (.enter 218 args) w :=
  callFunc_run (fn := Tryz.f218) (c := match Tryz.f218.body with | some c => c | none => .skip) Tryz.func218 (by kernel_rfl) (by kernel_rfl) args w
theorem o218 {W : World} (hW : Len W) (G : Nat) : OwnOk Tryz.prog W G 218 (pureD indexH) := by
  refine index_ok enterI hW.1 fun s sub w hw hs => ?_
  obtain ⟨_, m, hm⟩ := hW
  refine Tryz.stringslite_Index s sub m w hs ?_
  rw [← hm]
  unfold World.cell?
  rw [hw]
theorem en192 : Entry Tryz.prog 192 Extern.AbiNoEscape.same := Entry.mk (fn := Tryz.f192) Tryz.func192 (by kernel_rfl) (by kernel_rfl) (by kernel_rfl) (by kernel_rfl)
theorem o192 {W : World} (_ : Len W) (G : Nat) : OwnOk Tryz.prog W G 192 sameD := same_ok en192
theorem en219 : Entry Tryz.prog 219 (Extern.BytealgMakeNoZero.makeNoZero Tryz.f219.params #[35]) := Entry.mk (fn := Tryz.f219) Tryz.func219 (by kernel_rfl) (by kernel_rfl) (by kernel_rfl) (by kernel_rfl)
theorem o219 {W : World} (_ : Len W) (G : Nat) : OwnOk Tryz.prog W G 219 (rawD 5) := raw_ok en219 (show Tryz.prog.underlying 35 = some (.slice 5) by kernel_rfl)
theorem en222 : Entry Tryz.prog 222 Extern.BytealgIndexByte.indexByte := Entry.mk (fn := Tryz.f222) Tryz.func222 (by kernel_rfl) (by kernel_rfl) (by kernel_rfl) (by kernel_rfl)
theorem o222 {W : World} (_ : Len W) (G : Nat) : OwnOk Tryz.prog W G 222 (pureD indexByteH) := indexByte_ok en222
theorem en93 : Entry Tryz.prog 93 Extern.BytealgIndexByte.indexByte := Entry.mk (fn := Tryz.f93) Tryz.func93 (by kernel_rfl) (by kernel_rfl) (by kernel_rfl) (by kernel_rfl)
theorem o93 {W : World} (_ : Len W) (G : Nat) : OwnOk Tryz.prog W G 93 idxSlD := idxSl_ok en93
theorem en217 : Entry Tryz.prog 217 Extern.BytealgCount.count := Entry.mk (fn := Tryz.f217) Tryz.func217 (by kernel_rfl) (by kernel_rfl) (by kernel_rfl) (by kernel_rfl)
theorem o217 {W : World} (_ : Len W) (G : Nat) : OwnOk Tryz.prog W G 217 (pureD countByteH) := countByte_ok en217
theorem en175 : Entry Tryz.prog 175 Extern.BytealgCompare.compare := Entry.mk (fn := Tryz.f175) Tryz.func175 (by kernel_rfl) (by kernel_rfl) (by kernel_rfl) (by kernel_rfl)
theorem o175 {W : World} (_ : Len W) (G : Nat) : OwnOk Tryz.prog W G 175 (pureD cmpH) := cmp_ok en175
theorem o186 {W : World} (_ : Len W) (G : Nat) : OwnOk Tryz.prog W G 186 allD := all_ok
noncomputable def extsA : List (Nat × Own) := [(93, idxSlD), (175, pureD cmpH), (186, allD), (192, sameD), (217, pureD countByteH), (218, pureD indexH), (219, rawD 5), (222, pureD indexByteH)]
theorem extsA_tr : IntrTr (extL extsA) := extL_tr fun x hx => by
  simp only [extsA, List.mem_cons, List.not_mem_nil, or_false] at hx
  rcases hx with rfl | rfl | rfl | rfl | rfl | rfl | rfl | rfl
  · exact idxSlD_tr
  · exact pureD_tr _
  · exact allD_tr
  · exact sameD_tr
  · exact pureD_tr _
  · exact pureD_tr _
  · exact rawD_tr 5
  · exact pureD_tr _
theorem extsA_ok {W : World} (hW : Len W) (G : Nat) : IntrOk Tryz.prog W G (extL extsA) := extL_ok fun x hx => by
  simp only [extsA, List.mem_cons, List.not_mem_nil, or_false] at hx
  rcases hx with rfl | rfl | rfl | rfl | rfl | rfl | rfl | rfl
  · exact o93 hW G
  · exact o175 hW G
  · exact o186 hW G
  · exact o192 hW G
  · exact o217 hW G
  · exact o218 hW G
  · exact o219 hW G
  · exact o222 hW G
noncomputable def maskA : Nat := 230564955525864086762901425211555855861498592741221891376985656668695631495167
theorem okA : (Nat.ble (maskA + 1) (Nat.shiftLeft 1 257) && okMask Tryz.prog 6 maskA 257) = true := by kernel_rfl
/-- the wrap of a row that lists variables, the start's shape kept -/
theorem wrap_shaped {H : Type} {enc : TypeId × Value → H} {C : Checked} {os : Os} {f : FuncId} {fn : Func} {s : ChangeSpec} {X : World → Array Value → Prop}
    (hX : ∀ (w w' : World) (args : Array Value), w.heap = w'.heap → X w args → X w' args)
    (own : ownKnob C.prog.godebug = none) (started : os.Started) (noInit : C.prog.inits.idxOf? f = none) (hfn : C.prog.funcs[f]? = some fn)
    (witness : ∃ (w : World) (tape : Tape) (i : Input), w.os = os ∧ (w.forCall tape i).Shaped C.prog ∧ i.vars = [] ∧ Input.okWide C.prog (w.forCall tape i) .any w.heap.size f i ∧
      ((s.pre enc C.prog fn [] false (w.forCall tape i).memory i.args ∧ X (w.forCall tape i).memory i.args) ∧ sizedMet enc C.prog fn (OpenSpec.ofChange s) false (w.forCall tape i).memory i.args) ∧ ({} : Assume).holds C.prog (lone (Frame.enter C.prog f i.args .normal) [] (w.forCall tape i)))
    (contract : ∀ (W : World) (base : Nat) (args : Array Value) (ds gs : List (DataW H)) (before : List MemPlace),
      (∀ (j : Nat) t v, fn.params[j]? = some t → args[j]? = some v → Value.okWide C.prog W .any base t v) →
      DataW.Whole enc C.prog fn.params.toList s.vars false W args.toList ds gs before → X W args → W.ShapedOpen C.prog →
      Calls C.prog f args W fun e W' => ∃ v, e = .returned v ∧ s.post enc C.prog fn false true false false W args v W') :
    ReturnsInHanded {} C os f .any (fun w args => (s.pre enc C.prog fn [] false w args ∧ X w args) ∧ sizedMet enc C.prog fn (OpenSpec.ofChange s) false w args) (s.post enc C.prog fn false true false false) := by
  refine returnsInHanded_of_calls own started noInit witness ?_
  intro w tape i _ hsh _ hok hpre _
  obtain ⟨_, _, _, fn', hfn', _, _, _, _, hval⟩ := hok
  have e : fn' = fn := Option.some.inj (hfn'.symm.trans hfn)
  subst e
  obtain ⟨⟨⟨ds, gs, before, hw, _⟩, hx⟩, _⟩ := hpre
  have hw' := DataW.Whole.of_heap (w' := w.forCall tape i) (by rfl) hw
  refine (contract (w.forCall tape i) w.heap.size i.args ds gs before hval hw' (hX _ _ _ (by rfl) hx) hsh).mono fun e W' ⟨v, he, hp⟩ => ?_
  subst he
  exact ChangeSpec.post_blind hp
theorem Len.of_shape {W : World} (h : W.ShapedOpen Tryz.prog) (hs : 6 ≤ W.heap.size) : Len W := ⟨by omega, Tryz.laysM219.s1_3 W h⟩
theorem Len.later {W w : World} (h : Len W) (h1 : W.heap.size ≤ w.heap.size) (h2 : ∀ b, b < W.heap.size → w.heap[b]? = W.heap[b]?) : Len w := by
  obtain ⟨h0, m, hm⟩ := h
  refine ⟨by omega, m, ?_⟩
  rw [← hm]
  unfold World.cell?
  rw [h2 0 h0]
noncomputable def tm_44_0 : Tbl := [([.agg #[.int .i64 4, .int .u64 0, .int .u64 167772161], .agg #[.int .i64 4, .int .u64 0, .int .u64 4294967040]], .tuple #[.agg #[.int .i64 4, .int .u64 0, .int .u64 167772160, .int .i64 24], .bool true]),
  ([.agg #[.int .i64 4, .int .u64 0, .int .u64 167772165], .agg #[.int .i64 4, .int .u64 0, .int .u64 4294967040]], .tuple #[.agg #[.int .i64 4, .int .u64 0, .int .u64 167772160, .int .i64 24], .bool true]),
  ([.agg #[.int .i64 4, .int .u64 0, .int .u64 167772180], .agg #[.int .i64 4, .int .u64 0, .int .u64 4294967040]], .tuple #[.agg #[.int .i64 4, .int .u64 0, .int .u64 167772160, .int .i64 24], .bool true]),
  ([.agg #[.int .i64 4, .int .u64 0, .int .u64 167772421], .agg #[.int .i64 4, .int .u64 0, .int .u64 4294967040]], .tuple #[.agg #[.int .i64 4, .int .u64 0, .int .u64 167772416, .int .i64 24], .bool true])]
theorem tmo_44_0 (t_xdb32 t_xdb64 t_xp10 : TypeId) : tabOk (fun args => callD Tryz.prog (mkIntr maskA (extL extsA)) 1000 80 44 args (birth (heapA t_xdb32 t_xdb64 t_xp10) 64)) tm_44_0 = true := by kernel_rfl
noncomputable def tm_44 : Tbl := tm_44_0
theorem otm_44 {W : World} {t_xdb32 t_xdb64 t_xp10 : TypeId} (L : Laying 6 W (heapA t_xdb32 t_xdb64 t_xp10)) (hs : 6 ≤ W.heap.size) (hW : Len W) : OwnOk Tryz.prog W 6 44 (tabD tm_44) :=
  tab_ok (fn := Tryz.f44) (c := match Tryz.f44.body with | some c => c | none => .skip) L hs (by decide : 6 ≤ 64) dt_mixed okA extsA_tr (fun w h1 h2 => extsA_ok (hW.later h1 h2) 6) Tryz.func44 (by kernel_rfl) (by kernel_rfl) (tmo_44_0 t_xdb32 t_xdb64 t_xp10)
theorem extsA_ok2 {W : World} {t_xdb32 t_xdb64 t_xp10 : TypeId} (_ : Laying 6 W (heapA t_xdb32 t_xdb64 t_xp10)) (_ : 6 ≤ W.heap.size) (hW : Len W) : IntrOk Tryz.prog W 6 (extL extsA) := extsA_ok hW 6
noncomputable def extsM44 : List (Nat × Own) := (44, tabD tm_44) :: extsA
theorem extsM44_tr : IntrTr (extL extsM44) := by
  intro f g h
  unfold extsM44 extL at h
  split at h
  · cases h; exact tabD_tr _
  · exact extsA_tr f g h
theorem extsM44_ok {W : World} {t_xdb32 t_xdb64 t_xp10 : TypeId} (L : Laying 6 W (heapA t_xdb32 t_xdb64 t_xp10)) (hs : 6 ≤ W.heap.size) (hW : Len W) : IntrOk Tryz.prog W 6 (extL extsM44) := by
  intro f g h
  unfold extsM44 extL at h
  split at h
  · rename_i hb
    cases h
    rw [← Nat.eq_of_beq_eq_true hb]
    exact otm_44 L hs hW
  · exact extsA_ok2 L hs hW f g h
noncomputable def maskM : Nat := 230564955525864086762901425211555855861498592741221891376985656651103445450751
theorem okM : (Nat.ble (maskM + 1) (Nat.shiftLeft 1 257) && okMask Tryz.prog 6 maskM 257) = true := by kernel_rfl
theorem wakeA_run (t_xdb32 t_xdb64 t_xp10 : TypeId) : isTrue (callD Tryz.prog (mkIntr maskM (extL extsM44)) 1000 80 7 [] (birth (heapA t_xdb32 t_xdb64 t_xp10) 64)) = true := by kernel_rfl
theorem wakeA_ok {W : World} {t_xdb32 t_xdb64 t_xp10 : TypeId} (L : Laying 6 W (heapA t_xdb32 t_xdb64 t_xp10)) (hs : 6 ≤ W.heap.size) (hW : Len W) : OwnOk Tryz.prog W 6 7 doneD :=
  done_ok (fn := Tryz.f7) (c := match Tryz.f7.body with | some c => c | none => .skip) L hs (by decide : 6 ≤ 64) dt_mixed okM extsM44_tr (fun w h1 h2 => extsM44_ok (L.move h1 h2 hs) (Nat.le_trans hs h1) (hW.later h1 h2)) Tryz.func7 (by kernel_rfl) (by kernel_rfl) (wakeA_run t_xdb32 t_xdb64 t_xp10)
noncomputable def extsB : List (Nat × Own) := (7, doneD) :: extsM44
theorem extsB_tr : IntrTr (extL extsB) := by
  intro f g h
  unfold extsB extL at h
  split at h
  · cases h; exact doneD_tr
  · exact extsM44_tr f g h
theorem extsB_ok {W : World} {t_xdb32 t_xdb64 t_xp10 : TypeId} (L : Laying 6 W (heapA t_xdb32 t_xdb64 t_xp10)) (hs : 6 ≤ W.heap.size) (hW : Len W) : IntrOk Tryz.prog W 6 (extL extsB) := by
  intro f g h
  unfold extsB extL at h
  split at h
  · rename_i hb
    cases h
    rw [← Nat.eq_of_beq_eq_true hb]
    exact wakeA_ok L hs hW
  · exact extsM44_ok L hs hW f g h
noncomputable def maskB : Nat := 230564955525864086762901425211555855861498592741221891376985656651103445450623
theorem okB : (Nat.ble (maskB + 1) (Nat.shiftLeft 1 257) && okMask Tryz.prog 6 maskB 257) = true := by kernel_rfl
end Go.Proofs.YtanfmpiidmhobaaGreatDoor
