/- MaskForms: at every start, whatever the number, the call returns true; the conditions: the tables that the row lists read as the program lays them. -/
import Derived.Test.YtlcgmlefagpmiadGreatDoorRows
import Derived.Test.YtlcgmlefagpmiadGreatDoorCards
import Derived.Test.YtlcgmlefagpmiadGreatDoorTie
import Derived.Test.YtlcgmlefagpmiadGreatDoorDetIntr3
import Derived.Test.YtlcgmlefagpmiadGreatDoorDetOnceMk
import Derived.ChangeSame
import Derived.ProofKit
import Derived.LaidMore
import Derived.OpenShut
import Derived.Stop.Joined
import Derived.HandedShaped
import Derived.Lay
import Derived.Shelf.LaysM
import Derived.Shelf.Strings.Search2
import Derived.Shelf.Strings.Shaped
namespace Go.Proofs
open Go.Shelf
set_option maxRecDepth 100000
def Tryz.lays219_ren : Go.Shelf.Ren := ⟨fun | 219 => 219 | 217 => 199 | 225 => 231 | 224 => 232 | 267 => 233 | 266 => 223 | 314 => 238 | n => n, fun | 9 => 9 | 3 => 3 | 4 => 4 | 5 => 5 | 46 => 150 | 146 => 280 | 51 => 248 | n => n, fun | 1 => 0 | n => n⟩
theorem Tryz.lays219 : Go.Proofs.Lays.n219 Tryz.prog Tryz.lays219_ren := {
  mixed := by kernel_rfl
  f217 := Tryz.func199.trans (congrArg some (by kernel_rfl))
  f219 := Tryz.func219.trans (congrArg some (by kernel_rfl))
  f224 := Tryz.func232.trans (congrArg some (by kernel_rfl))
  f225 := Tryz.func231.trans (congrArg some (by kernel_rfl))
  f266 := Tryz.func223.trans (congrArg some (by kernel_rfl))
  f267 := Tryz.func233.trans (congrArg some (by kernel_rfl))
  f314 := Tryz.func238.trans (congrArg some (by kernel_rfl))
  t3 := Tryz.underlying3
  a3 := Tryz.isAgg3
  z3 := Tryz.sizeOf3
  v3 := Tryz.zeroValue3
  t4 := Tryz.underlying4
  a4 := Tryz.isAgg4
  z4 := Tryz.sizeOf4
  v4 := Tryz.zeroValue4
  t5 := Tryz.underlying5
  a5 := Tryz.isAgg5
  z5 := Tryz.sizeOf5
  v5 := Tryz.zeroValue5
  t9 := Tryz.underlying9
  a9 := Tryz.isAgg9
  z9 := Tryz.sizeOf9
  v9 := Tryz.zeroValue9
  t46 := Tryz.underlying150
  a46 := Tryz.isAgg150
  z46 := Tryz.sizeOf150
  v46 := Tryz.zeroValue150
  t51 := Tryz.underlying248
  a51 := Tryz.isAgg248
  z51 := Tryz.sizeOf248
  v51 := Tryz.zeroValue248
  t146 := Tryz.underlying280
  a146 := Tryz.isAgg280
  z146 := Tryz.sizeOf280
  v146 := Tryz.zeroValue280
  g1 := by kernel_rfl }
def Tryz.laysM219_ren : Go.Shelf.Ren := ⟨fun | 219 => 219 | 217 => 199 | 225 => 231 | 224 => 232 | 267 => 233 | 266 => 223 | 314 => 238 | n => n, fun | 9 => 9 | 3 => 3 | 4 => 4 | 5 => 5 | 46 => 150 | 146 => 280 | 51 => 248 | n => n, fun | 1 => 0 | n => n⟩
theorem Tryz.laysM219 : Go.Proofs.LaysM.n219 Tryz.prog Tryz.laysM219_ren := {
  mixed := by kernel_rfl
  f217 := Tryz.func199.trans (congrArg some (by kernel_rfl))
  f219 := Tryz.func219.trans (congrArg some (by kernel_rfl))
  f224 := Tryz.func232.trans (congrArg some (by kernel_rfl))
  f225 := Tryz.func231.trans (congrArg some (by kernel_rfl))
  f266 := Tryz.func223.trans (congrArg some (by kernel_rfl))
  f267 := Tryz.func233.trans (congrArg some (by kernel_rfl))
  f314 := Tryz.func238.trans (congrArg some (by kernel_rfl))
  t3 := Tryz.underlying3
  a3 := Tryz.isAgg3
  z3 := Tryz.sizeOf3
  v3 := Tryz.zeroValue3
  t4 := Tryz.underlying4
  a4 := Tryz.isAgg4
  z4 := Tryz.sizeOf4
  v4 := Tryz.zeroValue4
  t5 := Tryz.underlying5
  a5 := Tryz.isAgg5
  z5 := Tryz.sizeOf5
  v5 := Tryz.zeroValue5
  t9 := Tryz.underlying9
  a9 := Tryz.isAgg9
  z9 := Tryz.sizeOf9
  v9 := Tryz.zeroValue9
  t46 := Tryz.underlying150
  a46 := Tryz.isAgg150
  z46 := Tryz.sizeOf150
  v46 := Tryz.zeroValue150
  t51 := Tryz.underlying248
  a51 := Tryz.isAgg248
  z51 := Tryz.sizeOf248
  v51 := Tryz.zeroValue248
  t146 := Tryz.underlying280
  a146 := Tryz.isAgg280
  z146 := Tryz.sizeOf280
  v146 := Tryz.zeroValue280
  g1 := by kernel_rfl
  i3 := by kernel_rfl
  i4 := by kernel_rfl
  i5 := by kernel_rfl
  i9 := by kernel_rfl
  i46 := by kernel_rfl
  i51 := by kernel_rfl
  i146 := by kernel_rfl
  m1 := by kernel_rfl
  s1_3 := fun w h => Go.Proofs.cell_of_shapedOpen_int (zero := #[.int .i64 0]) (t := 3) h (of_decide_eq_true (by kernel_rfl)) (by kernel_rfl) rfl (by kernel_rfl) (by kernel_rfl) Tryz.underlying3 }
open Go.RowKit Go.Lib in
theorem Tryz.stringslite_Index (s sub : ByteArray) (m : Int) (w : World) (hs : s.size < 4294967281) (hm : w.cell? ⟨0, 0, none⟩ = some (.int .i64 m)) :
    Calls Tryz.prog 219 #[.string s, .string sub] w fun e w' => e = .returned (.int .i64 (Lib.index s.data.toList sub.data.toList)) ∧ w' = w := Any.stringslite_Index Tryz.lays219 s sub m w hs hm
end Go.Proofs
namespace Go.Proofs.YtlcgmlefagpmiadGreatDoor
set_option maxRecDepth 100000
open Go.ChangeShapes Go.WideShapes Go.ChangeAt Go.RowKit Go.Det
theorem dt_own : ownKnob Tryz.prog.godebug = none := by kernel_rfl
theorem dt_mixed : Tryz.prog.follows .mixedOrders = true := by kernel_rfl
theorem u_u8 : Tryz.prog.underlying 5 = some (.int .u8) := by kernel_rfl
theorem c_u8 : Tryz.prog.cellsOf 5 = 1 := by kernel_rfl
theorem u_u64 : Tryz.prog.underlying 52 = some (.int .u64) := by kernel_rfl
theorem c_u64 : Tryz.prog.cellsOf 52 = 1 := by kernel_rfl
def db32 : List Int := [0, 1, 28, 2, 29, 14, 24, 3, 30, 22, 20, 15, 25, 17, 4, 8, 31, 27, 13, 23, 21, 19, 16, 7, 26, 12, 18, 6, 11, 5, 10, 9]
theorem db32_flat : flatL (db32.map (Value.int .u8)) = true := by kernel_rfl
theorem g_db32 : Tryz.prog.globalNamed "math/bits.deBruijn32tab" = some 2 := by kernel_rfl
theorem t_db32 : (Tryz.prog.globals[2]?).map (·.type) = some 270 := by kernel_rfl
theorem u_db32 : Tryz.prog.underlying 270 = some (.array 32 5) := by kernel_rfl
theorem c_db32 : Tryz.prog.cellsOf 270 = 32 := by kernel_rfl
def db64 : List Int := [0, 1, 56, 2, 57, 49, 28, 3, 61, 58, 42, 50, 38, 29, 17, 4, 62, 47, 59, 36, 45, 43, 51, 22, 53, 39, 33, 30, 24, 18, 12, 5, 63, 55, 48, 27, 60, 41, 37, 16, 46, 35, 44, 21, 52, 32, 23, 11, 54, 26, 40, 15, 34, 20, 31, 10, 25, 14, 19, 9, 13, 8, 7, 6]
theorem db64_flat : flatL (db64.map (Value.int .u8)) = true := by kernel_rfl
theorem g_db64 : Tryz.prog.globalNamed "math/bits.deBruijn64tab" = some 3 := by kernel_rfl
theorem t_db64 : (Tryz.prog.globals[3]?).map (·.type) = some 271 := by kernel_rfl
theorem u_db64 : Tryz.prog.underlying 271 = some (.array 64 5) := by kernel_rfl
theorem c_db64 : Tryz.prog.cellsOf 271 = 64 := by kernel_rfl
def p10 : List Int := [1, 10, 100, 1000, 10000, 100000, 1000000, 10000000, 100000000, 1000000000, 10000000000, 100000000000, 1000000000000, 10000000000000, 100000000000000, 1000000000000000, 10000000000000000, 100000000000000000, 1000000000000000000, 10000000000000000000]
theorem p10_flat : flatL (p10.map (Value.int .u64)) = true := by kernel_rfl
theorem g_p10 : Tryz.prog.globalNamed "internal/strconv.uint64pow10" = some 1 := by kernel_rfl
theorem t_p10 : (Tryz.prog.globals[1]?).map (·.type) = some 247 := by kernel_rfl
theorem u_p10 : Tryz.prog.underlying 247 = some (.array 20 52) := by kernel_rfl
theorem c_p10 : Tryz.prog.cellsOf 247 = 20 := by kernel_rfl
noncomputable def heapA (t_xdb32 t_xdb64 t_xp10 : TypeId) : Heap := Heap.set (Heap.set (Heap.set ([]) 2 (.cells (db32.map (Value.int .u8)) (2 * t_xdb32) true)) 3 (.cells (db64.map (Value.int .u8)) (2 * t_xdb64) true)) 1 (.cells (p10.map (Value.int .u64)) (2 * t_xp10) true)
abbrev laidA : List (String × DataW Unit) := [("math/bits.deBruijn32tab", Rows.laid_math_bits_deBruijn32tab), ("math/bits.deBruijn64tab", Rows.laid_math_bits_deBruijn64tab), ("internal/strconv.uint64pow10", Rows.laid_internal_strconv_uint64pow10), ("unicode/utf8.acceptRanges", Rows.laid_unicode_utf8_acceptRanges), ("unicode/utf8.first", Rows.laid_unicode_utf8_first)]
theorem g_top : Tryz.prog.globalNamed "unicode/utf8.acceptRanges" = some 5 := by kernel_rfl
theorem laidA_at {W : World} (h : laidMetH Tryz.prog laidA W) : ∃ t_xdb32 t_xdb64 t_xp10, Laying 6 W (heapA t_xdb32 t_xdb64 t_xp10) ∧ 6 ≤ W.heap.size := by
  rw [MakeChecks.laidMetH_plain _ _ _ (by kernel_rfl)] at h
  obtain ⟨ps, ⟨gdb32, ydb32, csdb32, fueldb32, pdb32, qdb32, hgdb32, htdb32, hvdb32, hddb32, ⟨gdb64, ydb64, csdb64, fueldb64, pdb64, qdb64, hgdb64, htdb64, hvdb64, hddb64, ⟨gp10, yp10, csp10, fuelp10, pp10, qp10, hgp10, htp10, hvp10, hdp10, ⟨gM, yM, csM, fuelM, pM, qM, hgM, htM, hvM, hdM, _, _⟩, _⟩, _⟩, _⟩, _⟩ := h
  obtain rfl := Option.some.inj (g_db32.symm.trans hgdb32)
  obtain rfl := Option.some.inj (t_db32.symm.trans htdb32)
  obtain ⟨t_xdb32, fzdb32, hbdb32⟩ := block_of_var g_db32 hvdb32
  obtain rfl := Option.some.inj (g_db64.symm.trans hgdb64)
  obtain rfl := Option.some.inj (t_db64.symm.trans htdb64)
  obtain ⟨t_xdb64, fzdb64, hbdb64⟩ := block_of_var g_db64 hvdb64
  obtain rfl := Option.some.inj (g_p10.symm.trans hgp10)
  obtain rfl := Option.some.inj (t_p10.symm.trans htp10)
  obtain ⟨t_xp10, fzp10, hbp10⟩ := block_of_var g_p10 hvp10
  obtain rfl := Option.some.inj (g_top.symm.trans hgM)
  obtain ⟨t_xM, fzM, hbM⟩ := block_of_var g_top hvM
  have hs : 6 ≤ W.heap.size := block_lt hbM
  have Ldb32 := (Laying.empty (G := 6) hs).lay (by decide) hbdb32 (ints_of_trod u_db32 u_u8 c_u8 c_db32 hddb32) db32_flat
  have Ldb64 := Ldb32.lay (by decide) hbdb64 (ints_of_trod u_db64 u_u8 c_u8 c_db64 hddb64) db64_flat
  have Lp10 := Ldb64.lay (by decide) hbp10 (ints_of_trod u_p10 u_u64 c_u64 c_p10 hdp10) p10_flat
  exact ⟨t_xdb32, t_xdb64, t_xp10, Lp10, hs⟩
theorem door_metA (os : Os) (args : Array Value) : laidMetH Tryz.prog laidA ((World.laidAll Tryz.prog os laidA).forCall (fun _ _ => 0) ⟨#[], args, []⟩).memory := by
  rw [MakeChecks.laidMetH_plain _ _ _ (by kernel_rfl)]
  exact laidMet_laidAll _ (by kernel_rfl) (by kernel_rfl)
def Len (W : World) : Prop := 0 < W.heap.size ∧ ∃ m, W.cell? ⟨0, 0, none⟩ = some (.int .i64 m)
theorem enterI (args : Array Value) (w : World) : (callFunc 219 args).run Tryz.prog w = .ok (.enter 219 args) w :=
  callFunc_run (fn := Tryz.f219) (c := match Tryz.f219.body with | some c => c | none => .skip) Tryz.func219 (by kernel_rfl) (by kernel_rfl) args w
theorem o219 {W : World} (hW : Len W) (G : Nat) : OwnOk Tryz.prog W G 219 (pureD indexH) := by
  refine index_ok enterI hW.1 fun s sub w hw hs => ?_
  obtain ⟨_, m, hm⟩ := hW
  refine Tryz.stringslite_Index s sub m w hs ?_
  rw [← hm]
  unfold World.cell?
  rw [hw]
theorem en193 : Entry Tryz.prog 193 Extern.AbiNoEscape.same := Entry.mk (fn := Tryz.f193) Tryz.func193 (by kernel_rfl) (by kernel_rfl) (by kernel_rfl) (by kernel_rfl)
theorem o193 {W : World} (_ : Len W) (G : Nat) : OwnOk Tryz.prog W G 193 sameD := same_ok en193
theorem en220 : Entry Tryz.prog 220 (Extern.BytealgMakeNoZero.makeNoZero Tryz.f220.params #[34]) := Entry.mk (fn := Tryz.f220) Tryz.func220 (by kernel_rfl) (by kernel_rfl) (by kernel_rfl) (by kernel_rfl)
theorem o220 {W : World} (_ : Len W) (G : Nat) : OwnOk Tryz.prog W G 220 (rawD 5) := raw_ok en220 (show Tryz.prog.underlying 34 = some (.slice 5) by kernel_rfl)
theorem en223 : Entry Tryz.prog 223 Extern.BytealgIndexByte.indexByte := Entry.mk (fn := Tryz.f223) Tryz.func223 (by kernel_rfl) (by kernel_rfl) (by kernel_rfl) (by kernel_rfl)
theorem o223 {W : World} (_ : Len W) (G : Nat) : OwnOk Tryz.prog W G 223 (pureD indexByteH) := indexByte_ok en223
theorem en94 : Entry Tryz.prog 94 Extern.BytealgIndexByte.indexByte := Entry.mk (fn := Tryz.f94) Tryz.func94 (by kernel_rfl) (by kernel_rfl) (by kernel_rfl) (by kernel_rfl)
theorem o94 {W : World} (_ : Len W) (G : Nat) : OwnOk Tryz.prog W G 94 idxSlD := idxSl_ok en94
theorem en218 : Entry Tryz.prog 218 Extern.BytealgCount.count := Entry.mk (fn := Tryz.f218) Tryz.func218 (by kernel_rfl) (by kernel_rfl) (by kernel_rfl) (by kernel_rfl)
theorem o218 {W : World} (_ : Len W) (G : Nat) : OwnOk Tryz.prog W G 218 (pureD countByteH) := countByte_ok en218
theorem en176 : Entry Tryz.prog 176 Extern.BytealgCompare.compare := Entry.mk (fn := Tryz.f176) Tryz.func176 (by kernel_rfl) (by kernel_rfl) (by kernel_rfl) (by kernel_rfl)
theorem o176 {W : World} (_ : Len W) (G : Nat) : OwnOk Tryz.prog W G 176 (pureD cmpH) := cmp_ok en176
theorem o187 {W : World} (_ : Len W) (G : Nat) : OwnOk Tryz.prog W G 187 allD := all_ok
noncomputable def extsA : List (Nat × Own) := [(94, idxSlD), (176, pureD cmpH), (187, allD), (193, sameD), (218, pureD countByteH), (219, pureD indexH), (220, rawD 5), (223, pureD indexByteH)]
theorem extsA_tr : IntrTr (extL extsA) := extL_tr fun x hx => by
  simp only [extsA, List.mem_cons, List.not_mem_nil, or_false] at hx
  rcases hx with rfl | rfl | rfl | rfl | rfl | rfl | rfl | rfl
  · exact idxSlD_tr
  · exact pureD_tr _
  · exact allD_tr
  · exact sameD_tr
  · exact pureD_tr _
  · exact pureD_tr _
  · exact rawD_tr 5
  · exact pureD_tr _
theorem extsA_ok {W : World} (hW : Len W) (G : Nat) : IntrOk Tryz.prog W G (extL extsA) := extL_ok fun x hx => by
  simp only [extsA, List.mem_cons, List.not_mem_nil, or_false] at hx
  rcases hx with rfl | rfl | rfl | rfl | rfl | rfl | rfl | rfl
  · exact o94 hW G
  · exact o176 hW G
  · exact o187 hW G
  · exact o193 hW G
  · exact o218 hW G
  · exact o219 hW G
  · exact o220 hW G
  · exact o223 hW G
noncomputable def maskA : Nat := 461129911051728173525802850423111711722997185482443782753971313337391262990335
theorem okA : (Nat.ble (maskA + 1) (Nat.shiftLeft 1 258) && okMask Tryz.prog 6 maskA 258) = true := by kernel_rfl
/-- the wrap of a row that lists variables, the start's shape kept -/
theorem wrap_shaped {H : Type} {enc : TypeId × Value → H} {C : Checked} {os : Os} {f : FuncId} {fn : Func} {s : ChangeSpec} {X : World → Array Value → Prop}
    (hX : ∀ (w w' : World) (args : Array Value), w.heap = w'.heap → X w args → X w' args)
    (own : ownKnob C.prog.godebug = none) (started : os.Started) (noInit : C.prog.inits.idxOf? f = none) (hfn : C.prog.funcs[f]? = some fn)
    (witness : ∃ (w : World) (tape : Tape) (i : Input), w.os = os ∧ (w.forCall tape i).Shaped C.prog ∧ i.vars = [] ∧ Input.okWide C.prog (w.forCall tape i) .any w.heap.size f i ∧
      ((s.pre enc C.prog fn [] false (w.forCall tape i).memory i.args ∧ X (w.forCall tape i).memory i.args) ∧ sizedMet enc C.prog fn (OpenSpec.ofChange s) false (w.forCall tape i).memory i.args) ∧ ({} : Assume).holds C.prog (lone (Frame.enter C.prog f i.args .normal) [] (w.forCall tape i)))
    (contract : ∀ (W : World) (base : Nat) (args : Array Value) (ds gs : List (DataW H)) (before : List MemPlace),
      (∀ (j : Nat) t v, fn.params[j]? = some t → args[j]? = some v → Value.okWide C.prog W .any base t v) →
      DataW.Whole enc C.prog fn.params.toList s.vars false W args.toList ds gs before → X W args → W.ShapedOpen C.prog →
      Calls C.prog f args W fun e W' => ∃ v, e = .returned v ∧ s.post enc C.prog fn false true false false W args v W') :
    ReturnsInHanded {} C os f .any (fun w args => (s.pre enc C.prog fn [] false w args ∧ X w args) ∧ sizedMet enc C.prog fn (OpenSpec.ofChange s) false w args) (s.post enc C.prog fn false true false false) := by
  refine returnsInHanded_of_calls own started noInit witness ?_
  intro w tape i _ hsh _ hok hpre _
  obtain ⟨_, _, _, fn', hfn', _, _, _, _, hval⟩ := hok
  have e : fn' = fn := Option.some.inj (hfn'.symm.trans hfn)
  subst e
  obtain ⟨⟨⟨ds, gs, before, hw, _⟩, hx⟩, _⟩ := hpre
  have hw' := DataW.Whole.of_heap (w' := w.forCall tape i) (by rfl) hw
  refine (contract (w.forCall tape i) w.heap.size i.args ds gs before hval hw' (hX _ _ _ (by rfl) hx) hsh).mono fun e W' ⟨v, he, hp⟩ => ?_
  subst he
  exact ChangeSpec.post_blind hp
theorem Len.of_shape {W : World} (h : W.ShapedOpen Tryz.prog) (hs : 6 ≤ W.heap.size) : Len W := ⟨by omega, Tryz.laysM219.s1_3 W h⟩
theorem Len.later {W w : World} (h : Len W) (h1 : W.heap.size ≤ w.heap.size) (h2 : ∀ b, b < W.heap.size → w.heap[b]? = W.heap[b]?) : Len w := by
  obtain ⟨h0, m, hm⟩ := h
  refine ⟨by omega, m, ?_⟩
  rw [← hm]
  unfold World.cell?
  rw [h2 0 h0]
noncomputable def tm_45_0 : Tbl := [([.agg #[.int .i64 4, .int .u64 0, .int .u64 167772161], .agg #[.int .i64 4, .int .u64 0, .int .u64 4278255360]], .tuple #[.agg #[.int .i64 0, .int .u64 0, .int .u64 0, .int .i64 0], .bool false]),
  ([.agg #[.int .i64 4, .int .u64 0, .int .u64 167772161], .agg #[.int .i64 4, .int .u64 0, .int .u64 4294967040]], .tuple #[.agg #[.int .i64 4, .int .u64 0, .int .u64 167772160, .int .i64 24], .bool true]),
  ([.agg #[.int .i64 4, .int .u64 0, .int .u64 167772169], .agg #[.int .i64 4, .int .u64 0, .int .u64 4294967040]], .tuple #[.agg #[.int .i64 4, .int .u64 0, .int .u64 167772160, .int .i64 24], .bool true])]
theorem tmo_45_0 (t_xdb32 t_xdb64 t_xp10 : TypeId) : tabOk (fun args => callD Tryz.prog (mkIntr maskA (extL extsA)) 1000 80 45 args (birth (heapA t_xdb32 t_xdb64 t_xp10) 64)) tm_45_0 = true := by kernel_rfl
noncomputable def tm_45_1 : Tbl := [([.agg #[.int .i64 4, .int .u64 0, .int .u64 167772180], .agg #[.int .i64 4, .int .u64 0, .int .u64 4294967040]], .tuple #[.agg #[.int .i64 4, .int .u64 0, .int .u64 167772160, .int .i64 24], .bool true]),
  ([.agg #[.int .i64 6, .int .u64 0, .int .u64 1], .agg #[.int .i64 4, .int .u64 0, .int .u64 4294967040]], .tuple #[.agg #[.int .i64 0, .int .u64 0, .int .u64 0, .int .i64 0], .bool false])]
theorem tmo_45_1 (t_xdb32 t_xdb64 t_xp10 : TypeId) : tabOk (fun args => callD Tryz.prog (mkIntr maskA (extL extsA)) 1000 80 45 args (birth (heapA t_xdb32 t_xdb64 t_xp10) 64)) tm_45_1 = true := by kernel_rfl
noncomputable def tm_45 : Tbl := (tm_45_0 ++ tm_45_1)
theorem otm_45 {W : World} {t_xdb32 t_xdb64 t_xp10 : TypeId} (L : Laying 6 W (heapA t_xdb32 t_xdb64 t_xp10)) (hs : 6 ≤ W.heap.size) (hW : Len W) : OwnOk Tryz.prog W 6 45 (tabD tm_45) :=
  tab_ok (fn := Tryz.f45) (c := match Tryz.f45.body with | some c => c | none => .skip) L hs (by decide : 6 ≤ 64) dt_mixed okA extsA_tr (fun w h1 h2 => extsA_ok (hW.later h1 h2) 6) Tryz.func45 (by kernel_rfl) (by kernel_rfl) (tabOk_append (tmo_45_0 t_xdb32 t_xdb64 t_xp10) (tmo_45_1 t_xdb32 t_xdb64 t_xp10))
theorem extsA_ok2 {W : World} {t_xdb32 t_xdb64 t_xp10 : TypeId} (_ : Laying 6 W (heapA t_xdb32 t_xdb64 t_xp10)) (_ : 6 ≤ W.heap.size) (hW : Len W) : IntrOk Tryz.prog W 6 (extL extsA) := extsA_ok hW 6
noncomputable def extsM45 : List (Nat × Own) := (45, tabD tm_45) :: extsA
theorem extsM45_tr : IntrTr (extL extsM45) := by
  intro f g h
  unfold extsM45 extL at h
  split at h
  · cases h; exact tabD_tr _
  · exact extsA_tr f g h
theorem extsM45_ok {W : World} {t_xdb32 t_xdb64 t_xp10 : TypeId} (L : Laying 6 W (heapA t_xdb32 t_xdb64 t_xp10)) (hs : 6 ≤ W.heap.size) (hW : Len W) : IntrOk Tryz.prog W 6 (extL extsM45) := by
  intro f g h
  unfold extsM45 extL at h
  split at h
  · rename_i hb
    cases h
    rw [← Nat.eq_of_beq_eq_true hb]
    exact otm_45 L hs hW
  · exact extsA_ok2 L hs hW f g h
noncomputable def maskM : Nat := 461129911051728173525802850423111711722997185482443782753971313302206890901503
theorem okM : (Nat.ble (maskM + 1) (Nat.shiftLeft 1 258) && okMask Tryz.prog 6 maskM 258) = true := by kernel_rfl
theorem wakeA_run (t_xdb32 t_xdb64 t_xp10 : TypeId) : isTrue (callD Tryz.prog (mkIntr maskM (extL extsM45)) 1000 80 6 [] (birth (heapA t_xdb32 t_xdb64 t_xp10) 64)) = true := by kernel_rfl
theorem wakeA_ok {W : World} {t_xdb32 t_xdb64 t_xp10 : TypeId} (L : Laying 6 W (heapA t_xdb32 t_xdb64 t_xp10)) (hs : 6 ≤ W.heap.size) (hW : Len W) : OwnOk Tryz.prog W 6 6 doneD :=
  done_ok (fn := Tryz.f6) (c := match Tryz.f6.body with | some c => c | none => .skip) L hs (by decide : 6 ≤ 64) dt_mixed okM extsM45_tr (fun w h1 h2 => extsM45_ok (L.move h1 h2 hs) (Nat.le_trans hs h1) (hW.later h1 h2)) Tryz.func6 (by kernel_rfl) (by kernel_rfl) (wakeA_run t_xdb32 t_xdb64 t_xp10)
noncomputable def extsB : List (Nat × Own) := (6, doneD) :: extsM45
theorem extsB_tr : IntrTr (extL extsB) := by
  intro f g h
  unfold extsB extL at h
  split at h
  · cases h; exact doneD_tr
  · exact extsM45_tr f g h
theorem extsB_ok {W : World} {t_xdb32 t_xdb64 t_xp10 : TypeId} (L : Laying 6 W (heapA t_xdb32 t_xdb64 t_xp10)) (hs : 6 ≤ W.heap.size) (hW : Len W) : IntrOk Tryz.prog W 6 (extL extsB) := by
  intro f g h
  unfold extsB extL at h
  split at h
  · rename_i hb
    cases h
    rw [← Nat.eq_of_beq_eq_true hb]
    exact wakeA_ok L hs hW
  · exact extsM45_ok L hs hW f g h
noncomputable def maskB : Nat := 461129911051728173525802850423111711722997185482443782753971313302206890901439
theorem okB : (Nat.ble (maskB + 1) (Nat.shiftLeft 1 258) && okMask Tryz.prog 6 maskB 258) = true := by kernel_rfl
end Go.Proofs.YtlcgmlefagpmiadGreatDoor
