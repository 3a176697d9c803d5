/- IscpNames: at every start, whatever the number, the call returns true; the conditions: the tables that the row lists read as the program lays them. -/
import Derived.Test.YtklegdhcpoibfaaGreatDoorRows
import Derived.Test.YtklegdhcpoibfaaGreatDoorCards
import Derived.Test.YtklegdhcpoibfaaGreatDoorTie
import Derived.Test.YtklegdhcpoibfaaGreatDoorDetIntr3
import Derived.Test.YtklegdhcpoibfaaGreatDoorDetOnceIn
import Derived.ChangeSame
import Derived.ProofKit
import Derived.LaidMore
import Derived.OpenShut
import Derived.Stop.Joined
import Derived.HandedShaped
import Derived.Lay
import Derived.Shelf.LaysM
import Derived.Shelf.Strings.Search2
import Derived.Shelf.Strings.Shaped
namespace Go.Proofs
open Go.Shelf
set_option maxRecDepth 100000
def Tryz.lays219_ren : Go.Shelf.Ren := ⟨fun | 219 => 142 | 217 => 169 | 225 => 170 | 224 => 171 | 267 => 172 | 266 => 180 | 314 => 181 | n => n, fun | 9 => 9 | 3 => 3 | 4 => 4 | 5 => 5 | 46 => 121 | 146 => 224 | 51 => 171 | n => n, fun | 1 => 0 | n => n⟩
theorem Tryz.lays219 : Go.Proofs.Lays.n219 Tryz.prog Tryz.lays219_ren := {
  mixed := by kernel_rfl
  f217 := Tryz.func169.trans (congrArg some (by kernel_rfl))
  f219 := Tryz.func142.trans (congrArg some (by kernel_rfl))
  f224 := Tryz.func171.trans (congrArg some (by kernel_rfl))
  f225 := Tryz.func170.trans (congrArg some (by kernel_rfl))
  f266 := Tryz.func180.trans (congrArg some (by kernel_rfl))
  f267 := Tryz.func172.trans (congrArg some (by kernel_rfl))
  f314 := Tryz.func181.trans (congrArg some (by kernel_rfl))
  t3 := Tryz.underlying3
  a3 := Tryz.isAgg3
  z3 := Tryz.sizeOf3
  v3 := Tryz.zeroValue3
  t4 := Tryz.underlying4
  a4 := Tryz.isAgg4
  z4 := Tryz.sizeOf4
  v4 := Tryz.zeroValue4
  t5 := Tryz.underlying5
  a5 := Tryz.isAgg5
  z5 := Tryz.sizeOf5
  v5 := Tryz.zeroValue5
  t9 := Tryz.underlying9
  a9 := Tryz.isAgg9
  z9 := Tryz.sizeOf9
  v9 := Tryz.zeroValue9
  t46 := Tryz.underlying121
  a46 := Tryz.isAgg121
  z46 := Tryz.sizeOf121
  v46 := Tryz.zeroValue121
  t51 := Tryz.underlying171
  a51 := Tryz.isAgg171
  z51 := Tryz.sizeOf171
  v51 := Tryz.zeroValue171
  t146 := Tryz.underlying224
  a146 := Tryz.isAgg224
  z146 := Tryz.sizeOf224
  v146 := Tryz.zeroValue224
  g1 := by kernel_rfl }
def Tryz.laysM219_ren : Go.Shelf.Ren := ⟨fun | 219 => 142 | 217 => 169 | 225 => 170 | 224 => 171 | 267 => 172 | 266 => 180 | 314 => 181 | n => n, fun | 9 => 9 | 3 => 3 | 4 => 4 | 5 => 5 | 46 => 121 | 146 => 224 | 51 => 171 | n => n, fun | 1 => 0 | n => n⟩
theorem Tryz.laysM219 : Go.Proofs.LaysM.n219 Tryz.prog Tryz.laysM219_ren := {
  mixed := by kernel_rfl
  f217 := Tryz.func169.trans (congrArg some (by kernel_rfl))
  f219 := Tryz.func142.trans (congrArg some (by kernel_rfl))
  f224 := Tryz.func171.trans (congrArg some (by kernel_rfl))
  f225 := Tryz.func170.trans (congrArg some (by kernel_rfl))
  f266 := Tryz.func180.trans (congrArg some (by kernel_rfl))
  f267 := Tryz.func172.trans (congrArg some (by kernel_rfl))
  f314 := Tryz.func181.trans (congrArg some (by kernel_rfl))
  t3 := Tryz.underlying3
  a3 := Tryz.isAgg3
  z3 := Tryz.sizeOf3
  v3 := Tryz.zeroValue3
  t4 := Tryz.underlying4
  a4 := Tryz.isAgg4
  z4 := Tryz.sizeOf4
  v4 := Tryz.zeroValue4
  t5 := Tryz.underlying5
  a5 := Tryz.isAgg5
  z5 := Tryz.sizeOf5
  v5 := Tryz.zeroValue5
  t9 := Tryz.underlying9
  a9 := Tryz.isAgg9
  z9 := Tryz.sizeOf9
  v9 := Tryz.zeroValue9
  t46 := Tryz.underlying121
  a46 := Tryz.isAgg121
  z46 := Tryz.sizeOf121
  v46 := Tryz.zeroValue121
  t51 := Tryz.underlying171
  a51 := Tryz.isAgg171
  z51 := Tryz.sizeOf171
  v51 := Tryz.zeroValue171
  t146 := Tryz.underlying224
  a146 := Tryz.isAgg224
  z146 := Tryz.sizeOf224
  v146 := Tryz.zeroValue224
  g1 := by kernel_rfl
  i3 := by kernel_rfl
  i4 := by kernel_rfl
  i5 := by kernel_rfl
  i9 := by kernel_rfl
  i46 := by kernel_rfl
  i51 := by kernel_rfl
  i146 := by kernel_rfl
  m1 := by kernel_rfl
  s1_3 := fun w h => Go.Proofs.cell_of_shapedOpen_int (zero := #[.int .i64 0]) (t := 3) h (of_decide_eq_true (by kernel_rfl)) (by kernel_rfl) rfl (by kernel_rfl) (by kernel_rfl) Tryz.underlying3 }
open Go.RowKit Go.Lib in
theorem Tryz.stringslite_Index (s sub : ByteArray) (m : Int) (w : World) (hs : s.size < 4294967281) (hm : w.cell? ⟨0, 0, none⟩ = some (.int .i64 m)) :
    Calls Tryz.prog 142 #[.string s, .string sub] w fun e w' => e = .returned (.int .i64 (Lib.index s.data.toList sub.data.toList)) ∧ w' = w := Any.stringslite_Index Tryz.lays219 s sub m w hs hm
end Go.Proofs
namespace Go.Proofs.YtklegdhcpoibfaaGreatDoor
set_option maxRecDepth 100000
open Go.ChangeShapes Go.WideShapes Go.ChangeAt Go.RowKit Go.Det
theorem dt_own : ownKnob Tryz.prog.godebug = none := by kernel_rfl
theorem dt_mixed : Tryz.prog.follows .mixedOrders = true := by kernel_rfl
theorem u_u8 : Tryz.prog.underlying 5 = some (.int .u8) := by kernel_rfl
theorem c_u8 : Tryz.prog.cellsOf 5 = 1 := by kernel_rfl
theorem u_u64 : Tryz.prog.underlying 22 = some (.int .u64) := by kernel_rfl
theorem c_u64 : Tryz.prog.cellsOf 22 = 1 := by kernel_rfl
def db32 : List Int := [0, 1, 28, 2, 29, 14, 24, 3, 30, 22, 20, 15, 25, 17, 4, 8, 31, 27, 13, 23, 21, 19, 16, 7, 26, 12, 18, 6, 11, 5, 10, 9]
theorem db32_flat : flatL (db32.map (Value.int .u8)) = true := by kernel_rfl
theorem g_db32 : Tryz.prog.globalNamed "math/bits.deBruijn32tab" = some 4 := by kernel_rfl
theorem t_db32 : (Tryz.prog.globals[4]?).map (·.type) = some 233 := by kernel_rfl
theorem u_db32 : Tryz.prog.underlying 233 = some (.array 32 5) := by kernel_rfl
theorem c_db32 : Tryz.prog.cellsOf 233 = 32 := by kernel_rfl
def db64 : List Int := [0, 1, 56, 2, 57, 49, 28, 3, 61, 58, 42, 50, 38, 29, 17, 4, 62, 47, 59, 36, 45, 43, 51, 22, 53, 39, 33, 30, 24, 18, 12, 5, 63, 55, 48, 27, 60, 41, 37, 16, 46, 35, 44, 21, 52, 32, 23, 11, 54, 26, 40, 15, 34, 20, 31, 10, 25, 14, 19, 9, 13, 8, 7, 6]
theorem db64_flat : flatL (db64.map (Value.int .u8)) = true := by kernel_rfl
theorem g_db64 : Tryz.prog.globalNamed "math/bits.deBruijn64tab" = some 5 := by kernel_rfl
theorem t_db64 : (Tryz.prog.globals[5]?).map (·.type) = some 234 := by kernel_rfl
theorem u_db64 : Tryz.prog.underlying 234 = some (.array 64 5) := by kernel_rfl
theorem c_db64 : Tryz.prog.cellsOf 234 = 64 := by kernel_rfl
def p10 : List Int := [1, 10, 100, 1000, 10000, 100000, 1000000, 10000000, 100000000, 1000000000, 10000000000, 100000000000, 1000000000000, 10000000000000, 100000000000000, 1000000000000000, 10000000000000000, 100000000000000000, 1000000000000000000, 10000000000000000000]
theorem p10_flat : flatL (p10.map (Value.int .u64)) = true := by kernel_rfl
theorem g_p10 : Tryz.prog.globalNamed "internal/strconv.uint64pow10" = some 1 := by kernel_rfl
theorem t_p10 : (Tryz.prog.globals[1]?).map (·.type) = some 209 := by kernel_rfl
theorem u_p10 : Tryz.prog.underlying 209 = some (.array 20 22) := by kernel_rfl
theorem c_p10 : Tryz.prog.cellsOf 209 = 20 := by kernel_rfl
noncomputable def heapA (t_xdb32 t_xdb64 t_xp10 : TypeId) : Heap := Heap.set (Heap.set (Heap.set ([]) 4 (.cells (db32.map (Value.int .u8)) (2 * t_xdb32) true)) 5 (.cells (db64.map (Value.int .u8)) (2 * t_xdb64) true)) 1 (.cells (p10.map (Value.int .u64)) (2 * t_xp10) true)
abbrev laidA : List (String × DataW Unit) := [("math/bits.deBruijn32tab", Rows.laid_math_bits_deBruijn32tab), ("math/bits.deBruijn64tab", Rows.laid_math_bits_deBruijn64tab), ("internal/strconv.uint64pow10", Rows.laid_internal_strconv_uint64pow10), ("unicode/utf8.acceptRanges", Rows.laid_unicode_utf8_acceptRanges), ("unicode/utf8.first", Rows.laid_unicode_utf8_first)]
theorem laidA_at {W : World} (h : laidMetH Tryz.prog laidA W) : ∃ t_xdb32 t_xdb64 t_xp10, Laying 6 W (heapA t_xdb32 t_xdb64 t_xp10) ∧ 6 ≤ W.heap.size := by
  rw [MakeChecks.laidMetH_plain _ _ _ (by kernel_rfl)] at h
  obtain ⟨ps, ⟨gdb32, ydb32, csdb32, fueldb32, pdb32, qdb32, hgdb32, htdb32, hvdb32, hddb32, ⟨gdb64, ydb64, csdb64, fueldb64, pdb64, qdb64, hgdb64, htdb64, hvdb64, hddb64, ⟨gp10, yp10, csp10, fuelp10, pp10, qp10, hgp10, htp10, hvp10, hdp10, _, _⟩, _⟩, _⟩, _⟩ := h
  obtain rfl := Option.some.inj (g_db32.symm.trans hgdb32)
  obtain rfl := Option.some.inj (t_db32.symm.trans htdb32)
  obtain ⟨t_xdb32, fzdb32, hbdb32⟩ := block_of_var g_db32 hvdb32
  obtain rfl := Option.some.inj (g_db64.symm.trans hgdb64)
  obtain rfl := Option.some.inj (t_db64.symm.trans htdb64)
  obtain ⟨t_xdb64, fzdb64, hbdb64⟩ := block_of_var g_db64 hvdb64
  obtain rfl := Option.some.inj (g_p10.symm.trans hgp10)
  obtain rfl := Option.some.inj (t_p10.symm.trans htp10)
  obtain ⟨t_xp10, fzp10, hbp10⟩ := block_of_var g_p10 hvp10
  have hs : 6 ≤ W.heap.size := block_lt hbdb64
  have Ldb32 := (Laying.empty (G := 6) hs).lay (by decide) hbdb32 (ints_of_trod u_db32 u_u8 c_u8 c_db32 hddb32) db32_flat
  have Ldb64 := Ldb32.lay (by decide) hbdb64 (ints_of_trod u_db64 u_u8 c_u8 c_db64 hddb64) db64_flat
  have Lp10 := Ldb64.lay (by decide) hbp10 (ints_of_trod u_p10 u_u64 c_u64 c_p10 hdp10) p10_flat
  exact ⟨t_xdb32, t_xdb64, t_xp10, Lp10, hs⟩
theorem door_metA (os : Os) (args : Array Value) : laidMetH Tryz.prog laidA ((World.laidAll Tryz.prog os laidA).forCall (fun _ _ => 0) ⟨#[], args, []⟩).memory := by
  rw [MakeChecks.laidMetH_plain _ _ _ (by kernel_rfl)]
  exact laidMet_laidAll _ (by kernel_rfl) (by kernel_rfl)
def Len (W : World) : Prop := 0 < W.heap.size ∧ ∃ m, W.cell? ⟨0, 0, none⟩ = some (.int .i64 m)
theorem enterI (args : Array Value) (w : World) : (callFunc 142 args).run Tryz.prog w = .ok (.enter 142 args) w :=
  callFunc_run (fn := Tryz.f142) (c := match Tryz.f142.body with | some c => c | none => .skip) Tryz.func142 (by kernel_rfl) (by kernel_rfl) args w
theorem o142 {W : World} (hW : Len W) (G : Nat) : OwnOk Tryz.prog W G 142 (pureD indexH) := by
  refine index_ok enterI hW.1 fun s sub w hw hs => ?_
  obtain ⟨_, m, hm⟩ := hW
  refine Tryz.stringslite_Index s sub m w hs ?_
  rw [← hm]
  unfold World.cell?
  rw [hw]
theorem en45 : Entry Tryz.prog 45 Extern.AbiNoEscape.same := Entry.mk (fn := Tryz.f45) Tryz.func45 (by kernel_rfl) (by kernel_rfl) (by kernel_rfl) (by kernel_rfl)
theorem o45 {W : World} (_ : Len W) (G : Nat) : OwnOk Tryz.prog W G 45 sameD := same_ok en45
theorem en111 : Entry Tryz.prog 111 (Extern.BytealgMakeNoZero.makeNoZero Tryz.f111.params #[47]) := Entry.mk (fn := Tryz.f111) Tryz.func111 (by kernel_rfl) (by kernel_rfl) (by kernel_rfl) (by kernel_rfl)
theorem o111 {W : World} (_ : Len W) (G : Nat) : OwnOk Tryz.prog W G 111 (rawD 5) := raw_ok en111 (show Tryz.prog.underlying 47 = some (.slice 5) by kernel_rfl)
theorem en180 : Entry Tryz.prog 180 Extern.BytealgIndexByte.indexByte := Entry.mk (fn := Tryz.f180) Tryz.func180 (by kernel_rfl) (by kernel_rfl) (by kernel_rfl) (by kernel_rfl)
theorem o180 {W : World} (_ : Len W) (G : Nat) : OwnOk Tryz.prog W G 180 (pureD indexByteH) := indexByte_ok en180
theorem en147 : Entry Tryz.prog 147 Extern.BytealgCount.count := Entry.mk (fn := Tryz.f147) Tryz.func147 (by kernel_rfl) (by kernel_rfl) (by kernel_rfl) (by kernel_rfl)
theorem o147 {W : World} (_ : Len W) (G : Nat) : OwnOk Tryz.prog W G 147 (pureD countByteH) := countByte_ok en147
theorem o75 {W : World} (_ : Len W) (G : Nat) : OwnOk Tryz.prog W G 75 allD := all_ok
noncomputable def extsA : List (Nat × Own) := [(45, sameD), (75, allD), (111, rawD 5), (142, pureD indexH), (147, pureD countByteH), (180, pureD indexByteH)]
theorem extsA_tr : IntrTr (extL extsA) := extL_tr fun x hx => by
  simp only [extsA, List.mem_cons, List.not_mem_nil, or_false] at hx
  rcases hx with rfl | rfl | rfl | rfl | rfl | rfl
  · exact sameD_tr
  · exact allD_tr
  · exact rawD_tr 5
  · exact pureD_tr _
  · exact pureD_tr _
  · exact pureD_tr _
theorem extsA_ok {W : World} (hW : Len W) (G : Nat) : IntrOk Tryz.prog W G (extL extsA) := extL_ok fun x hx => by
  simp only [extsA, List.mem_cons, List.not_mem_nil, or_false] at hx
  rcases hx with rfl | rfl | rfl | rfl | rfl | rfl
  · exact o45 hW G
  · exact o75 hW G
  · exact o111 hW G
  · exact o142 hW G
  · exact o147 hW G
  · exact o180 hW G
noncomputable def maskA : Nat := 3199732519554629263171275428673695209330669099726658330427391
theorem okA : (Nat.ble (maskA + 1) (Nat.shiftLeft 1 201) && okMask Tryz.prog 6 maskA 201) = true := by kernel_rfl
/-- the wrap of a row that lists variables, the start's shape kept -/
theorem wrap_shaped {H : Type} {enc : TypeId × Value → H} {C : Checked} {os : Os} {f : FuncId} {fn : Func} {s : ChangeSpec} {X : World → Array Value → Prop}
    (hX : ∀ (w w' : World) (args : Array Value), w.heap = w'.heap → X w args → X w' args)
    (own : ownKnob C.prog.godebug = none) (started : os.Started) (noInit : C.prog.inits.idxOf? f = none) (hfn : C.prog.funcs[f]? = some fn)
    (witness : ∃ (w : World) (tape : Tape) (i : Input), w.os = os ∧ (w.forCall tape i).Shaped C.prog ∧ i.vars = [] ∧ Input.okWide C.prog (w.forCall tape i) .any w.heap.size f i ∧
      ((s.pre enc C.prog fn [] false (w.forCall tape i).memory i.args ∧ X (w.forCall tape i).memory i.args) ∧ sizedMet enc C.prog fn (OpenSpec.ofChange s) false (w.forCall tape i).memory i.args) ∧ ({} : Assume).holds C.prog (lone (Frame.enter C.prog f i.args .normal) [] (w.forCall tape i)))
    (contract : ∀ (W : World) (base : Nat) (args : Array Value) (ds gs : List (DataW H)) (before : List MemPlace),
      (∀ (j : Nat) t v, fn.params[j]? = some t → args[j]? = some v → Value.okWide C.prog W .any base t v) →
      DataW.Whole enc C.prog fn.params.toList s.vars false W args.toList ds gs before → X W args → W.ShapedOpen C.prog →
      Calls C.prog f args W fun e W' => ∃ v, e = .returned v ∧ s.post enc C.prog fn false true false false W args v W') :
    ReturnsInHanded {} C os f .any (fun w args => (s.pre enc C.prog fn [] false w args ∧ X w args) ∧ sizedMet enc C.prog fn (OpenSpec.ofChange s) false w args) (s.post enc C.prog fn false true false false) := by
  refine returnsInHanded_of_calls own started noInit witness ?_
  intro w tape i _ hsh _ hok hpre _
  obtain ⟨_, _, _, fn', hfn', _, _, _, _, hval⟩ := hok
  have e : fn' = fn := Option.some.inj (hfn'.symm.trans hfn)
  subst e
  obtain ⟨⟨⟨ds, gs, before, hw, _⟩, hx⟩, _⟩ := hpre
  have hw' := DataW.Whole.of_heap (w' := w.forCall tape i) (by rfl) hw
  refine (contract (w.forCall tape i) w.heap.size i.args ds gs before hval hw' (hX _ _ _ (by rfl) hx) hsh).mono fun e W' ⟨v, he, hp⟩ => ?_
  subst he
  exact ChangeSpec.post_blind hp
theorem Len.of_shape {W : World} (h : W.ShapedOpen Tryz.prog) (hs : 6 ≤ W.heap.size) : Len W := ⟨by omega, Tryz.laysM219.s1_3 W h⟩
theorem Len.later {W w : World} (h : Len W) (h1 : W.heap.size ≤ w.heap.size) (h2 : ∀ b, b < W.heap.size → w.heap[b]? = W.heap[b]?) : Len w := by
  obtain ⟨h0, m, hm⟩ := h
  refine ⟨by omega, m, ?_⟩
  rw [← hm]
  unfold World.cell?
  rw [h2 0 h0]
noncomputable def tm_157_0 : Tbl := [([.int .i64 100], .agg #[.int .u64 18446744073709551615, .int .u64 18446744073441116160]),
  ([.int .i64 101], .agg #[.int .u64 18446744073709551615, .int .u64 18446744073575333888]),
  ([.int .i64 102], .agg #[.int .u64 18446744073709551615, .int .u64 18446744073642442752]),
  ([.int .i64 103], .agg #[.int .u64 18446744073709551615, .int .u64 18446744073675997184]),
  ([.int .i64 104], .agg #[.int .u64 18446744073709551615, .int .u64 18446744073692774400]),
  ([.int .i64 96], .agg #[.int .u64 18446744073709551615, .int .u64 18446744069414584320]),
  ([.int .i64 97], .agg #[.int .u64 18446744073709551615, .int .u64 18446744071562067968]),
  ([.int .i64 98], .agg #[.int .u64 18446744073709551615, .int .u64 18446744072635809792]),
  ([.int .i64 99], .agg #[.int .u64 18446744073709551615, .int .u64 18446744073172680704])]
theorem tmo_157_0 (t_xdb32 t_xdb64 t_xp10 : TypeId) : tabOk (fun args => callD Tryz.prog (mkIntr maskA (extL extsA)) 1000 80 157 args (birth (heapA t_xdb32 t_xdb64 t_xp10) 64)) tm_157_0 = true := by kernel_rfl
noncomputable def tm_157 : Tbl := tm_157_0
theorem otm_157 {W : World} {t_xdb32 t_xdb64 t_xp10 : TypeId} (L : Laying 6 W (heapA t_xdb32 t_xdb64 t_xp10)) (hs : 6 ≤ W.heap.size) (hW : Len W) : OwnOk Tryz.prog W 6 157 (tabD tm_157) :=
  tab_ok (fn := Tryz.f157) (c := match Tryz.f157.body with | some c => c | none => .skip) L hs (by decide : 6 ≤ 64) dt_mixed okA extsA_tr (fun w h1 h2 => extsA_ok (hW.later h1 h2) 6) Tryz.func157 (by kernel_rfl) (by kernel_rfl) (tmo_157_0 t_xdb32 t_xdb64 t_xp10)
theorem extsA_ok2 {W : World} {t_xdb32 t_xdb64 t_xp10 : TypeId} (_ : Laying 6 W (heapA t_xdb32 t_xdb64 t_xp10)) (_ : 6 ≤ W.heap.size) (hW : Len W) : IntrOk Tryz.prog W 6 (extL extsA) := extsA_ok hW 6
noncomputable def extsM157 : List (Nat × Own) := (157, tabD tm_157) :: extsA
theorem extsM157_tr : IntrTr (extL extsM157) := by
  intro f g h
  unfold extsM157 extL at h
  split at h
  · cases h; exact tabD_tr _
  · exact extsA_tr f g h
theorem extsM157_ok {W : World} {t_xdb32 t_xdb64 t_xp10 : TypeId} (L : Laying 6 W (heapA t_xdb32 t_xdb64 t_xp10)) (hs : 6 ≤ W.heap.size) (hW : Len W) : IntrOk Tryz.prog W 6 (extL extsM157) := by
  intro f g h
  unfold extsM157 extL at h
  split at h
  · rename_i hb
    cases h
    rw [← Nat.eq_of_beq_eq_true hb]
    exact otm_157 L hs hW
  · exact extsA_ok2 L hs hW f g h
noncomputable def maskM : Nat := 3199732519554446575466609065808919748726579564349201338859519
theorem okM : (Nat.ble (maskM + 1) (Nat.shiftLeft 1 201) && okMask Tryz.prog 6 maskM 201) = true := by kernel_rfl
theorem wakeA_run (t_xdb32 t_xdb64 t_xp10 : TypeId) : isTrue (callD Tryz.prog (mkIntr maskM (extL extsM157)) 1000 80 6 [] (birth (heapA t_xdb32 t_xdb64 t_xp10) 64)) = true := by kernel_rfl
theorem wakeA_ok {W : World} {t_xdb32 t_xdb64 t_xp10 : TypeId} (L : Laying 6 W (heapA t_xdb32 t_xdb64 t_xp10)) (hs : 6 ≤ W.heap.size) (hW : Len W) : OwnOk Tryz.prog W 6 6 doneD :=
  done_ok (fn := Tryz.f6) (c := match Tryz.f6.body with | some c => c | none => .skip) L hs (by decide : 6 ≤ 64) dt_mixed okM extsM157_tr (fun w h1 h2 => extsM157_ok (L.move h1 h2 hs) (Nat.le_trans hs h1) (hW.later h1 h2)) Tryz.func6 (by kernel_rfl) (by kernel_rfl) (wakeA_run t_xdb32 t_xdb64 t_xp10)
noncomputable def extsB : List (Nat × Own) := (6, doneD) :: extsM157
theorem extsB_tr : IntrTr (extL extsB) := by
  intro f g h
  unfold extsB extL at h
  split at h
  · cases h; exact doneD_tr
  · exact extsM157_tr f g h
theorem extsB_ok {W : World} {t_xdb32 t_xdb64 t_xp10 : TypeId} (L : Laying 6 W (heapA t_xdb32 t_xdb64 t_xp10)) (hs : 6 ≤ W.heap.size) (hW : Len W) : IntrOk Tryz.prog W 6 (extL extsB) := by
  intro f g h
  unfold extsB extL at h
  split at h
  · rename_i hb
    cases h
    rw [← Nat.eq_of_beq_eq_true hb]
    exact wakeA_ok L hs hW
  · exact extsM157_ok L hs hW f g h
noncomputable def maskB : Nat := 3199732519554446575466609065808919748726579564349201338859455
theorem okB : (Nat.ble (maskB + 1) (Nat.shiftLeft 1 201) && okMask Tryz.prog 6 maskB 201) = true := by kernel_rfl
end Go.Proofs.YtklegdhcpoibfaaGreatDoor
