/- FactForms: at every start, whatever the number, the call returns true; the conditions: the tables that the row lists read as the program lays them. -/
import Derived.Test.YtklegdhcpoibfabGreatDoorRows
import Derived.Test.YtklegdhcpoibfabGreatDoorCards
import Derived.Test.YtklegdhcpoibfabGreatDoorTie
import Derived.Test.YtklegdhcpoibfabGreatDoorDetIntr3
import Derived.Test.YtklegdhcpoibfabGreatDoorDetOnceFa
import Derived.ChangeSame
import Derived.ProofKit
import Derived.LaidMore
import Derived.OpenShut
import Derived.Stop.Joined
import Derived.HandedShaped
import Derived.Lay
import Derived.Shelf.LaysM
import Derived.Shelf.Strings.Search2
import Derived.Shelf.Strings.Shaped
namespace Go.Proofs
open Go.Shelf
set_option maxRecDepth 100000
def Tryz.lays219_ren : Go.Shelf.Ren := ⟨fun | 219 => 109 | 217 => 154 | 225 => 155 | 224 => 156 | 267 => 157 | 266 => 198 | 314 => 199 | n => n, fun | 9 => 9 | 3 => 3 | 4 => 4 | 5 => 5 | 46 => 86 | 146 => 242 | 51 => 131 | n => n, fun | 1 => 0 | n => n⟩
theorem Tryz.lays219 : Go.Proofs.Lays.n219 Tryz.prog Tryz.lays219_ren := {
  mixed := by kernel_rfl
  f217 := Tryz.func154.trans (congrArg some (by kernel_rfl))
  f219 := Tryz.func109.trans (congrArg some (by kernel_rfl))
  f224 := Tryz.func156.trans (congrArg some (by kernel_rfl))
  f225 := Tryz.func155.trans (congrArg some (by kernel_rfl))
  f266 := Tryz.func198.trans (congrArg some (by kernel_rfl))
  f267 := Tryz.func157.trans (congrArg some (by kernel_rfl))
  f314 := Tryz.func199.trans (congrArg some (by kernel_rfl))
  t3 := Tryz.underlying3
  a3 := Tryz.isAgg3
  z3 := Tryz.sizeOf3
  v3 := Tryz.zeroValue3
  t4 := Tryz.underlying4
  a4 := Tryz.isAgg4
  z4 := Tryz.sizeOf4
  v4 := Tryz.zeroValue4
  t5 := Tryz.underlying5
  a5 := Tryz.isAgg5
  z5 := Tryz.sizeOf5
  v5 := Tryz.zeroValue5
  t9 := Tryz.underlying9
  a9 := Tryz.isAgg9
  z9 := Tryz.sizeOf9
  v9 := Tryz.zeroValue9
  t46 := Tryz.underlying86
  a46 := Tryz.isAgg86
  z46 := Tryz.sizeOf86
  v46 := Tryz.zeroValue86
  t51 := Tryz.underlying131
  a51 := Tryz.isAgg131
  z51 := Tryz.sizeOf131
  v51 := Tryz.zeroValue131
  t146 := Tryz.underlying242
  a146 := Tryz.isAgg242
  z146 := Tryz.sizeOf242
  v146 := Tryz.zeroValue242
  g1 := by kernel_rfl }
def Tryz.laysM219_ren : Go.Shelf.Ren := ⟨fun | 219 => 109 | 217 => 154 | 225 => 155 | 224 => 156 | 267 => 157 | 266 => 198 | 314 => 199 | n => n, fun | 9 => 9 | 3 => 3 | 4 => 4 | 5 => 5 | 46 => 86 | 146 => 242 | 51 => 131 | n => n, fun | 1 => 0 | n => n⟩
theorem Tryz.laysM219 : Go.Proofs.LaysM.n219 Tryz.prog Tryz.laysM219_ren := {
  mixed := by kernel_rfl
  f217 := Tryz.func154.trans (congrArg some (by kernel_rfl))
  f219 := Tryz.func109.trans (congrArg some (by kernel_rfl))
  f224 := Tryz.func156.trans (congrArg some (by kernel_rfl))
  f225 := Tryz.func155.trans (congrArg some (by kernel_rfl))
  f266 := Tryz.func198.trans (congrArg some (by kernel_rfl))
  f267 := Tryz.func157.trans (congrArg some (by kernel_rfl))
  f314 := Tryz.func199.trans (congrArg some (by kernel_rfl))
  t3 := Tryz.underlying3
  a3 := Tryz.isAgg3
  z3 := Tryz.sizeOf3
  v3 := Tryz.zeroValue3
  t4 := Tryz.underlying4
  a4 := Tryz.isAgg4
  z4 := Tryz.sizeOf4
  v4 := Tryz.zeroValue4
  t5 := Tryz.underlying5
  a5 := Tryz.isAgg5
  z5 := Tryz.sizeOf5
  v5 := Tryz.zeroValue5
  t9 := Tryz.underlying9
  a9 := Tryz.isAgg9
  z9 := Tryz.sizeOf9
  v9 := Tryz.zeroValue9
  t46 := Tryz.underlying86
  a46 := Tryz.isAgg86
  z46 := Tryz.sizeOf86
  v46 := Tryz.zeroValue86
  t51 := Tryz.underlying131
  a51 := Tryz.isAgg131
  z51 := Tryz.sizeOf131
  v51 := Tryz.zeroValue131
  t146 := Tryz.underlying242
  a146 := Tryz.isAgg242
  z146 := Tryz.sizeOf242
  v146 := Tryz.zeroValue242
  g1 := by kernel_rfl
  i3 := by kernel_rfl
  i4 := by kernel_rfl
  i5 := by kernel_rfl
  i9 := by kernel_rfl
  i46 := by kernel_rfl
  i51 := by kernel_rfl
  i146 := by kernel_rfl
  m1 := by kernel_rfl
  s1_3 := fun w h => Go.Proofs.cell_of_shapedOpen_int (zero := #[.int .i64 0]) (t := 3) h (of_decide_eq_true (by kernel_rfl)) (by kernel_rfl) rfl (by kernel_rfl) (by kernel_rfl) Tryz.underlying3 }
open Go.RowKit Go.Lib in
theorem Tryz.stringslite_Index (s sub : ByteArray) (m : Int) (w : World) (hs : s.size < 4294967281) (hm : w.cell? ⟨0, 0, none⟩ = some (.int .i64 m)) :
    Calls Tryz.prog 109 #[.string s, .string sub] w fun e w' => e = .returned (.int .i64 (Lib.index s.data.toList sub.data.toList)) ∧ w' = w := Any.stringslite_Index Tryz.lays219 s sub m w hs hm
end Go.Proofs
namespace Go.Proofs.YtklegdhcpoibfabGreatDoor
set_option maxRecDepth 100000
open Go.ChangeShapes Go.WideShapes Go.ChangeAt Go.RowKit Go.Det
theorem dt_own : ownKnob Tryz.prog.godebug = none := by kernel_rfl
theorem dt_mixed : Tryz.prog.follows .mixedOrders = true := by kernel_rfl
theorem u_u8 : Tryz.prog.underlying 5 = some (.int .u8) := by kernel_rfl
theorem c_u8 : Tryz.prog.cellsOf 5 = 1 := by kernel_rfl
theorem u_u64 : Tryz.prog.underlying 55 = some (.int .u64) := by kernel_rfl
theorem c_u64 : Tryz.prog.cellsOf 55 = 1 := by kernel_rfl
def db32 : List Int := [0, 1, 28, 2, 29, 14, 24, 3, 30, 22, 20, 15, 25, 17, 4, 8, 31, 27, 13, 23, 21, 19, 16, 7, 26, 12, 18, 6, 11, 5, 10, 9]
theorem db32_flat : flatL (db32.map (Value.int .u8)) = true := by kernel_rfl
theorem g_db32 : Tryz.prog.globalNamed "math/bits.deBruijn32tab" = some 2 := by kernel_rfl
theorem t_db32 : (Tryz.prog.globals[2]?).map (·.type) = some 281 := by kernel_rfl
theorem u_db32 : Tryz.prog.underlying 281 = some (.array 32 5) := by kernel_rfl
theorem c_db32 : Tryz.prog.cellsOf 281 = 32 := by kernel_rfl
def db64 : List Int := [0, 1, 56, 2, 57, 49, 28, 3, 61, 58, 42, 50, 38, 29, 17, 4, 62, 47, 59, 36, 45, 43, 51, 22, 53, 39, 33, 30, 24, 18, 12, 5, 63, 55, 48, 27, 60, 41, 37, 16, 46, 35, 44, 21, 52, 32, 23, 11, 54, 26, 40, 15, 34, 20, 31, 10, 25, 14, 19, 9, 13, 8, 7, 6]
theorem db64_flat : flatL (db64.map (Value.int .u8)) = true := by kernel_rfl
theorem g_db64 : Tryz.prog.globalNamed "math/bits.deBruijn64tab" = some 3 := by kernel_rfl
theorem t_db64 : (Tryz.prog.globals[3]?).map (·.type) = some 282 := by kernel_rfl
theorem u_db64 : Tryz.prog.underlying 282 = some (.array 64 5) := by kernel_rfl
theorem c_db64 : Tryz.prog.cellsOf 282 = 64 := by kernel_rfl
def p10 : List Int := [1, 10, 100, 1000, 10000, 100000, 1000000, 10000000, 100000000, 1000000000, 10000000000, 100000000000, 1000000000000, 10000000000000, 100000000000000, 1000000000000000, 10000000000000000, 100000000000000000, 1000000000000000000, 10000000000000000000]
theorem p10_flat : flatL (p10.map (Value.int .u64)) = true := by kernel_rfl
theorem g_p10 : Tryz.prog.globalNamed "internal/strconv.uint64pow10" = some 1 := by kernel_rfl
theorem t_p10 : (Tryz.prog.globals[1]?).map (·.type) = some 257 := by kernel_rfl
theorem u_p10 : Tryz.prog.underlying 257 = some (.array 20 55) := by kernel_rfl
theorem c_p10 : Tryz.prog.cellsOf 257 = 20 := by kernel_rfl
noncomputable def heapA (t_xdb32 t_xdb64 t_xp10 : TypeId) : Heap := Heap.set (Heap.set (Heap.set ([]) 2 (.cells (db32.map (Value.int .u8)) (2 * t_xdb32) true)) 3 (.cells (db64.map (Value.int .u8)) (2 * t_xdb64) true)) 1 (.cells (p10.map (Value.int .u64)) (2 * t_xp10) true)
abbrev laidA : List (String × DataW Unit) := [("math/bits.deBruijn32tab", Rows.laid_math_bits_deBruijn32tab), ("math/bits.deBruijn64tab", Rows.laid_math_bits_deBruijn64tab), ("internal/strconv.uint64pow10", Rows.laid_internal_strconv_uint64pow10), ("unicode/utf8.acceptRanges", Rows.laid_unicode_utf8_acceptRanges), ("unicode/utf8.first", Rows.laid_unicode_utf8_first)]
theorem g_top : Tryz.prog.globalNamed "unicode/utf8.acceptRanges" = some 5 := by kernel_rfl
theorem laidA_at {W : World} (h : laidMetH Tryz.prog laidA W) : ∃ t_xdb32 t_xdb64 t_xp10, Laying 6 W (heapA t_xdb32 t_xdb64 t_xp10) ∧ 6 ≤ W.heap.size := by
  rw [MakeChecks.laidMetH_plain _ _ _ (by kernel_rfl)] at h
  obtain ⟨ps, ⟨gdb32, ydb32, csdb32, fueldb32, pdb32, qdb32, hgdb32, htdb32, hvdb32, hddb32, ⟨gdb64, ydb64, csdb64, fueldb64, pdb64, qdb64, hgdb64, htdb64, hvdb64, hddb64, ⟨gp10, yp10, csp10, fuelp10, pp10, qp10, hgp10, htp10, hvp10, hdp10, ⟨gM, yM, csM, fuelM, pM, qM, hgM, htM, hvM, hdM, _, _⟩, _⟩, _⟩, _⟩, _⟩ := h
  obtain rfl := Option.some.inj (g_db32.symm.trans hgdb32)
  obtain rfl := Option.some.inj (t_db32.symm.trans htdb32)
  obtain ⟨t_xdb32, fzdb32, hbdb32⟩ := block_of_var g_db32 hvdb32
  obtain rfl := Option.some.inj (g_db64.symm.trans hgdb64)
  obtain rfl := Option.some.inj (t_db64.symm.trans htdb64)
  obtain ⟨t_xdb64, fzdb64, hbdb64⟩ := block_of_var g_db64 hvdb64
  obtain rfl := Option.some.inj (g_p10.symm.trans hgp10)
  obtain rfl := Option.some.inj (t_p10.symm.trans htp10)
  obtain ⟨t_xp10, fzp10, hbp10⟩ := block_of_var g_p10 hvp10
  obtain rfl := Option.some.inj (g_top.symm.trans hgM)
  obtain ⟨t_xM, fzM, hbM⟩ := block_of_var g_top hvM
  have hs : 6 ≤ W.heap.size := block_lt hbM
  have Ldb32 := (Laying.empty (G := 6) hs).lay (by decide) hbdb32 (ints_of_trod u_db32 u_u8 c_u8 c_db32 hddb32) db32_flat
  have Ldb64 := Ldb32.lay (by decide) hbdb64 (ints_of_trod u_db64 u_u8 c_u8 c_db64 hddb64) db64_flat
  have Lp10 := Ldb64.lay (by decide) hbp10 (ints_of_trod u_p10 u_u64 c_u64 c_p10 hdp10) p10_flat
  exact ⟨t_xdb32, t_xdb64, t_xp10, Lp10, hs⟩
theorem door_metA (os : Os) (args : Array Value) : laidMetH Tryz.prog laidA ((World.laidAll Tryz.prog os laidA).forCall (fun _ _ => 0) ⟨#[], args, []⟩).memory := by
  rw [MakeChecks.laidMetH_plain _ _ _ (by kernel_rfl)]
  exact laidMet_laidAll _ (by kernel_rfl) (by kernel_rfl)
def Len (W : World) : Prop := 0 < W.heap.size ∧ ∃ m, W.cell? ⟨0, 0, none⟩ = some (.int .i64 m)
theorem enterI (args : Array Value) (w : World) : (callFunc 109 args).run Tryz.prog w = .ok (.enter 109 args) w :=
  callFunc_run (fn := Tryz.f109) (c := match Tryz.f109.body with | some c => c | none => .skip) Tryz.func109 (by kernel_rfl) (by kernel_rfl) args w
theorem o109 {W : World} (hW : Len W) (G : Nat) : OwnOk Tryz.prog W G 109 (pureD indexH) := by
  refine index_ok enterI hW.1 fun s sub w hw hs => ?_
  obtain ⟨_, m, hm⟩ := hW
  refine Tryz.stringslite_Index s sub m w hs ?_
  rw [← hm]
  unfold World.cell?
  rw [hw]
theorem en196 : Entry Tryz.prog 196 Extern.AbiNoEscape.same := Entry.mk (fn := Tryz.f196) Tryz.func196 (by kernel_rfl) (by kernel_rfl) (by kernel_rfl) (by kernel_rfl)
theorem o196 {W : World} (_ : Len W) (G : Nat) : OwnOk Tryz.prog W G 196 sameD := same_ok en196
theorem en197 : Entry Tryz.prog 197 (Extern.BytealgMakeNoZero.makeNoZero Tryz.f197.params #[154]) := Entry.mk (fn := Tryz.f197) Tryz.func197 (by kernel_rfl) (by kernel_rfl) (by kernel_rfl) (by kernel_rfl)
theorem o197 {W : World} (_ : Len W) (G : Nat) : OwnOk Tryz.prog W G 197 (rawD 5) := raw_ok en197 (show Tryz.prog.underlying 154 = some (.slice 5) by kernel_rfl)
theorem en198 : Entry Tryz.prog 198 Extern.BytealgIndexByte.indexByte := Entry.mk (fn := Tryz.f198) Tryz.func198 (by kernel_rfl) (by kernel_rfl) (by kernel_rfl) (by kernel_rfl)
theorem o198 {W : World} (_ : Len W) (G : Nat) : OwnOk Tryz.prog W G 198 (pureD indexByteH) := indexByte_ok en198
theorem en225 : Entry Tryz.prog 225 Extern.BytealgCount.count := Entry.mk (fn := Tryz.f225) Tryz.func225 (by kernel_rfl) (by kernel_rfl) (by kernel_rfl) (by kernel_rfl)
theorem o225 {W : World} (_ : Len W) (G : Nat) : OwnOk Tryz.prog W G 225 (pureD countByteH) := countByte_ok en225
theorem en108 : Entry Tryz.prog 108 Extern.BytealgCompare.compare := Entry.mk (fn := Tryz.f108) Tryz.func108 (by kernel_rfl) (by kernel_rfl) (by kernel_rfl) (by kernel_rfl)
theorem o108 {W : World} (_ : Len W) (G : Nat) : OwnOk Tryz.prog W G 108 (pureD cmpH) := cmp_ok en108
theorem o231 {W : World} (_ : Len W) (G : Nat) : OwnOk Tryz.prog W G 231 allD := all_ok
noncomputable def extsA : List (Nat × Own) := [(108, pureD cmpH), (109, pureD indexH), (196, sameD), (197, rawD 5), (198, pureD indexByteH), (225, pureD countByteH), (231, allD)]
theorem extsA_tr : IntrTr (extL extsA) := extL_tr fun x hx => by
  simp only [extsA, List.mem_cons, List.not_mem_nil, or_false] at hx
  rcases hx with rfl | rfl | rfl | rfl | rfl | rfl | rfl
  · exact pureD_tr _
  · exact pureD_tr _
  · exact sameD_tr
  · exact rawD_tr 5
  · exact pureD_tr _
  · exact pureD_tr _
  · exact allD_tr
theorem extsA_ok {W : World} (hW : Len W) (G : Nat) : IntrOk Tryz.prog W G (extL extsA) := extL_ok fun x hx => by
  simp only [extsA, List.mem_cons, List.not_mem_nil, or_false] at hx
  rcases hx with rfl | rfl | rfl | rfl | rfl | rfl | rfl
  · exact o108 hW G
  · exact o109 hW G
  · exact o196 hW G
  · exact o197 hW G
  · exact o198 hW G
  · exact o225 hW G
  · exact o231 hW G
noncomputable def maskA : Nat := 944393182391386882037360399057128071940729755526205047869952262263755983630106623
theorem okA : (Nat.ble (maskA + 1) (Nat.shiftLeft 1 269) && okMask Tryz.prog 6 maskA 269) = true := by kernel_rfl
/-- the wrap of a row that lists variables, the start's shape kept -/
theorem wrap_shaped {H : Type} {enc : TypeId × Value → H} {C : Checked} {os : Os} {f : FuncId} {fn : Func} {s : ChangeSpec} {X : World → Array Value → Prop}
    (hX : ∀ (w w' : World) (args : Array Value), w.heap = w'.heap → X w args → X w' args)
    (own : ownKnob C.prog.godebug = none) (started : os.Started) (noInit : C.prog.inits.idxOf? f = none) (hfn : C.prog.funcs[f]? = some fn)
    (witness : ∃ (w : World) (tape : Tape) (i : Input), w.os = os ∧ (w.forCall tape i).Shaped C.prog ∧ i.vars = [] ∧ Input.okWide C.prog (w.forCall tape i) .any w.heap.size f i ∧
      ((s.pre enc C.prog fn [] false (w.forCall tape i).memory i.args ∧ X (w.forCall tape i).memory i.args) ∧ sizedMet enc C.prog fn (OpenSpec.ofChange s) false (w.forCall tape i).memory i.args) ∧ ({} : Assume).holds C.prog (lone (Frame.enter C.prog f i.args .normal) [] (w.forCall tape i)))
    (contract : ∀ (W : World) (base : Nat) (args : Array Value) (ds gs : List (DataW H)) (before : List MemPlace),
      (∀ (j : Nat) t v, fn.params[j]? = some t → args[j]? = some v → Value.okWide C.prog W .any base t v) →
      DataW.Whole enc C.prog fn.params.toList s.vars false W args.toList ds gs before → X W args → W.ShapedOpen C.prog →
      Calls C.prog f args W fun e W' => ∃ v, e = .returned v ∧ s.post enc C.prog fn false true false false W args v W') :
    ReturnsInHanded {} C os f .any (fun w args => (s.pre enc C.prog fn [] false w args ∧ X w args) ∧ sizedMet enc C.prog fn (OpenSpec.ofChange s) false w args) (s.post enc C.prog fn false true false false) := by
  refine returnsInHanded_of_calls own started noInit witness ?_
  intro w tape i _ hsh _ hok hpre _
  obtain ⟨_, _, _, fn', hfn', _, _, _, _, hval⟩ := hok
  have e : fn' = fn := Option.some.inj (hfn'.symm.trans hfn)
  subst e
  obtain ⟨⟨⟨ds, gs, before, hw, _⟩, hx⟩, _⟩ := hpre
  have hw' := DataW.Whole.of_heap (w' := w.forCall tape i) (by rfl) hw
  refine (contract (w.forCall tape i) w.heap.size i.args ds gs before hval hw' (hX _ _ _ (by rfl) hx) hsh).mono fun e W' ⟨v, he, hp⟩ => ?_
  subst he
  exact ChangeSpec.post_blind hp
theorem Len.of_shape {W : World} (h : W.ShapedOpen Tryz.prog) (hs : 6 ≤ W.heap.size) : Len W := ⟨by omega, Tryz.laysM219.s1_3 W h⟩
theorem Len.later {W w : World} (h : Len W) (h1 : W.heap.size ≤ w.heap.size) (h2 : ∀ b, b < W.heap.size → w.heap[b]? = W.heap[b]?) : Len w := by
  obtain ⟨h0, m, hm⟩ := h
  refine ⟨by omega, m, ?_⟩
  rw [← hm]
  unfold World.cell?
  rw [h2 0 h0]
theorem wakeA_run (t_xdb32 t_xdb64 t_xp10 : TypeId) : isTrue (callD Tryz.prog (mkIntr maskA (extL extsA)) 1000 80 8 [] (birth (heapA t_xdb32 t_xdb64 t_xp10) 64)) = true := by kernel_rfl
theorem wakeA_ok {W : World} {t_xdb32 t_xdb64 t_xp10 : TypeId} (L : Laying 6 W (heapA t_xdb32 t_xdb64 t_xp10)) (hs : 6 ≤ W.heap.size) (hW : Len W) : OwnOk Tryz.prog W 6 8 doneD :=
  done_ok (fn := Tryz.f8) (c := match Tryz.f8.body with | some c => c | none => .skip) L hs (by decide : 6 ≤ 64) dt_mixed okA extsA_tr (fun w h1 h2 => extsA_ok (hW.later h1 h2) 6) Tryz.func8 (by kernel_rfl) (by kernel_rfl) (wakeA_run t_xdb32 t_xdb64 t_xp10)
noncomputable def extsB : List (Nat × Own) := (8, doneD) :: extsA
theorem extsB_tr : IntrTr (extL extsB) := by
  intro f g h
  unfold extsB extL at h
  split at h
  · cases h; exact doneD_tr
  · exact extsA_tr f g h
theorem extsB_ok {W : World} {t_xdb32 t_xdb64 t_xp10 : TypeId} (L : Laying 6 W (heapA t_xdb32 t_xdb64 t_xp10)) (hs : 6 ≤ W.heap.size) (hW : Len W) : IntrOk Tryz.prog W 6 (extL extsB) := by
  intro f g h
  unfold extsB extL at h
  split at h
  · rename_i hb
    cases h
    rw [← Nat.eq_of_beq_eq_true hb]
    exact wakeA_ok L hs hW
  · exact extsA_ok hW 6 f g h
noncomputable def maskB : Nat := 944393182391386882037360399057128071940729755526205047869952262263755983630106367
theorem okB : (Nat.ble (maskB + 1) (Nat.shiftLeft 1 269) && okMask Tryz.prog 6 maskB 269) = true := by kernel_rfl
end Go.Proofs.YtklegdhcpoibfabGreatDoor
