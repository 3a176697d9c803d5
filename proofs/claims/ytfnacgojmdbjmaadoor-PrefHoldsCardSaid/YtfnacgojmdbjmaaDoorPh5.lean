/- What the laws of addresses share: the listed tables, the library's entries, the closed run of their waking. -/
import Derived.Test.YtfnacgojmdbjmaaDoorPh3
import Derived.Test.YtfnacgojmdbjmaaDoorPh4
import Derived.Test.YtfnacgojmdbjmaaDoorDetIdx
import Derived.HandedShaped
import Derived.Lay
namespace Go.Proofs.YtfnacgojmdbjmaaDoor
open Go.ChangeShapes Go.WideShapes Go.ChangeAt Go.RowKit Go.Det
set_option maxRecDepth 100000

def p10 : List Int := [1, 10, 100, 1000, 10000, 100000, 1000000, 10000000, 100000000, 1000000000, 10000000000, 100000000000, 1000000000000, 10000000000000, 100000000000000, 1000000000000000, 10000000000000000, 100000000000000000, 1000000000000000000, 10000000000000000000]
def db32 : List Int := [0, 1, 28, 2, 29, 14, 24, 3, 30, 22, 20, 15, 25, 17, 4, 8, 31, 27, 13, 23, 21, 19, 16, 7, 26, 12, 18, 6, 11, 5, 10, 9]
theorem p10_flat : flatL (p10.map (Value.int .u64)) = true := by kernel_rfl
theorem db32_flat : flatL (db32.map (Value.int .u8)) = true := by kernel_rfl
theorem g_p10 : Tryd.prog.globalNamed "internal/strconv.uint64pow10" = some 2 := by kernel_rfl
theorem g_db32 : Tryd.prog.globalNamed "math/bits.deBruijn32tab" = some 5 := by kernel_rfl
theorem t_p10 : (Tryd.prog.globals[2]?).map (·.type) = some 132 := by kernel_rfl
theorem t_db32 : (Tryd.prog.globals[5]?).map (·.type) = some 140 := by kernel_rfl
theorem u_p10 : Tryd.prog.underlying 132 = some (.array 20 27) := by kernel_rfl
theorem u_db32 : Tryd.prog.underlying 140 = some (.array 32 5) := by kernel_rfl
theorem u_u64 : Tryd.prog.underlying 27 = some (.int .u64) := by kernel_rfl
theorem c_u64 : Tryd.prog.cellsOf 27 = 1 := by kernel_rfl
theorem c_p10 : Tryd.prog.cellsOf 132 = 20 := by kernel_rfl
theorem c_db32 : Tryd.prog.cellsOf 140 = 32 := by kernel_rfl

abbrev laidA : List (String × DataW Unit) := [("math/bits.deBruijn32tab", Rows.laid_math_bits_deBruijn32tab), ("math/bits.deBruijn64tab", Rows.laid_math_bits_deBruijn64tab), ("internal/strconv.uint64pow10", Rows.laid_internal_strconv_uint64pow10), ("unicode/utf8.acceptRanges", Rows.laid_unicode_utf8_acceptRanges), ("unicode/utf8.first", Rows.laid_unicode_utf8_first)]

noncomputable def heapA (t0 t2 t5 : TypeId) : Heap := Heap.set (Heap.set (Heap.set [] 5 (.cells (db32.map (Value.int .u8)) (2 * t5) true)) 0 (.cells (db64.map (Value.int .u8)) (2 * t0) true)) 2 (.cells (p10.map (Value.int .u64)) (2 * t2) true)

theorem laidA_at {W : World} (h : laidMetH Tryd.prog laidA W) : ∃ t0 t2 t5, Laying 6 W (heapA t0 t2 t5) ∧ 6 ≤ W.heap.size := by
  rw [MakeChecks.laidMetH_plain _ _ _ (by kernel_rfl)] at h
  obtain ⟨ps, ⟨g5, y5, cs5, fuel5, p5, q5, hg5, ht5, hv5, hd5, ⟨g0, y0, cs0, fuel0, p0, q0, hg0, ht0, hv0, hd0, ⟨g2, y2, cs2, fuel2, p2, q2, hg2, ht2, hv2, hd2, _, _⟩, _⟩, _⟩, _, _⟩ := h
  obtain rfl := Option.some.inj (g_db32.symm.trans hg5)
  obtain rfl := Option.some.inj (t_db32.symm.trans ht5)
  obtain rfl := Option.some.inj (g_db64.symm.trans hg0)
  obtain rfl := Option.some.inj (t_db64.symm.trans ht0)
  obtain rfl := Option.some.inj (g_p10.symm.trans hg2)
  obtain rfl := Option.some.inj (t_p10.symm.trans ht2)
  obtain ⟨t5, fz5, hb5⟩ := block_of_var g_db32 hv5
  obtain ⟨t0, fz0, hb0⟩ := block_of_var g_db64 hv0
  obtain ⟨t2, fz2, hb2⟩ := block_of_var g_p10 hv2
  have hs : 6 ≤ W.heap.size := block_lt hb5
  have L5 := (Laying.empty (G := 6) hs).lay (by decide) hb5 (ints_of_trod u_db32 u_u8 c_u8 c_db32 hd5) db32_flat
  have L0 := L5.lay (by decide) hb0 (ints_of_trod u_db64 u_u8 c_u8 c_db64 hd0) db64_flat
  have L2 := L0.lay (by decide) hb2 (ints_of_trod u_p10 u_u64 c_u64 c_p10 hd2) p10_flat
  exact ⟨t0, t2, t5, L2, hs⟩

theorem door_metA (os : Os) (args : Array Value) : laidMetH Tryd.prog laidA ((World.laidAll Tryd.prog os laidA).forCall (fun _ _ => 0) ⟨#[], args, []⟩).memory := by
  rw [MakeChecks.laidMetH_plain _ _ _ (by kernel_rfl)]
  exact laidMet_laidAll _ (by kernel_rfl) (by kernel_rfl)

/-! the library's entries -/
theorem ea48 : Entry Tryd.prog 48 add64Entry := Entry.mk (fn := Tryd.f48) Tryd.func48 (by kernel_rfl) (by kernel_rfl) (by kernel_rfl) (by kernel_rfl)
theorem ea49 : Entry Tryd.prog 49 sub64Entry := Entry.mk (fn := Tryd.f49) Tryd.func49 (by kernel_rfl) (by kernel_rfl) (by kernel_rfl) (by kernel_rfl)
theorem e99 : Entry Tryd.prog 99 Extern.AbiNoEscape.same := Entry.mk (fn := Tryd.f99) Tryd.func99 (by kernel_rfl) (by kernel_rfl) (by kernel_rfl) (by kernel_rfl)
theorem e101 : Entry Tryd.prog 101 Extern.BytealgIndexByte.indexByte := Entry.mk (fn := Tryd.f101) Tryd.func101 (by kernel_rfl) (by kernel_rfl) (by kernel_rfl) (by kernel_rfl)
theorem e105 : Entry Tryd.prog 105 Extern.BytealgCount.count := Entry.mk (fn := Tryd.f105) Tryd.func105 (by kernel_rfl) (by kernel_rfl) (by kernel_rfl) (by kernel_rfl)
theorem e100 : Entry Tryd.prog 100 (Extern.BytealgMakeNoZero.makeNoZero Tryd.f100.params #[104]) := Entry.mk (fn := Tryd.f100) Tryd.func100 (by kernel_rfl) (by kernel_rfl) (by kernel_rfl) (by kernel_rfl)
theorem u_104 : Tryd.prog.underlying 104 = some (.slice 5) := by kernel_rfl
theorem enter82 (args : Array Value) (w : World) : (callFunc 82 args).run Tryd.prog w = .ok (.enter 82 args) w :=
  callFunc_run (fn := Tryd.f82) (c := match Tryd.f82.body with | some c => c | none => .skip) Tryd.func82 (by kernel_rfl) (by kernel_rfl) args w

/-- a start at which the library's own variable holds some number -/
def Len (W : World) : Prop := 1 < W.heap.size ∧ ∃ m, W.cell? ⟨1, 0, none⟩ = some (.int .i64 m)

noncomputable def extsA : List (Nat × Own) := [(48, pureD addH), (49, pureD subH), (82, pureD indexH), (99, sameD), (100, rawD 5), (101, pureD indexByteH), (105, pureD countByteH)]
theorem extsA_tr : IntrTr (extL extsA) := extL_tr fun x hx => by
  simp only [extsA, List.mem_cons, List.not_mem_nil, or_false] at hx
  rcases hx with rfl | rfl | rfl | rfl | rfl | rfl | rfl
  · exact pureD_tr _
  · exact pureD_tr _
  · exact pureD_tr _
  · exact sameD_tr
  · exact rawD_tr 5
  · exact pureD_tr _
  · exact pureD_tr _
theorem oa48 (W : World) (G : Nat) : OwnOk Tryd.prog W G 48 (pureD addH) := add64_ok ea48
theorem oa49 (W : World) (G : Nat) : OwnOk Tryd.prog W G 49 (pureD subH) := sub64_ok ea49
theorem oa99 (W : World) (G : Nat) : OwnOk Tryd.prog W G 99 sameD := same_ok e99
theorem oa100 (W : World) (G : Nat) : OwnOk Tryd.prog W G 100 (rawD 5) := raw_ok e100 u_104
theorem oa101 (W : World) (G : Nat) : OwnOk Tryd.prog W G 101 (pureD indexByteH) := indexByte_ok e101
theorem oa105 (W : World) (G : Nat) : OwnOk Tryd.prog W G 105 (pureD countByteH) := countByte_ok e105
theorem oa82 {W : World} (hW : Len W) (G : Nat) : OwnOk Tryd.prog W G 82 (pureD indexH) := by
  refine index_ok enter82 hW.1 fun s sub w hw hs => ?_
  obtain ⟨_, m, hm⟩ := hW
  refine Tryd.stringslite_Index s sub m w hs ?_
  rw [← hm]
  unfold World.cell?
  rw [hw]
theorem extsA_ok {W : World} (hW : Len W) (G : Nat) : IntrOk Tryd.prog W G (extL extsA) := extL_ok fun x hx => by
  simp only [extsA, List.mem_cons, List.not_mem_nil, or_false] at hx
  rcases hx with rfl | rfl | rfl | rfl | rfl | rfl | rfl
  · exact oa48 W G
  · exact oa49 W G
  · exact oa82 hW G
  · exact oa99 W G
  · exact oa100 W G
  · exact oa101 W G
  · exact oa105 W G

noncomputable def maskA : Nat := 10339592115925849834004918065692671
theorem okA : (Nat.ble (maskA + 1) (Nat.shiftLeft 1 113) && okMask Tryd.prog 6 maskA 113) = true := by kernel_rfl

/-- the wrap of a row that lists variables, the start's shape kept -/
theorem wrap_shaped {H : Type} {enc : TypeId × Value → H} {C : Checked} {os : Os} {f : FuncId} {fn : Func} {s : ChangeSpec} {X : World → Array Value → Prop}
    (hX : ∀ (w w' : World) (args : Array Value), w.heap = w'.heap → X w args → X w' args)
    (own : ownKnob C.prog.godebug = none) (started : os.Started) (noInit : C.prog.inits.idxOf? f = none) (hfn : C.prog.funcs[f]? = some fn)
    (witness : ∃ (w : World) (tape : Tape) (i : Input), w.os = os ∧ (w.forCall tape i).Shaped C.prog ∧ i.vars = [] ∧ Input.okWide C.prog (w.forCall tape i) .any w.heap.size f i ∧
      ((s.pre enc C.prog fn [] false (w.forCall tape i).memory i.args ∧ X (w.forCall tape i).memory i.args) ∧ sizedMet enc C.prog fn (OpenSpec.ofChange s) false (w.forCall tape i).memory i.args) ∧ ({} : Assume).holds C.prog (lone (Frame.enter C.prog f i.args .normal) [] (w.forCall tape i)))
    (contract : ∀ (W : World) (base : Nat) (args : Array Value) (ds gs : List (DataW H)) (before : List MemPlace),
      (∀ (j : Nat) t v, fn.params[j]? = some t → args[j]? = some v → Value.okWide C.prog W .any base t v) →
      DataW.Whole enc C.prog fn.params.toList s.vars false W args.toList ds gs before → X W args → W.ShapedOpen C.prog →
      Calls C.prog f args W fun e W' => ∃ v, e = .returned v ∧ s.post enc C.prog fn false true false false W args v W') :
    ReturnsInHanded {} C os f .any (fun w args => (s.pre enc C.prog fn [] false w args ∧ X w args) ∧ sizedMet enc C.prog fn (OpenSpec.ofChange s) false w args) (s.post enc C.prog fn false true false false) := by
  refine returnsInHanded_of_calls own started noInit witness ?_
  intro w tape i _ hsh _ hok hpre _
  obtain ⟨_, _, _, fn', hfn', _, _, _, _, hval⟩ := hok
  have e : fn' = fn := Option.some.inj (hfn'.symm.trans hfn)
  subst e
  obtain ⟨⟨⟨ds, gs, before, hw, _⟩, hx⟩, _⟩ := hpre
  have hw' := DataW.Whole.of_heap (w' := w.forCall tape i) (by rfl) hw
  refine (contract (w.forCall tape i) w.heap.size i.args ds gs before hval hw' (hX _ _ _ (by rfl) hx) hsh).mono fun e W' ⟨v, he, hp⟩ => ?_
  subst he
  exact ChangeSpec.post_blind hp

theorem Len.of_shape {W : World} (h : W.ShapedOpen Tryd.prog) (hs : 6 ≤ W.heap.size) : Len W := ⟨by omega, Tryd.laysM219.s1_3 W h⟩

theorem Len.later {W w : World} (h : Len W) (h1 : W.heap.size ≤ w.heap.size) (h2 : ∀ b, b < W.heap.size → w.heap[b]? = W.heap[b]?) : Len w := by
  obtain ⟨h0, m, hm⟩ := h
  refine ⟨by omega, m, ?_⟩
  rw [← hm]
  unfold World.cell?
  rw [h2 1 h0]

/-! what the laws wake: once for all -/
theorem wakeA_run (t0 t2 t5 : TypeId) : isTrue (callD Tryd.prog (mkIntr maskA (extL extsA)) 1000 60 27 [] (birth (heapA t0 t2 t5) 64)) = true := by kernel_rfl
theorem wakeA_ok {W : World} {t0 t2 t5 : TypeId} (L : Laying 6 W (heapA t0 t2 t5)) (hs : 6 ≤ W.heap.size) (hW : Len W) : OwnOk Tryd.prog W 6 27 doneD :=
  done_ok (fn := Tryd.f27) (c := match Tryd.f27.body with | some c => c | none => .skip) L hs (by decide : 6 ≤ 64) dt_mixed okA extsA_tr (fun w h1 h2 => extsA_ok (hW.later h1 h2) 6) Tryd.func27 (by kernel_rfl) (by kernel_rfl) (wakeA_run t0 t2 t5)

noncomputable def extsB : List (Nat × Own) := (27, doneD) :: extsA
theorem extsB_tr : IntrTr (extL extsB) := by
  intro f g h
  unfold extsB extL at h
  split at h
  · cases h; exact doneD_tr
  · exact extsA_tr f g h
theorem extsB_ok {W : World} {t0 t2 t5 : TypeId} (L : Laying 6 W (heapA t0 t2 t5)) (hs : 6 ≤ W.heap.size) (hW : Len W) : IntrOk Tryd.prog W 6 (extL extsB) := by
  intro f g h
  unfold extsB extL at h
  split at h
  · rename_i hb
    cases h
    rw [← Nat.eq_of_beq_eq_true hb]
    exact wakeA_ok L hs hW
  · exact extsA_ok hW 6 f g h
noncomputable def maskB : Nat := 10339592115925849834004917931474943
theorem okB : (Nat.ble (maskB + 1) (Nat.shiftLeft 1 113) && okMask Tryd.prog 6 maskB 113) = true := by kernel_rfl
end Go.Proofs.YtfnacgojmdbjmaaDoor
