/- Worlds in which the listed tables lie as the program lays them (seat of the ranges); what the law wakes; the library's trailing zeros there. -/
import Derived.Test.YtfnacgojmdbjmaaGreatDoorRo5
import Derived.Below
import Derived.Deep.Draws
import Derived.Shelf.Spec.TrailingZeros
namespace Go.Det
open Go.RowKit
variable {P : Program}

/-- What an entry answers, the call comes to; below the world's end nothing is turned. -/
theorem own_calls {G : Nat} {f : FuncId} {fn : Func} {c : Code} {g : Own} {w : World} {args : List Value} {v : Value} {s' : St} (h : OwnOk P w G f g) (hG : G ≤ 64) (hs : G ≤ w.heap.size)
    (hf : P.funcs[f]? = some fn) (hb : fn.body = some c) (hn : (fn.name == "runtime.NumGoroutine") = false) (e : g args (birth [] 64) = some (v, s')) (h1 : flat2L args = true) (h2 : flat v = true) (h3 : v ≠ und) :
    Calls P f ⟨args⟩ w fun e w' => e = .returned v ∧ Below w.heap.size w w' := by
  have L := Laying.empty (G := G) hs
  have k := h args (birth [] 64) v s' e (glob G w) w args L.hr (glob_glob G w) (flat2L_self h1 _) (fun id q _ => glob_top G w hG id q) ⟨Nat.le_refl _, fun id q _ => L.top id (Nat.le_trans hG q)⟩
  rw [callFunc_run hf hb hn] at k
  refine Calls.mono k ?_
  rintro e w' ⟨v', φ', rfl, _, hv, H⟩
  rw [flat_inv h2 hv h3]
  exact ⟨rfl, H.os, H.tape, H.output, H.size, fun j hj => H.old j hj⟩

end Go.Det
namespace Go.Proofs.YtfnacgojmdbjmaaGreatDoor
open Go.Det Go.RowKit
set_option maxRecDepth 100000

structure GoodW (w : World) : Prop where
  lay : ∃ t0 t1 t2, Laying 6 w (heapA t0 t1 t2)
  size : 6 ≤ w.heap.size
  len : Len w
theorem GoodW.later {W w : World} (h : GoodW W) (h1 : W.heap.size ≤ w.heap.size) (h2 : ∀ b, b < W.heap.size → w.heap[b]? = W.heap[b]?) : GoodW w := by
  obtain ⟨t0, t1, t2, L⟩ := h.lay
  exact ⟨⟨t0, t1, t2, L.move h1 h2 h.size⟩, Nat.le_trans h.size h1, h.len.later h1 h2⟩
theorem GoodW.below {w w' : World} (h : GoodW w) (k : Below w.heap.size w w') : GoodW w' := h.later k.size k.block
theorem GoodW.drew {w : World} (h : GoodW w) : GoodW w.drew := h.later (Nat.le_refl _) (fun _ _ => rfl)
theorem GoodW.drewN {w : World} (h : GoodW w) (n : Nat) : GoodW (w.drewN n) := h.later (Nat.le_refl _) (fun _ _ => rfl)

theorem st_awake34 (w : World) (hG : GoodW w) : Calls Tryz.prog 34 #[] w fun e w' => e = .returned (.bool true) ∧ Below w.heap.size w w' := by
  obtain ⟨t0, t1, t2, L⟩ := hG.lay
  exact own_calls (fn := Tryz.f34) (c := match Tryz.f34.body with | some c => c | none => .skip) (wakeA_ok L hG.size hG.len) (by decide) hG.size Tryz.func34 (by kernel_rfl) (by kernel_rfl) (s' := birth [] 64) rfl rfl rfl (by intro h; cases h)

/-! trailing zeros -/
def Tryz.lays29_ren : Go.Shelf.Ren := ⟨fun | 29 => 109 | n => n, fun | 0 => 0 | 3 => 3 | 4 => 4 | 5 => 5 | 22 => 23 | 25 => 39 | 54 => 127 | n => n, fun | 1 => 1 | n => n⟩
theorem db64_nat : db64 = Lib.deBruijn64tab.map Int.ofNat := by decide
theorem tab_at {w : World} (hG : GoodW w) : TabAt 1 Lib.deBruijn64tab w := by
  obtain ⟨t0, t1, t2, L⟩ := hG.lay
  intro j hj
  have hget : (heapA t0 t1 t2).get 1 = some (.cells (db64.map (Value.int .u8)) (2 * t1) true) := by
    unfold heapA
    simp only [Heap.get_set]
    rfl
  obtain ⟨b, sh, sz, c, fz, k⟩ := L.hr.cells _ _ _ _ hget
  have hat := k.at_
  unfold glob at hat
  rw [if_pos (by decide)] at hat
  cases hat
  have hl : j < (db64.map (Value.int .u8)).length := by rw [db64_nat]; simpa using hj
  have hc := k.cell j hl
  rw [cell_at k.blk j (by have := k.fit; have := k.size; omega)]
  rw [Nat.zero_add] at hc
  rw [db64_nat] at hc
  have e : ((Lib.deBruijn64tab.map Int.ofNat).map (Value.int .u8)).getD j und = .int .u8 ((Lib.deBruijn64tab.getD j 0 : Nat) : Int) := by
    simp [List.getD_eq_getElem?_getD, List.getElem?_eq_getElem hj]
  rw [e] at hc
  rw [int_inv hc]
theorem Tryz.lays29 : Go.Proofs.Lays7.n29 Tryz.prog Tryz.lays29_ren := {
  mixed := by kernel_rfl
  f29 := Tryz.func109.trans (congrArg some (by kernel_rfl))
  t0 := Tryz.underlying0
  a0 := Tryz.isAgg0
  z0 := Tryz.sizeOf0
  v0 := Tryz.zeroValue0
  i0 := by kernel_rfl
  t3 := Tryz.underlying3
  a3 := Tryz.isAgg3
  z3 := Tryz.sizeOf3
  v3 := Tryz.zeroValue3
  i3 := by kernel_rfl
  t4 := Tryz.underlying4
  a4 := Tryz.isAgg4
  z4 := Tryz.sizeOf4
  v4 := Tryz.zeroValue4
  i4 := by kernel_rfl
  t5 := Tryz.underlying5
  a5 := Tryz.isAgg5
  z5 := Tryz.sizeOf5
  v5 := Tryz.zeroValue5
  i5 := by kernel_rfl
  t22 := Tryz.underlying23
  a22 := Tryz.isAgg23
  z22 := Tryz.sizeOf23
  v22 := Tryz.zeroValue23
  i22 := by kernel_rfl
  t25 := Tryz.underlying39
  a25 := Tryz.isAgg39
  z25 := Tryz.sizeOf39
  v25 := Tryz.zeroValue39
  i25 := by kernel_rfl
  t54 := Tryz.underlying127
  a54 := Tryz.isAgg127
  z54 := Tryz.sizeOf127
  g1 := by kernel_rfl }
/-- bits.TrailingZeros64, whatever the number -/
theorem st_tz {x r : Int} {w : World} (hG : GoodW w) (h : (if 0 ≤ x ∧ x < 18446744073709551616 then some ((Lib.ctz 64 x.toNat : Nat) : Int) else none) = some r) :
    Calls Tryz.prog 109 #[.int .u64 x] w fun e w' => e = .returned (.int .i64 r) ∧ w' = w := by
  split at h
  case isFalse => cases h
  rename_i hx
  cases h
  obtain ⟨n, rfl⟩ := Int.eq_ofNat_of_zero_le hx.1
  exact Any7.bits_TrailingZeros64 Tryz.lays29 n (by omega) w (fun _ => tab_at hG)

end Go.Proofs.YtfnacgojmdbjmaaGreatDoor
