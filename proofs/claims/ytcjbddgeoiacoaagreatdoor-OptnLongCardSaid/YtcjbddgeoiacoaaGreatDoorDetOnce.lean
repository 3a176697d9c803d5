/- What optn.All comes to: its once is new, so its table is laid, once; the conditions: none. -/
import Derived.Test.YtcjbddgeoiacoaaGreatDoorDetMemo
import Derived.Test.YtcjbddgeoiacoaaGreatDoorProg
import Derived.Tactics
import Derived.Tactics2
import Derived.Defers
import Derived.Laws.Pointers
import Derived.Laws.LoneSync
import Derived.Laws.NewBlocks
import Derived.RegionTactic
import Derived.RegionCalls
import Derived.ChangeAlike
import Derived.Below
import Derived.KernelRfl
namespace Go.Proofs.YtcjbddgeoiacoaaGreatDoor
open Go.Det Go.RowKit
set_option maxRecDepth 100000

theorem once_disable (w : World) : (callFunc 104 #[]).run Tryz.prog w = .ok (.value (.tuple #[])) w := run_call_mark0 Tryz.func104 (by kernel_rfl) (by kernel_rfl) (by kernel_rfl) .disable (by kernel_rfl) w
theorem once_enable (w : World) : (callFunc 106 #[]).run Tryz.prog w = .ok (.value (.tuple #[])) w := run_call_mark0 Tryz.func106 (by kernel_rfl) (by kernel_rfl) (by kernel_rfl) .enable (by kernel_rfl) w
theorem once_acquire (a : Addr) (w : World) : (callFunc 107 #[.pointer (some a)]).run Tryz.prog w = .ok (.value (.tuple #[])) w := run_call_marked Tryz.func107 (by kernel_rfl) (by kernel_rfl) (by kernel_rfl) .acquire (by kernel_rfl) a w
theorem once_release (a : Addr) (w : World) : (callFunc 109 #[.pointer (some a)]).run Tryz.prog w = .ok (.value (.tuple #[])) w := run_call_marked Tryz.func109 (by kernel_rfl) (by kernel_rfl) (by kernel_rfl) .releaseMerge (by kernel_rfl) a w

theorem once_store (a : Addr) (x : Value) (u : FrameMode) (w : World) (hc : w.cell? a = some x) (hz : w.frozen? a = false) :
    CallsD Tryz.prog 67 #[.pointer (some a), .bool true] u w fun e u' w' => u' = u ∧ (e = .returned (.tuple #[]) ∧ w' = w.drew.setCell a (.int .u32 1)) := by
  have hc' : w.drew.cell? a = some x := by go_simp
  have hz' : w.drew.frozen? a = false := by go_simp
  have hst := run_call_store (P := Tryz.prog) Tryz.func83 (by kernel_rfl) (by kernel_rfl) (by kernel_rfl) (by kernel_rfl) (k := .u32) (y := 1) hc' hz'
  go_enter_d Tryz.func67, Tryz.ntmps67
  go_wp2
  go_region_calls
  all_goals (go_end0; exact ⟨rfl, rfl⟩)

theorem once_unlock (a : Addr) (u : FrameMode) (w : World) (hc : w.cell? a = some (.int .i32 1)) (hz : w.frozen? a = false) :
    CallsD Tryz.prog 66 #[.pointer (some a)] u w fun e u' w' => u' = u ∧ (e = .returned (.tuple #[]) ∧ w' = w.setCell a (.int .i32 0)) := by
  have hd := once_disable
  have he := once_enable
  have hr := once_release
  have hadd := run_call_add (P := Tryz.prog) Tryz.func110 (by kernel_rfl) (by kernel_rfl) (by kernel_rfl) .i32 (by kernel_rfl) (y := -1) (s := 0) hc hz (by simp [go_sem]; rfl)
  have hcv := run_convert_to_unsafe (P := Tryz.prog) (src := 136) (dst := 140) Tryz.underlying136 Tryz.underlying140 (by kernel_rfl) hc
  go_enter_d Tryz.func66, Tryz.ntmps66
  go_wp2
  go_end0
  go_wp2
  go_end0
  exact ⟨rfl, rfl⟩

theorem once_lock (a : Addr) (w : World) (hc : w.cell? a = some (.int .i32 0)) (hz : w.frozen? a = false) :
    Calls Tryz.prog 65 #[.pointer (some a)] w fun e w' => e = .returned (.tuple #[]) ∧ w' = w.setCell a (.int .i32 1) := by
  have hd := once_disable
  have he := once_enable
  have ha := once_acquire
  have hcas := run_call_cas_hit (P := Tryz.prog) Tryz.func105 (by kernel_rfl) (by kernel_rfl) (by kernel_rfl) .i32 (by kernel_rfl) (y := 1) hc hz
  have hc' : (w.setCell a (.int .i32 1)).cell? a = some (.int .i32 1) := World.cell?_setCell_same w a _ hc
  have hcv := run_convert_to_unsafe (P := Tryz.prog) (src := 136) (dst := 140) Tryz.underlying136 Tryz.underlying140 (by kernel_rfl) hc'
  go_enter Tryz.func65, Tryz.ntmps65
  go_wp2
  first | go_end0 | (simp only [Exit.inBlock, Exit.then]; refine bodyPost_ret (results_none rfl _ _ _) rfl ?_) | refine bodyPost_ret (results_none rfl _ _ _) rfl ?_
  go_wp2
  go_end0
  exact ⟨rfl, rfl⟩

noncomputable def tabC : List Value := [.int .i64 4, .int .i64 3, .int .i64 2, .string ⟨#[114, 111, 117, 116, 101, 114, 115]⟩, .string ⟨#[114, 111, 117, 116, 101, 114, 115]⟩, .int .i64 4, .int .i64 6, .int .i64 2, .string ⟨#[100, 111, 109, 97, 105, 110, 45, 110, 97, 109, 101, 45, 115, 101, 114, 118, 101, 114, 115]⟩, .string ⟨#[100, 111, 109, 97, 105, 110, 45, 110, 97, 109, 101, 45, 115, 101, 114, 118, 101, 114, 115]⟩, .int .i64 4, .int .i64 12, .int .i64 4, .string ⟨#[104, 111, 115, 116, 45, 110, 97, 109, 101]⟩, .string ⟨#[104, 111, 115, 116, 45, 110, 97, 109, 101]⟩, .int .i64 4, .int .i64 15, .int .i64 4, .string ⟨#[100, 111, 109, 97, 105, 110, 45, 110, 97, 109, 101]⟩, .string ⟨#[100, 111, 109, 97, 105, 110, 45, 110, 97, 109, 101]⟩, .int .i64 4, .int .i64 26, .int .i64 3, .string ⟨#[105, 110, 116, 101, 114, 102, 97, 99, 101, 45, 109, 116, 117]⟩, .string ⟨#[105, 110, 116, 101, 114, 102, 97, 99, 101, 45, 109, 116, 117]⟩, .int .i64 4, .int .i64 28, .int .i64 1, .string ⟨#[98, 114, 111, 97, 100, 99, 97, 115, 116, 45, 97, 100, 100, 114, 101, 115, 115]⟩, .string ⟨#[98, 114, 111, 97, 100, 99, 97, 115, 116, 45, 97, 100, 100, 114, 101, 115, 115]⟩, .int .i64 4, .int .i64 42, .int .i64 2, .string ⟨#[110, 116, 112, 45, 115, 101, 114, 118, 101, 114, 115]⟩, .string ⟨#[110, 116, 112, 45, 115, 101, 114, 118, 101, 114, 115]⟩, .int .i64 4, .int .i64 119, .int .i64 4, .string ⟨#[100, 111, 109, 97, 105, 110, 45, 115, 101, 97, 114, 99, 104]⟩, .string ⟨#[100, 111, 109, 97, 105, 110, 45, 115, 101, 97, 114, 99, 104]⟩, .int .i64 6, .int .i64 23, .int .i64 2, .string ⟨#[100, 104, 99, 112, 54, 46, 110, 97, 109, 101, 45, 115, 101, 114, 118, 101, 114, 115]⟩, .string ⟨#[100, 110, 115, 45, 115, 101, 114, 118, 101, 114, 115]⟩, .int .i64 6, .int .i64 24, .int .i64 4, .string ⟨#[100, 104, 99, 112, 54, 46, 100, 111, 109, 97, 105, 110, 45, 115, 101, 97, 114, 99, 104]⟩, .string ⟨#[100, 111, 109, 97, 105, 110, 45, 115, 101, 97, 114, 99, 104]⟩, .int .i64 6, .int .i64 31, .int .i64 2, .string ⟨#[100, 104, 99, 112, 54, 46, 115, 110, 116, 112, 45, 115, 101, 114, 118, 101, 114, 115]⟩, .string ⟨#[115, 110, 116, 112, 45, 115, 101, 114, 118, 101, 114, 115]⟩]

/-- the table lies in a block -/
structure TabIn (b : Nat) (w : World) : Prop where
  blk : ∃ c fz, w.heap[b]? = some (.cells c 27 fz) ∧ 55 ≤ c.size ∧ (∀ i, i < 55 → c.getD i und = tabC.getD i und) ∧ ∀ o, o < c.size → ¬ (fz.1 ≤ o ∧ o < fz.2)
theorem TabIn.lt {b : Nat} {w : World} (h : TabIn b w) : b < w.heap.size := by
  obtain ⟨c, fz, hb, _⟩ := h.blk
  rcases Nat.lt_or_ge b w.heap.size with q | q
  · exact q
  · rw [Array.getElem?_eq_none q] at hb; cases hb
theorem TabIn.set {b : Nat} {w : World} (h : TabIn b w) {p : Addr} (hp : b ≠ p.block) (u : Value) : TabIn b (w.setCell p u) := by
  obtain ⟨c, fz, hb, k⟩ := h.blk
  exact ⟨c, fz, (Below.heap_setCell w p u b hp).trans hb, k⟩
theorem TabIn.drew {b : Nat} {w : World} (h : TabIn b w) : TabIn b w.drew := ⟨h.blk⟩

theorem tabC_flat : flatL tabC = true := by kernel_rfl
theorem tab_at (i : Nat) : flat (tabC.getD i und) = true := by
  have key : ∀ (l : List Value), flatL l = true → ∀ i, flat (l.getD i und) = true := by
    intro l
    induction l with
    | nil => intro _ i; cases i <;> rfl
    | cons v t ih =>
      intro h i
      simp only [flatL, Bool.and_eq_true] at h
      cases i with
      | zero => exact (by have h1 := h.1; revert h1; cases v <;> intro h1 <;> first | exact h1 | (simp [flat1] at h1))
      | succ i => simpa using ih h.2 i
  exact key tabC tabC_flat i
theorem tab_def (i : Nat) (h : i < 55) : tabC.getD i und ≠ und := by
  have key : (List.range 55).all (fun i => !isUnd (tabC.getD i und)) = true := by kernel_rfl
  have := List.all_eq_true.1 key i (List.mem_range.2 h)
  intro e
  rw [e] at this
  exact absurd this (by decide)

noncomputable def tabRun (r : Option (Value × St)) : Bool := match r with
  | some x => (match x.1, x.2.h.get 64 with
    | .slice (some ⟨64, 0, none⟩) 11 11, some (.cells cs e false) => eqVL cs tabC && Nat.beq e (2 * 27 + 1)
    | _, _ => false)
  | none => false
theorem tabRun_some {r : Option (Value × St)} (h : tabRun r = true) : ∃ s, r = some (.slice (some ⟨64, 0, none⟩) 11 11, s) ∧ s.h.get 64 = some (.cells tabC (2 * 27 + 1) false) := by
  unfold tabRun at h
  split at h
  case h_2 => cases h
  rename_i x
  obtain ⟨v, s⟩ := x
  simp only at h
  split at h
  case h_2 => cases h
  rename_i e he
  rw [Bool.and_eq_true] at h
  rw [eqVL_eq h.1, Nat.eq_of_beq_eq_true h.2] at he
  exact ⟨s, rfl, he⟩
theorem tab_run : tabRun (callD Tryz.prog (mkIntr 1073741824 noExt) 10 10 30 [] (birth [] 64)) = true := by kernel_rfl
theorem tab_mask : (Nat.ble (1073741824 + 1) (Nat.shiftLeft 1 31) && okMask Tryz.prog 0 1073741824 31) = true := by kernel_rfl
theorem tab_mixed : Tryz.prog.follows .mixedOrders = true := by kernel_rfl

theorem once_table (w : World) : Calls Tryz.prog 30 #[] w fun e w' => ∃ b, e = .returned (.slice (some ⟨b, 0, none⟩) 11 11) ∧ w.heap.size ≤ b ∧ TabIn b w' ∧ Below w.heap.size w w' := by
  obtain ⟨s, hrun, hs⟩ := tabRun_some tab_run
  have H0 : HR (fun _ => none) [] w w := HR.empty _ w (fun _ _ _ _ h => by cases h)
  refine (run_call (args := []) (fn := Tryz.f30) (c := match Tryz.f30.body with | some c => c | none => .skip) tab_mixed tab_mask noExt_tr (noExt_ok w 0) Tryz.func30 (by kernel_rfl) (by kernel_rfl) H0 (fun g hg => absurd hg (by omega)) (VRL.nil _) (fun _ _ => rfl) (fun id _ => by show lgetR none (lgetR [] [] (id / 8)) (id % 8) = none; rw [lgetR_nil, lgetR_nil]) hrun).mono ?_
  rintro e w' ⟨v', φ', rfl, _, hv, H⟩
  obtain ⟨b, sh, sz, c, fz, k⟩ := H.cells _ _ _ _ hs
  have hsh : sh = 0 := k.exact_ (by decide)
  subst hsh
  have hval : v' = .slice (some ⟨b, 0, none⟩) 11 11 := by
    rcases slice_inv hv with ⟨hc, a', rfl, h2⟩ | ⟨id', off', b', sh', sz', es, c', e1, e2, e3, p, q, r, e4⟩
    · rcases h2 with ⟨q, _⟩ | ⟨id', off', b', sh', sz', q, e1, rfl⟩
      · cases q
      · cases q
        have := e1.symm.trans k.at_
        cases this
        rfl
    · exfalso
      have : capU ≤ 11 := by omega
      exact absurd this (by unfold capU; decide)
  have hm := k.mine rfl
  refine ⟨b, by rw [hval], hm.1, ⟨c, fz, ?_, ?_, ?_, ?_⟩, ⟨H.os, H.tape, H.output, H.size, fun j hj => H.old j hj⟩⟩
  · have := k.blk
    rwa [show (2 * 27 + 1) / 2 = 27 by decide] at this
  · have h1 := k.size
    have h2 := k.fit
    have h3 : tabC.length = 55 := by kernel_rfl
    omega
  · intro i hi
    have h3 : tabC.length = 55 := by kernel_rfl
    have := k.cell i (by omega)
    rw [Nat.zero_add] at this
    exact flat_inv (tab_at i) this (tab_def i hi)
  · intro o ho
    exact hm.2 o (by rw [← k.size]; exact ho)

/-- the literal that All hands over -/
theorem once_lit (pl : Addr) (x : Value) (w : World) (hc : w.cell? pl = some x) (hz : w.frozen? pl = false) :
    Calls Tryz.prog 29 #[.pointer (some pl)] w fun e w' => ∃ b w1, e = .returned (.tuple #[]) ∧ w.heap.size ≤ b ∧ TabIn b w1 ∧ Below w.heap.size w w1 ∧ w' = w1.setCell pl (.slice (some ⟨b, 0, none⟩) 11 11) := by
  have hpl := World.block_lt_of_cell? w pl hc
  go_enter Tryz.func29, Tryz.ntmps29
  go_wp2_with (go_at_call 30; refine (once_table _).mono ?_; rintro e w1 ⟨b, rfl, hb, ht, hB⟩; have hc1 : w1.cell? pl = some x := (hB.cell hpl).trans hc; have hz1 : w1.frozen? pl = false := (hB.frozen hpl).trans hz)
  go_end0
  exact ⟨_, _, rfl, hb, ht, hB, rfl⟩

set_option maxHeartbeats 1600000 in
theorem once_slow (b off : Nat) (pl : Addr) (hpb : ¬ b = pl.block) (x : Value) (w : World) (hp : w.cell? pl = some x) (hz : w.frozen? pl = false)
    (h0 : w.cell? ⟨b, off, none⟩ = some (.int .u32 0)) (h1 : w.cell? ⟨b, off + 1, none⟩ = some (.int .i32 0))
    (f0 : w.frozen? ⟨b, off, none⟩ = false) (f1 : w.frozen? ⟨b, off + 1, none⟩ = false) :
    Calls Tryz.prog 47 #[.pointer (some ⟨b, off, none⟩), .func (.func 29) #[] #[.pointer (some pl)]] w fun e w' => ∃ t w1, e = .returned (.tuple #[]) ∧ w.heap.size ≤ t ∧ TabIn t w1 ∧ Below w.heap.size (w.setCell ⟨b, off + 1, none⟩ (.int .i32 1)) w1 ∧
      w' = ((w1.setCell pl (.slice (some ⟨t, 0, none⟩) 11 11)).drew.setCell ⟨b, off, none⟩ (.int .u32 1)).setCell ⟨b, off + 1, none⟩ (.int .i32 0) := by
  have hb : b < w.heap.size := World.block_lt_of_cell? w _ h0
  have hpl : pl.block < w.heap.size := World.block_lt_of_cell? w pl hp
  have hl := run_call_load (P := Tryz.prog) Tryz.func64 (by kernel_rfl) (by kernel_rfl) (by kernel_rfl) .u32 (by kernel_rfl) (w := w.setCell ⟨b, off + 1, none⟩ (.int .i32 1)) (a := ⟨b, off, none⟩) (x := 0) ((World.cell?_setCell_other _ ⟨b, off + 1, none⟩ ⟨b, off, none⟩ _ (by simp)).trans h0)
  have hp1 : (w.setCell ⟨b, off + 1, none⟩ (.int .i32 1)).cell? pl = some x := (World.cell?_setCell_other _ ⟨b, off + 1, none⟩ pl _ (fun h => hpb (by rw [← h]))).trans hp
  have hz1 : (w.setCell ⟨b, off + 1, none⟩ (.int .i32 1)).frozen? pl = false := by rw [World.frozen?_setCell]; exact hz
  have hnot : ∀ (x : Bool) (w : World), (Op.unary .not (.bool x)).run Tryz.prog w = .ok (.bool (!x)) w := fun _ _ => rfl
  go_enter_defers Tryz.func47, Tryz.ntmps47
  go_wp2_with (first | (go_at_call 65; refine (once_lock ⟨b, off + 1, none⟩ _ (by go_simp) (by go_simp)).mono ?_; rintro e w' ⟨rfl, rfl⟩) | (go_at_call 29; refine (once_lit pl x _ hp1 hz1).mono ?_; rintro e w' ⟨t, w1, rfl, ht, hT, hB, rfl⟩) | go_in)
  go_wp2
  refine leaves_cons (f := 67) (args := #[.pointer (some ⟨b, off, none⟩), .bool true]) (by simp) (by simp [go_sem]) ?_
  have hsz : (w.setCell ⟨b, off + 1, none⟩ (.int .i32 1)).heap.size = w.heap.size := World.size_setCell ..
  rw [hsz] at ht hB
  have c0 : (w1.setCell pl (.slice (some ⟨t, 0, none⟩) 11 11)).cell? ⟨b, off, none⟩ = some (.int .u32 0) := by
    rw [World.cell?_setCell_other _ pl ⟨b, off, none⟩ _ (fun h => hpb (by rw [h])), hB.cell (p := ⟨b, off, none⟩) hb, World.cell?_setCell_other _ ⟨b, off + 1, none⟩ ⟨b, off, none⟩ _ (by simp)]
    exact h0
  have c1 : (w1.setCell pl (.slice (some ⟨t, 0, none⟩) 11 11)).cell? ⟨b, off + 1, none⟩ = some (.int .i32 1) := by
    rw [World.cell?_setCell_other _ pl ⟨b, off + 1, none⟩ _ (fun h => hpb (by rw [h])), hB.cell (p := ⟨b, off + 1, none⟩) hb]
    exact World.cell?_setCell_same w _ _ h1
  have z0 : (w1.setCell pl (.slice (some ⟨t, 0, none⟩) 11 11)).frozen? ⟨b, off, none⟩ = false := by
    rw [World.frozen?_setCell, hB.frozen (p := ⟨b, off, none⟩) hb, World.frozen?_setCell]; exact f0
  have z1 : (w1.setCell pl (.slice (some ⟨t, 0, none⟩) 11 11)).frozen? ⟨b, off + 1, none⟩ = false := by
    rw [World.frozen?_setCell, hB.frozen (p := ⟨b, off + 1, none⟩) hb, World.frozen?_setCell]; exact f1
  refine (once_store ⟨b, off, none⟩ (.int .u32 0) .returning _ c0 z0).mono ?_
  rintro e u' w'' ⟨rfl, rfl, rfl⟩
  refine leaves_cons (f := 66) (args := #[.pointer (some ⟨b, off + 1, none⟩)]) (by simp [settle]) (by simp [go_sem]) ?_
  refine (once_unlock ⟨b, off + 1, none⟩ _ _ ?_ ?_).mono ?_
  · rw [World.cell?_setCell_other _ ⟨b, off, none⟩ ⟨b, off + 1, none⟩ _ (by simp), World.cell?_drew]; exact c1
  · rw [World.frozen?_setCell]; exact z1
  rintro e u' w'' ⟨rfl, rfl, rfl⟩
  simp [Leaves, settle, results, Tryz.results47]
  exact ⟨t, ht, w1, hT, hB, rfl⟩

theorem once_do (b off : Nat) (pl : Addr) (hpb : ¬ b = pl.block) (x : Value) (w : World) (hp : w.cell? pl = some x) (hz : w.frozen? pl = false)
    (h0 : w.cell? ⟨b, off, none⟩ = some (.int .u32 0)) (h1 : w.cell? ⟨b, off + 1, none⟩ = some (.int .i32 0))
    (f0 : w.frozen? ⟨b, off, none⟩ = false) (f1 : w.frozen? ⟨b, off + 1, none⟩ = false) :
    Calls Tryz.prog 28 #[.pointer (some ⟨b, off, none⟩), .func (.func 29) #[] #[.pointer (some pl)]] w fun e w' => e = .returned (.tuple #[]) ∧ ∃ t, w.heap.size ≤ t ∧ TabIn t w' ∧ w'.cell? pl = some (.slice (some ⟨t, 0, none⟩) 11 11) ∧ ∀ B, B ≤ b → B ≤ pl.block → Below B w w' := by
  have hl := run_call_load (P := Tryz.prog) Tryz.func64 (by kernel_rfl) (by kernel_rfl) (by kernel_rfl) .u32 (by kernel_rfl) h0
  have hnot : ∀ (x : Bool) (w : World), (Op.unary .not (.bool x)).run Tryz.prog w = .ok (.bool (!x)) w := fun _ _ => rfl
  have hb : b < w.heap.size := World.block_lt_of_cell? w _ h0
  have hpl : pl.block < w.heap.size := World.block_lt_of_cell? w pl hp
  go_enter Tryz.func28, Tryz.ntmps28
  go_wp2_with (first | (go_at_call 47; refine (once_slow b off pl hpb x _ hp hz h0 h1 f0 f1).mono ?_; rintro e w' ⟨t, w1, rfl, ht, hT, hB, rfl⟩) | go_in)
  go_end0
  have cpl : w1.cell? pl = some x := by
    rw [hB.cell hpl, World.cell?_setCell_other _ ⟨b, off + 1, none⟩ pl _ (fun h => hpb (by rw [← h]))]; exact hp
  refine ⟨rfl, t, ht, ?_, ?_, fun B hB1 hB2 => ?_⟩
  · exact ((hT.set (show t ≠ pl.block by omega) _).drew.set (show t ≠ b by omega) _).set (show t ≠ b by omega) _
  · rw [World.cell?_drew, World.cell?_setCell_other _ ⟨b, off + 1, none⟩ pl _ (fun h => hpb (by rw [← h])), World.cell?_setCell_other _ ⟨b, off, none⟩ pl _ (fun h => hpb (by rw [← h]))]
    exact World.cell?_setCell_same _ _ _ cpl
  · have k1 : Below B w (w.setCell ⟨b, off + 1, none⟩ (.int .i32 1)) := (Below.refl B w).setCell (p := ⟨b, off + 1, none⟩) hB1 _
    have k2 : Below B w w1 := k1.trans (hB.mono (by omega))
    exact (((k2.setCell (p := pl) hB2 _).drew).setCell (p := ⟨b, off, none⟩) hB1 _).setCell (p := ⟨b, off + 1, none⟩) hB1 _

theorem once_all (w : World) : Calls Tryz.prog 13 #[] w fun e w' => ∃ t, e = .returned (.slice (some ⟨t, 0, none⟩) 11 11) ∧ w.heap.size ≤ t ∧ TabIn t w' ∧ Below w.heap.size w w' := by
  have hmf : ∀ (fn : Fn) (first cap : Array Value) (w : World), (Instr.makeFunc fn first cap).run Tryz.prog w = .ok (.func fn first cap) w := fun _ _ _ _ => rfl
  have hsz : ((w.alloc (Obj.cells #[Value.int IntKind.u32 0, Value.int IntKind.i32 0, Value.int IntKind.u32 0] 69)).alloc (Obj.cells #[Value.slice none 0 0] 37)).heap.size = w.heap.size + 2 := by simp
  have q0 : ((w.alloc (Obj.cells #[Value.int IntKind.u32 0, Value.int IntKind.i32 0, Value.int IntKind.u32 0] 69)).alloc (Obj.cells #[Value.slice none 0 0] 37)).cell? ⟨w.heap.size, 0, none⟩ = some (.int .u32 0) := by
    rw [World.cell?_alloc_past _ _ _ (by simp)]; simp
  have q1 : ((w.alloc (Obj.cells #[Value.int IntKind.u32 0, Value.int IntKind.i32 0, Value.int IntKind.u32 0] 69)).alloc (Obj.cells #[Value.slice none 0 0] 37)).cell? ⟨w.heap.size, 0 + 1, none⟩ = some (.int .i32 0) := by
    rw [World.cell?_alloc_past _ _ _ (by simp)]; simp
  have q2 : ((w.alloc (Obj.cells #[Value.int IntKind.u32 0, Value.int IntKind.i32 0, Value.int IntKind.u32 0] 69)).alloc (Obj.cells #[Value.slice none 0 0] 37)).cell? ⟨w.heap.size + 1, 0, none⟩ = some (.slice none 0 0) := by
    simp
  have g0 : ((w.alloc (Obj.cells #[Value.int IntKind.u32 0, Value.int IntKind.i32 0, Value.int IntKind.u32 0] 69)).alloc (Obj.cells #[Value.slice none 0 0] 37)).frozen? ⟨w.heap.size, 0, none⟩ = false := by
    rw [World.frozen?_alloc_past _ _ _ (by simp)]; simp
  have g1 : ((w.alloc (Obj.cells #[Value.int IntKind.u32 0, Value.int IntKind.i32 0, Value.int IntKind.u32 0] 69)).alloc (Obj.cells #[Value.slice none 0 0] 37)).frozen? ⟨w.heap.size, 0 + 1, none⟩ = false := by
    rw [World.frozen?_alloc_past _ _ _ (by simp)]; simp
  have g2 : ((w.alloc (Obj.cells #[Value.int IntKind.u32 0, Value.int IntKind.i32 0, Value.int IntKind.u32 0] 69)).alloc (Obj.cells #[Value.slice none 0 0] 37)).frozen? ⟨w.heap.size + 1, 0, none⟩ = false := by
    simp
  have hB0 : Below w.heap.size w ((w.alloc (Obj.cells #[Value.int IntKind.u32 0, Value.int IntKind.i32 0, Value.int IntKind.u32 0] 69)).alloc (Obj.cells #[Value.slice none 0 0] 37)) :=
    ((Below.refl _ w).alloc (Nat.le_refl _) _).alloc (by simp) _
  go_enter Tryz.func13, Tryz.ntmps13
  go_wp2_with (go_at_call 28; refine (once_do w.heap.size 0 ⟨w.heap.size + 1, 0, none⟩ (by simp) _ _ q2 g2 q0 q1 g0 g1).mono ?_; rintro e w' ⟨rfl, t, ht, hT, hc, hB⟩)
  rw [hsz] at ht
  go_ret
  exact ⟨t, rfl, by omega, hT, hB0.trans (hB _ (Nat.le_refl _) (by simp))⟩

/-- All as an entry: a new row of the table's elements. -/
noncomputable def allD : Own := fun args s => match args with
  | [] => some (.slice (some ⟨s.next, 0, none⟩) 11 11, s.new (.cells tabC (2 * 27 + 1) false))
  | _ => none
theorem allD_tr : OwnTr allD := fun args => by
  refine new_tr (match args with
    | [] => some (Blk.cells tabC (2 * 27 + 1) false, fun k => Value.slice (some ⟨k, 0, none⟩) 11 11)
    | _ => none) fun s => ?_
  cases args <;> rfl
theorem all_enter (args : Array Value) (w : World) : (callFunc 13 args).run Tryz.prog w = .ok (.enter 13 args) w :=
  callFunc_run (fn := Tryz.f13) (c := match Tryz.f13.body with | some c => c | none => .skip) Tryz.func13 (by kernel_rfl) (by kernel_rfl) args w
theorem all_ok {w0 : World} {G : Nat} : OwnOk Tryz.prog w0 G 13 allD := by
  intro args s v s' e φ w args' H _ hA hf hF
  unfold allD at e
  split at e
  case h_2 => cases e
  cases e
  rw [hA.of_nil, all_enter]
  refine (once_all w).mono ?_
  rintro e w' ⟨t, rfl, ht, ⟨c, fz, hb, hsz, hcs, hfz⟩, hB⟩
  have hnew : φ s.next = none := hf s.next (Nat.le_refl _) (by show s.next < Nat.max s.hi (s.next + 1); exact Nat.lt_of_lt_of_le (Nat.lt_succ_self _) (Nat.le_max_right _ _))
  have h3 : tabC.length = 55 := by kernel_rfl
  refine ⟨.slice (some ⟨t, 0, none⟩) 11 11, upd φ s.next (t, 0, c.size), rfl, Ext.upd hnew _, ?_, ?_⟩
  · exact VR.slice (φ := upd φ s.next (t, 0, c.size)) s.next 0 t 0 c.size 11 11 (upd_same _ _ _) (by unfold capU; decide)
  · refine H.adopt (w' := w') hnew hB.os hB.output hB.tape hB.size (fun j hj _ => hB.block j hj) (Nat.le_trans H.size ht) (fz := fz) (c := c) (by rw [show (2 * 27 + 1) / 2 = 27 by decide]; exact hb) (fun _ => rfl) ?_ rfl (by rw [h3]; omega) (fun i hi => ?_) (fun _ => hfz) (fun O q => by rw [Array.getElem?_eq_none ht] at q; cases q)
    · intro j cj ej rj bj sj zj g a
      have := H.dom _ _ _ _ a
      omega
    · rw [Nat.zero_add, hcs i (by omega)]
      exact flat_self (tab_at i) _
end Go.Proofs.YtcjbddgeoiacoaaGreatDoor
