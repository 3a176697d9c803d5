/- Texts of a proof, joined: words of the print (those that are named here) and printed functions. -/
import Derived.Test.YtfnacgojmdbjmaaGreatDoorRv8
import Derived.Test.YtfnacgojmdbjmaaGreatDoorRv7
import Derived.Lib.TrailingZeros
set_option linter.unusedSimpArgs false
set_option linter.unusedVariables false

section
/- Printed by a program of this claim: Go functions as plain Lean functions, and that their calls come to them. -/
namespace Go.Proofs.YtfnacgojmdbjmaaGreatDoor.PRD
open Go.RowKit Go.Proofs.YtfnacgojmdbjmaaGreatDoorW.PrintWords Go.Proofs.YtfnacgojmdbjmaaGreatDoorW.PrintLast Go.Proofs.YtfnacgojmdbjmaaGreatDoorW.PrintMore
attribute [local go_sem] max2_int min2_int max_two min_two max_three min_three max_four min_four
open Go.Det (inQ M64 M128 qn addN highN clampN)
set_option linter.unusedVariables false
set_option linter.unusedSimpArgs false
def rang_Cover.l0 : Nat → List (S30) → Int → Int → Int → Int → Int → Int → Int → Int → Int → Option ((List (S30)))
  | 0, _, _, _, _, _, _, _, _, _, _ => none
  | k + 1, x3, x118000, x118001, x118002, x118003, x118004, x118005, x120000, x120001, x120002 => (rang_widest.f k x120000 x120001 x120002 x118003 x118004 x118005).bind fun bt120 => (if x3.length < 4398046511104 then ((some (x3 ++ [(⟨(⟨bt120.1, (⟨bt120.2.1, bt120.2.2.1⟩ : S26)⟩ : S28), bt120.2.2.2⟩ : S30)] : List (S30))).bind fun y125 => ((pref_Last.f bt120.1 bt120.2.1 bt120.2.2.1 bt120.2.2.2).bind fun bt128 => ((addr_Next.f bt128.1 bt128.2.1 bt128.2.2).bind fun bt131 => (if bt131.2.2.2 = true then ((addr_Less.f x118003 x118004 x118005 bt131.1 bt131.2.1 bt131.2.2.1).bind fun t136 => (if t136 = true then (some y125) else (rang_Cover.l0 k y125 x118000 x118001 x118002 x118003 x118004 x118005 bt131.1 bt131.2.1 bt131.2.2.1))) else (some y125))))) else (none))
def rang_Cover.f (k : Nat) (a0_0 : Int) (a0_1 : Int) (a0_2 : Int) (a0_3 : Int) (a0_4 : Int) (a0_5 : Int) : Option ((List (S30))) := (rang_Ok.f a0_0 a0_1 a0_2 a0_3 a0_4 a0_5).bind fun t118 => (if t118 = true then (rang_Cover.l0 k ([] : List (S30)) a0_0 a0_1 a0_2 a0_3 a0_4 a0_5 a0_0 a0_1 a0_2) else (some ([] : List (S30))))
theorem rang_Cover.mono_l : ∀ k, (∀ y0 y1 y2 y3 y4 y5 y6 y7 y8 y9, LeO (rang_Cover.l0 k y0 y1 y2 y3 y4 y5 y6 y7 y8 y9) (rang_Cover.l0 (k + 1) y0 y1 y2 y3 y4 y5 y6 y7 y8 y9))
  | 0 => fun _ _ _ _ _ _ _ _ _ _ r h => by simp [rang_Cover.l0] at h
  | k + 1 => by
    have ih0 := rang_Cover.mono_l k
    · intro y0 y1 y2 y3 y4 y5 y6 y7 y8 y9
      unfold rang_Cover.l0
      repeat' first
      | (with_reducible exact ih0 _ _ _ _ _ _ _ _ _ _)
      | (with_reducible exact rang_widest.mono _ _ _ _ _ _ _)
      | (with_reducible exact LeO.refl _)
      | (with_reducible exact LeO.none _)
      | (with_reducible refine LeO.ite ?_ ?_)
      | (with_reducible refine LeO.bind ?_ (fun _ => ?_))
      | exact ih0 _ _ _ _ _ _ _ _ _ _
      | exact rang_widest.mono _ _ _ _ _ _ _
      | exact LeO.none _
      | refine LeO.ite ?_ ?_
      | refine LeO.bind ?_ (fun _ => ?_)
theorem rang_Cover.mono : ∀ a0 a1 a2 a3 a4 a5 k, LeO (rang_Cover.f k a0 a1 a2 a3 a4 a5) (rang_Cover.f (k + 1) a0 a1 a2 a3 a4 a5) := by
  intro a0 a1 a2 a3 a4 a5 k
  have ih0 := rang_Cover.mono_l k
  unfold rang_Cover.f
  repeat' first
      | (with_reducible exact ih0 _ _ _ _ _ _ _ _ _ _)
      | (with_reducible exact rang_widest.mono _ _ _ _ _ _ _)
      | (with_reducible exact LeO.refl _)
      | (with_reducible exact LeO.none _)
      | (with_reducible refine LeO.ite ?_ ?_)
      | (with_reducible refine LeO.bind ?_ (fun _ => ?_))
      | exact ih0 _ _ _ _ _ _ _ _ _ _
      | exact rang_widest.mono _ _ _ _ _ _ _
      | exact LeO.none _
      | refine LeO.ite ?_ ?_
      | refine LeO.bind ?_ (fun _ => ?_)
set_option maxHeartbeats 8000000 in
set_option maxRecDepth 100000 in
theorem rang_Cover.calls (k : Nat) (a0_0 : Int) (a0_1 : Int) (a0_2 : Int) (a0_3 : Int) (a0_4 : Int) (a0_5 : Int) (r : List (S30)) (w : World) (hG : GoodW w) (h : rang_Cover.f k a0_0 a0_1 a0_2 a0_3 a0_4 a0_5 = some r) :
    Calls Tryz.prog 33 #[.agg #[.int .i64 a0_0, .int .u64 a0_1, .int .u64 a0_2, .int .i64 a0_3, .int .u64 a0_4, .int .u64 a0_5]] w fun e w' => ∃ v0_ : Value, e = .returned (v0_) ∧ Kd.R k30 30 w' w.heap.size (fun _ => True) v0_ r ∧ Below w.heap.size w w' := by
  have hu52 := Tryz.underlying52
  have hu28 := Tryz.underlying28
  have hu30 := Tryz.underlying30
  have HB := Aside0.mk (Below.refl w.heap.size w)
  have H : ((rang_Ok.f a0_0 a0_1 a0_2 a0_3 a0_4 a0_5).bind fun t118 => (if t118 = true then (rang_Cover.l0 k ([] : List (S30)) a0_0 a0_1 a0_2 a0_3 a0_4 a0_5 a0_0 a0_1 a0_2) else (some ([] : List (S30))))) = some r := h
  clear h
  replace H := Option.bind_eq_some_iff.mp H
  obtain ⟨t118, A20, H⟩ := H
  replace H : (if t118 = true then (rang_Cover.l0 k ([] : List (S30)) a0_0 a0_1 a0_2 a0_3 a0_4 a0_5 a0_0 a0_1 a0_2) else (some ([] : List (S30)))) = some r := H
  have A2 := Aside0.mk A20
  clear A20
  by_cases c3 : t118 = true
  · subst c3
    have H1 : (rang_Cover.l0 k ([] : List (S30)) a0_0 a0_1 a0_2 a0_3 a0_4 a0_5 a0_0 a0_1 a0_2) = some r := by rw [if_pos rfl] at H; exact H
    clear H
    have H := H1
    clear H1
    have H' := Aside0.mk H
    clear H
    go_enter Tryz.func33, Tryz.ntmps33
    go_wp2_with (first | ((with_reducible refine gate_dst (N := 1) rfl ?_); refine box_event ?hg (N := 1) ?hd (cs := #[.int .i64 a0_0, .int .u64 a0_1, .int .u64 a0_2, .int .i64 a0_3, .int .u64 a0_4, .int .u64 a0_5]) (t := 52) ?hr ?_; (case hd => rfl); (case hg => rfl); (case hr => first | (go_simp; done) | (go_simp; rfl)); intro gb117 hg w4 hbox hb; have n0_ := Aside0.mk (below_step (by repeat (first | (with_reducible first | exact HB.out | apply below_alloc | apply pw_below_drewN | apply below_drew1) | exact HB.out)) hb); have n1_ := Aside0.mk (hbox); have n2_ := Aside0.mk ((by rw [hg]; exact (below_size (by repeat (first | (with_reducible first | exact HB.out | apply below_alloc | apply pw_below_drewN | apply below_drew1) | exact HB.out))) : w.heap.size ≤ gb117)); have n3_ := Aside0.mk ((by rw [hg]; exact (below_size (by repeat (first | (with_reducible first | exact HB.out | apply below_alloc | apply pw_below_drewN | apply below_drew1) | exact HB.out))) : w.heap.size ≤ gb117)); clear HB; have HB := n0_; have BK117 := n1_; have GW117 := n2_; have GE117 := n3_; clear n0_ n1_ n2_ n3_; clear hb hbox hg; have hcz5_0 : w4.cell? ⟨gb117, 0, none⟩ = some (.int .i64 a0_0) := (blk_cell BK117.out 0).trans rfl; have hcz5_1 : w4.cell? ⟨gb117, 1, none⟩ = some (.int .u64 a0_1) := (blk_cell BK117.out 1).trans rfl; have hcz5_2 : w4.cell? ⟨gb117, 2, none⟩ = some (.int .u64 a0_2) := (blk_cell BK117.out 2).trans rfl; have hcz5_3 : w4.cell? ⟨gb117, 3, none⟩ = some (.int .i64 a0_3) := (blk_cell BK117.out 3).trans rfl; have hcz5_4 : w4.cell? ⟨gb117, 4, none⟩ = some (.int .u64 a0_4) := (blk_cell BK117.out 4).trans rfl; have hcz5_5 : w4.cell? ⟨gb117, 5, none⟩ = some (.int .u64 a0_5) := (blk_cell BK117.out 5).trans rfl; have hfz5_0 := blk_frozen BK117.out 0; have hfz5_1 := blk_frozen BK117.out 1; have hfz5_2 := blk_frozen BK117.out 2; have hfz5_3 := blk_frozen BK117.out 3; have hfz5_4 := blk_frozen BK117.out 4; have hfz5_5 := blk_frozen BK117.out 5) | ((with_reducible refine gate_callee (f := 48) rfl ?_); refine goesL_ (some 9) rfl rfl Tryz.func48 (by kernel_rfl) rfl #[.agg #[.int .i64 a0_0, .int .u64 a0_1, .int .u64 a0_2, .int .i64 a0_3, .int .u64 a0_4, .int .u64 a0_5]] rfl (by (try simp only [List.map_toArray, List.map_cons, List.map_nil]); first | done | rfl | (simp only [List.length_drop, List.length_take]; rfl)) ?_; (with_reducible refine (rang_Ok.calls a0_0 a0_1 a0_2 a0_3 a0_4 a0_5 true _ ?side1 A2.out).mono ?_); (case side1 => first | exact hG | exact GoodW.below hG (by repeat (first | (with_reducible first | exact HB.out | apply below_alloc | apply pw_below_drewN | apply below_drew1 | refine below_set ?_ GE117.out) | exact HB.out)) | (repeat (first | exact hG | apply GoodW.drewN | apply GoodW.drew))); rintro e w6 ⟨rfl, hb⟩; refine ⟨_, rfl, ?_⟩; have n0_ := Aside0.mk (blk_below (g := gb117) (o := .cells #[.int .i64 a0_0, .int .u64 a0_1, .int .u64 a0_2, .int .i64 a0_3, .int .u64 a0_4, .int .u64 a0_5] 52 (0, 0)) (by (with_reducible repeat (first | refine blk_drewN ?_ _ | refine blk_drew ?_ | refine blk_alloc ?_ _)); exact BK117.out) hb); have n1_ := Aside0.mk (below_step (by repeat (first | (with_reducible first | exact HB.out | apply below_alloc | apply pw_below_drewN | apply below_drew1 | refine below_set ?_ GE117.out) | exact HB.out)) hb); clear BK117; clear HB; have BK117 := n0_; have HB := n1_; clear n0_ n1_; (try clear hb); (try clear hb2); (try clear hk); (try clear hi); have hcz7_0 : w6.cell? ⟨gb117, 0, none⟩ = some (.int .i64 a0_0) := (blk_cell BK117.out 0).trans rfl; have hcz7_1 : w6.cell? ⟨gb117, 1, none⟩ = some (.int .u64 a0_1) := (blk_cell BK117.out 1).trans rfl; have hcz7_2 : w6.cell? ⟨gb117, 2, none⟩ = some (.int .u64 a0_2) := (blk_cell BK117.out 2).trans rfl; have hcz7_3 : w6.cell? ⟨gb117, 3, none⟩ = some (.int .i64 a0_3) := (blk_cell BK117.out 3).trans rfl; have hcz7_4 : w6.cell? ⟨gb117, 4, none⟩ = some (.int .u64 a0_4) := (blk_cell BK117.out 4).trans rfl; have hcz7_5 : w6.cell? ⟨gb117, 5, none⟩ = some (.int .u64 a0_5) := (blk_cell BK117.out 5).trans rfl; have hfz7_0 := blk_frozen BK117.out 0; have hfz7_1 := blk_frozen BK117.out 1; have hfz7_2 := blk_frozen BK117.out 2; have hfz7_3 := blk_frozen BK117.out 3; have hfz7_4 := blk_frozen BK117.out 4; have hfz7_5 := blk_frozen BK117.out 5) | ((with_reducible refine gate_dst (N := 4) rfl ?_); refine box_event ?hg (N := 4) ?hd (cs := #[.int .i64 0, .int .u64 0, .int .u64 0]) (t := 28) ?hr ?_; (case hd => rfl); (case hg => rfl); (case hr => first | (go_simp; done) | (go_simp; rfl)); intro gb119 hg w8 hbox hb; have n0_ := Aside0.mk (blk_below (g := gb117) (o := .cells #[.int .i64 a0_0, .int .u64 a0_1, .int .u64 a0_2, .int .i64 a0_3, .int .u64 a0_4, .int .u64 a0_5] 52 (0, 0)) (by (with_reducible repeat (first | refine blk_drewN ?_ _ | refine blk_drew ?_ | refine blk_alloc ?_ _)); exact BK117.out) hb); have n1_ := Aside0.mk (below_step (by repeat (first | (with_reducible first | exact HB.out | apply below_alloc | apply pw_below_drewN | apply below_drew1 | refine below_set ?_ GE117.out) | exact HB.out)) hb); have n2_ := Aside0.mk (hbox); have n3_ := Aside0.mk ((by rw [hg]; exact (below_size (by repeat (first | (with_reducible first | exact HB.out | apply below_alloc | apply pw_below_drewN | apply below_drew1 | refine below_set ?_ GE117.out) | exact HB.out))) : w.heap.size ≤ gb119)); have n4_ := Aside0.mk ((by rw [hg]; exact (below_size (by repeat (first | (with_reducible first | exact HB.out | apply below_alloc | apply pw_below_drewN | apply below_drew1 | refine below_set ?_ GE117.out) | exact HB.out))) : w.heap.size ≤ gb119)); have n5_ := Aside0.mk ((by rw [hg]; exact Nat.ne_of_lt (blk_lt (g := gb117) (o := .cells #[.int .i64 a0_0, .int .u64 a0_1, .int .u64 a0_2, .int .i64 a0_3, .int .u64 a0_4, .int .u64 a0_5] 52 (0, 0)) (by (with_reducible repeat (first | refine blk_drewN ?_ _ | refine blk_drew ?_ | refine blk_alloc ?_ _)); exact BK117.out)) : gb117 ≠ gb119)); have n6_ := Aside0.mk ((by rw [hg]; exact Nat.ne_of_gt (blk_lt (g := gb117) (o := .cells #[.int .i64 a0_0, .int .u64 a0_1, .int .u64 a0_2, .int .i64 a0_3, .int .u64 a0_4, .int .u64 a0_5] 52 (0, 0)) (by (with_reducible repeat (first | refine blk_drewN ?_ _ | refine blk_drew ?_ | refine blk_alloc ?_ _)); exact BK117.out)) : gb119 ≠ gb117)); clear BK117; clear HB; have BK117 := n0_; have HB := n1_; have BK119 := n2_; have GW119 := n3_; have GE119 := n4_; have NB117_119 := n5_; have NB119_117 := n6_; clear n0_ n1_ n2_ n3_ n4_ n5_ n6_; clear hb hbox hg; have hnb9 := NB119_117.out; have hnc9 := NB117_119.out; have hcz10_0 : w8.cell? ⟨gb119, 0, none⟩ = some (.int .i64 0) := (blk_cell BK119.out 0).trans rfl; have hcz10_1 : w8.cell? ⟨gb119, 1, none⟩ = some (.int .u64 0) := (blk_cell BK119.out 1).trans rfl; have hcz10_2 : w8.cell? ⟨gb119, 2, none⟩ = some (.int .u64 0) := (blk_cell BK119.out 2).trans rfl; have hfz10_0 := blk_frozen BK119.out 0; have hfz10_1 := blk_frozen BK119.out 1; have hfz10_2 := blk_frozen BK119.out 2))
    go_loopg [3, 4] k (fun kq v3 v4 w' => ∃ (x3_1 : List (S30)) (x119_0 x119_1 x119_2 : Int) (gb119 : Nat), v4 = .pointer (some ⟨gb119, 0, none⟩) ∧ Aside0 (rang_Cover.l0 kq x3_1 a0_0 a0_1 a0_2 a0_3 a0_4 a0_5 x119_0 x119_1 x119_2 = some r) ∧ Aside0 (kq ≤ k) ∧ Aside0 (Kd.R k30 30 w' w.heap.size (fun _ => True) v3 x3_1) ∧ Aside0 (w'.heap[gb117]? = some (.cells #[.int .i64 a0_0, .int .u64 a0_1, .int .u64 a0_2, .int .i64 a0_3, .int .u64 a0_4, .int .u64 a0_5] 52 (0, 0))) ∧ Aside0 (w'.heap[gb119]? = some (.cells #[.int .i64 x119_0, .int .u64 x119_1, .int .u64 x119_2] 28 (0, 0))) ∧ Aside0 (gb117 ≠ gb119) ∧ Aside0 (gb119 ≠ gb117) ∧ Aside0 (w.heap.size ≤ gb119) ∧ Aside0 (Below w.heap.size w w'))
    case atStart => exact ⟨(([] : List (S30))), a0_0, a0_1, a0_2, gb119, rfl, H', ⟨Nat.le_refl _⟩, ⟨by first | exact Kd.R_nil _ _ _ _ _ | exact Kd.N_nil _ _ _ _ _ | exact Kd.V_nil _ _ _ _ _ | exact Kd.Q_nil _ _ _ _ _ | exact Kd.S_nil _ _ _ _ _⟩, ⟨by (with_reducible repeat (first | refine blk_drewN ?_ _ | refine blk_drew ?_ | refine blk_alloc ?_ _)); refine blk_far ?_ NB117_119.out _; (with_reducible repeat (first | refine blk_drewN ?_ _ | refine blk_drew ?_ | refine blk_alloc ?_ _)); refine blk_far ?_ NB117_119.out _; (with_reducible repeat (first | refine blk_drewN ?_ _ | refine blk_drew ?_ | refine blk_alloc ?_ _)); refine blk_far ?_ NB117_119.out _; (with_reducible repeat (first | refine blk_drewN ?_ _ | refine blk_drew ?_ | refine blk_alloc ?_ _)); exact BK117.out⟩, ⟨by (with_reducible repeat (first | refine blk_drewN ?_ _ | refine blk_drew ?_ | refine blk_alloc ?_ _)); refine blk_put (cs := #[.int .i64 a0_0, .int .u64 a0_1, .int .u64 0]) ?_ 2 _ rfl; (with_reducible repeat (first | refine blk_drewN ?_ _ | refine blk_drew ?_ | refine blk_alloc ?_ _)); refine blk_put (cs := #[.int .i64 a0_0, .int .u64 0, .int .u64 0]) ?_ 1 _ rfl; (with_reducible repeat (first | refine blk_drewN ?_ _ | refine blk_drew ?_ | refine blk_alloc ?_ _)); refine blk_put (cs := #[.int .i64 0, .int .u64 0, .int .u64 0]) ?_ 0 _ rfl; (with_reducible repeat (first | refine blk_drewN ?_ _ | refine blk_drew ?_ | refine blk_alloc ?_ _)); exact BK119.out⟩, NB117_119, NB119_117, GE119, ⟨by repeat (first | (with_reducible first | exact HB.out | apply below_alloc | apply pw_below_drewN | apply below_drew1 | refine below_set ?_ GE117.out | refine below_set ?_ GE119.out) | exact HB.out)⟩⟩
    case round =>
      clear H'
      try clear p2
      try clear c3
      try clear c4
      try clear c9
      try clear hcz10_0
      try clear hcz10_1
      try clear hcz10_2
      try clear hcz5_0
      try clear hcz5_1
      try clear hcz5_2
      try clear hcz5_3
      try clear hcz5_4
      try clear hcz5_5
      try clear hcz7_0
      try clear hcz7_1
      try clear hcz7_2
      try clear hcz7_3
      try clear hcz7_4
      try clear hcz7_5
      try clear hfz10_0
      try clear hfz10_1
      try clear hfz10_2
      try clear hfz5_0
      try clear hfz5_1
      try clear hfz5_2
      try clear hfz5_3
      try clear hfz5_4
      try clear hfz5_5
      try clear hfz7_0
      try clear hfz7_1
      try clear hfz7_2
      try clear hfz7_3
      try clear hfz7_4
      try clear hfz7_5
      obtain ⟨x3_1, x119_0, x119_1, x119_2, gb119, rfl, HA, HK1, HO_3, BK117, BK119, NB117_119, NB119_117, GE119, HB⟩ := hrel
      cases gk with
      | zero => exact absurd HA.out (by simp [rang_Cover.l0])
      | succ k1 =>
        have H := HA.out
        clear HA
        simp only [rang_Cover.l0] at H
        replace H := Option.bind_eq_some_iff.mp H
        obtain ⟨⟨t120, t121, t122, t123⟩, A110, H⟩ := H
        replace H : (if x3_1.length < 4398046511104 then ((some (x3_1 ++ [(⟨(⟨t120, (⟨t121, t122⟩ : S26)⟩ : S28), t123⟩ : S30)] : List (S30))).bind fun y125 => ((pref_Last.f t120 t121 t122 t123).bind fun bt128 => ((addr_Next.f bt128.1 bt128.2.1 bt128.2.2).bind fun bt131 => (if bt131.2.2.2 = true then ((addr_Less.f a0_3 a0_4 a0_5 bt131.1 bt131.2.1 bt131.2.2.1).bind fun t136 => (if t136 = true then (some y125) else (rang_Cover.l0 k1 y125 a0_0 a0_1 a0_2 a0_3 a0_4 a0_5 bt131.1 bt131.2.1 bt131.2.2.1))) else (some y125))))) else (none)) = some r := H
        have A11 := Aside0.mk A110
        clear A110
        by_cases c12 : x3_1.length < 4398046511104
        · rw [if_pos c12] at H
          have LMc12 := Aside0.mk c12
          clear c12
          obtain ⟨y125, hy125⟩ : ∃ y_ : List (S30), y_ = (x3_1 ++ [(⟨(⟨t120, (⟨t121, t122⟩ : S26)⟩ : S28), t123⟩ : S30)]) := ⟨_, rfl⟩
          replace H : ((pref_Last.f t120 t121 t122 t123).bind fun bt128 => ((addr_Next.f bt128.1 bt128.2.1 bt128.2.2).bind fun bt131 => (if bt131.2.2.2 = true then ((addr_Less.f a0_3 a0_4 a0_5 bt131.1 bt131.2.1 bt131.2.2.1).bind fun t136 => (if t136 = true then (some y125) else (rang_Cover.l0 k1 y125 a0_0 a0_1 a0_2 a0_3 a0_4 a0_5 bt131.1 bt131.2.1 bt131.2.2.1))) else (some y125)))) = some r := by first | (rw [hy125]; with_reducible exact H) | (have H2_ := (Option.bind_some _ _).symm.trans H; rw [hy125]; with_reducible exact H2_) | (have H2_ := (Option.bind_some _ _).symm.trans H; with_reducible exact H2_) | with_reducible exact H | (rw [hy125]; exact H) | exact H
          have Ny125 := Aside0.mk hy125
          clear hy125
          replace H := Option.bind_eq_some_iff.mp H
          obtain ⟨⟨t128, t129, t130⟩, A130, H⟩ := H
          replace H : ((addr_Next.f t128 t129 t130).bind fun bt131 => (if bt131.2.2.2 = true then ((addr_Less.f a0_3 a0_4 a0_5 bt131.1 bt131.2.1 bt131.2.2.1).bind fun t136 => (if t136 = true then (some y125) else (rang_Cover.l0 k1 y125 a0_0 a0_1 a0_2 a0_3 a0_4 a0_5 bt131.1 bt131.2.1 bt131.2.2.1))) else (some y125))) = some r := H
          have A13 := Aside0.mk A130
          clear A130
          replace H := Option.bind_eq_some_iff.mp H
          obtain ⟨⟨t131, t132, t133, t134⟩, A140, H⟩ := H
          replace H : (if t134 = true then ((addr_Less.f a0_3 a0_4 a0_5 t131 t132 t133).bind fun t136 => (if t136 = true then (some y125) else (rang_Cover.l0 k1 y125 a0_0 a0_1 a0_2 a0_3 a0_4 a0_5 t131 t132 t133))) else (some y125)) = some r := H
          have A14 := Aside0.mk A140
          clear A140
          by_cases c15 : t134 = true
          · subst c15
            have H1 : ((addr_Less.f a0_3 a0_4 a0_5 t131 t132 t133).bind fun t136 => (if t136 = true then (some y125) else (rang_Cover.l0 k1 y125 a0_0 a0_1 a0_2 a0_3 a0_4 a0_5 t131 t132 t133))) = some r := by rw [if_pos rfl] at H; exact H
            clear H
            have H := H1
            clear H1
            replace H := Option.bind_eq_some_iff.mp H
            obtain ⟨t136, A160, H⟩ := H
            replace H : (if t136 = true then (some y125) else (rang_Cover.l0 k1 y125 a0_0 a0_1 a0_2 a0_3 a0_4 a0_5 t131 t132 t133)) = some r := H
            have A16 := Aside0.mk A160
            clear A160
            by_cases c17 : t136 = true
            · subst c17
              have H1 : (some y125) = some r := by rw [if_pos rfl] at H; exact H
              clear H
              have H := H1
              clear H1
              obtain rfl := Option.some.inj H
              have hnb18 := NB119_117.out
              have hnc18 := NB117_119.out
              have hcz19_0 : wr.cell? ⟨gb119, 0, none⟩ = some (.int .i64 x119_0) := (blk_cell BK119.out 0).trans rfl
              have hcz19_1 : wr.cell? ⟨gb119, 1, none⟩ = some (.int .u64 x119_1) := (blk_cell BK119.out 1).trans rfl
              have hcz19_2 : wr.cell? ⟨gb119, 2, none⟩ = some (.int .u64 x119_2) := (blk_cell BK119.out 2).trans rfl
              have hfz19_0 := blk_frozen BK119.out 0
              have hfz19_1 := blk_frozen BK119.out 1
              have hfz19_2 := blk_frozen BK119.out 2
              have hcz20_0 : wr.cell? ⟨gb117, 0, none⟩ = some (.int .i64 a0_0) := (blk_cell BK117.out 0).trans rfl
              have hcz20_1 : wr.cell? ⟨gb117, 1, none⟩ = some (.int .u64 a0_1) := (blk_cell BK117.out 1).trans rfl
              have hcz20_2 : wr.cell? ⟨gb117, 2, none⟩ = some (.int .u64 a0_2) := (blk_cell BK117.out 2).trans rfl
              have hcz20_3 : wr.cell? ⟨gb117, 3, none⟩ = some (.int .i64 a0_3) := (blk_cell BK117.out 3).trans rfl
              have hcz20_4 : wr.cell? ⟨gb117, 4, none⟩ = some (.int .u64 a0_4) := (blk_cell BK117.out 4).trans rfl
              have hcz20_5 : wr.cell? ⟨gb117, 5, none⟩ = some (.int .u64 a0_5) := (blk_cell BK117.out 5).trans rfl
              have hfz20_0 := blk_frozen BK117.out 0
              have hfz20_1 := blk_frozen BK117.out 1
              have hfz20_2 := blk_frozen BK117.out 2
              have hfz20_3 := blk_frozen BK117.out 3
              have hfz20_4 := blk_frozen BK117.out 4
              have hfz20_5 := blk_frozen BK117.out 5
              go_wp2_with (first | ((with_reducible refine gate_callee (f := 77) rfl ?_); refine goesL_ (some 16) rfl rfl Tryz.func77 (by kernel_rfl) rfl #[.agg #[.int .i64 x119_0, .int .u64 x119_1, .int .u64 x119_2], .agg #[.int .i64 a0_3, .int .u64 a0_4, .int .u64 a0_5]] rfl (by (try simp only [List.map_toArray, List.map_cons, List.map_nil]); first | done | rfl | (simp only [List.length_drop, List.length_take]; rfl)) ?_; (with_reducible refine (rang_widest.calls k1 x119_0 x119_1 x119_2 a0_3 a0_4 a0_5 t120 t121 t122 t123 _ ?side1 A11.out).mono ?_); (case side1 => first | exact hG | exact GoodW.below hG (by repeat (first | (with_reducible first | exact HB.out | apply below_alloc | apply pw_below_drewN | apply below_drew1 | refine below_set ?_ GE117.out | refine below_set ?_ GE119.out) | exact HB.out)) | (repeat (first | exact hG | apply GoodW.drewN | apply GoodW.drew))); rintro e w21 ⟨rfl, hb⟩; refine ⟨_, rfl, ?_⟩; have n0_ := Aside0.mk (Kd.R_below (by (with_reducible repeat (first | apply Kd.R_alloc | apply Kd.R_drewN | apply Kd.R_drew)); exact HO_3.out) hb); have n1_ := Aside0.mk (blk_below (g := gb117) (o := .cells #[.int .i64 a0_0, .int .u64 a0_1, .int .u64 a0_2, .int .i64 a0_3, .int .u64 a0_4, .int .u64 a0_5] 52 (0, 0)) (by (with_reducible repeat (first | refine blk_drewN ?_ _ | refine blk_drew ?_ | refine blk_alloc ?_ _)); exact BK117.out) hb); have n2_ := Aside0.mk (blk_below (g := gb119) (o := .cells #[.int .i64 x119_0, .int .u64 x119_1, .int .u64 x119_2] 28 (0, 0)) (by (with_reducible repeat (first | refine blk_drewN ?_ _ | refine blk_drew ?_ | refine blk_alloc ?_ _)); exact BK119.out) hb); have n3_ := Aside0.mk (below_step (by repeat (first | (with_reducible first | exact HB.out | apply below_alloc | apply pw_below_drewN | apply below_drew1 | refine below_set ?_ GE117.out | refine below_set ?_ GE119.out) | exact HB.out)) hb); clear HO_3; clear BK117; clear BK119; clear HB; have HO_3 := n0_; have BK117 := n1_; have BK119 := n2_; have HB := n3_; clear n0_ n1_ n2_ n3_; (try clear hb); (try clear hb2); (try clear hk); (try clear hi)) | ((with_reducible refine gate_dst (N := 5) rfl ?_); refine box_event ?hg (N := 5) ?hd (cs := #[.int .i64 0, .int .u64 0, .int .u64 0, .int .i64 0]) (t := 30) ?hr ?_; (case hd => rfl); (case hg => rfl); (case hr => first | (go_simp; done) | (go_simp; rfl)); intro gb124 hg w22 hbox hb; have n0_ := Aside0.mk (Kd.R_below (Kd.R_elderB (by (with_reducible repeat (first | apply Kd.R_alloc | apply Kd.R_drewN | apply Kd.R_drew)); exact HO_3.out) gb124 (Nat.le_of_eq hg.symm)) hb); have n1_ := Aside0.mk (blk_below (g := gb117) (o := .cells #[.int .i64 a0_0, .int .u64 a0_1, .int .u64 a0_2, .int .i64 a0_3, .int .u64 a0_4, .int .u64 a0_5] 52 (0, 0)) (by (with_reducible repeat (first | refine blk_drewN ?_ _ | refine blk_drew ?_ | refine blk_alloc ?_ _)); exact BK117.out) hb); have n2_ := Aside0.mk (blk_below (g := gb119) (o := .cells #[.int .i64 x119_0, .int .u64 x119_1, .int .u64 x119_2] 28 (0, 0)) (by (with_reducible repeat (first | refine blk_drewN ?_ _ | refine blk_drew ?_ | refine blk_alloc ?_ _)); exact BK119.out) hb); have n3_ := Aside0.mk (below_step (by repeat (first | (with_reducible first | exact HB.out | apply below_alloc | apply pw_below_drewN | apply below_drew1 | refine below_set ?_ GE117.out | refine below_set ?_ GE119.out) | exact HB.out)) hb); have n4_ := Aside0.mk (hbox); have n5_ := Aside0.mk ((by rw [hg]; exact (below_size (by repeat (first | (with_reducible first | exact HB.out | apply below_alloc | apply pw_below_drewN | apply below_drew1 | refine below_set ?_ GE117.out | refine below_set ?_ GE119.out) | exact HB.out))) : w.heap.size ≤ gb124)); have n6_ := Aside0.mk ((by rw [hg]; exact (below_size (by repeat (first | (with_reducible first | exact HB.out | apply below_alloc | apply pw_below_drewN | apply below_drew1 | refine below_set ?_ GE117.out | refine below_set ?_ GE119.out) | exact HB.out))) : w.heap.size ≤ gb124)); have n7_ := Aside0.mk ((by rw [hg]; exact Nat.ne_of_lt (blk_lt (g := gb117) (o := .cells #[.int .i64 a0_0, .int .u64 a0_1, .int .u64 a0_2, .int .i64 a0_3, .int .u64 a0_4, .int .u64 a0_5] 52 (0, 0)) (by (with_reducible repeat (first | refine blk_drewN ?_ _ | refine blk_drew ?_ | refine blk_alloc ?_ _)); exact BK117.out)) : gb117 ≠ gb124)); have n8_ := Aside0.mk ((by rw [hg]; exact Nat.ne_of_gt (blk_lt (g := gb117) (o := .cells #[.int .i64 a0_0, .int .u64 a0_1, .int .u64 a0_2, .int .i64 a0_3, .int .u64 a0_4, .int .u64 a0_5] 52 (0, 0)) (by (with_reducible repeat (first | refine blk_drewN ?_ _ | refine blk_drew ?_ | refine blk_alloc ?_ _)); exact BK117.out)) : gb124 ≠ gb117)); have n9_ := Aside0.mk ((by rw [hg]; exact Nat.ne_of_lt (blk_lt (g := gb119) (o := .cells #[.int .i64 x119_0, .int .u64 x119_1, .int .u64 x119_2] 28 (0, 0)) (by (with_reducible repeat (first | refine blk_drewN ?_ _ | refine blk_drew ?_ | refine blk_alloc ?_ _)); exact BK119.out)) : gb119 ≠ gb124)); have n10_ := Aside0.mk ((by rw [hg]; exact Nat.ne_of_gt (blk_lt (g := gb119) (o := .cells #[.int .i64 x119_0, .int .u64 x119_1, .int .u64 x119_2] 28 (0, 0)) (by (with_reducible repeat (first | refine blk_drewN ?_ _ | refine blk_drew ?_ | refine blk_alloc ?_ _)); exact BK119.out)) : gb124 ≠ gb119)); clear HO_3; clear BK117; clear BK119; clear HB; have HO_3 := n0_; have BK117 := n1_; have BK119 := n2_; have HB := n3_; have BK124 := n4_; have GW124 := n5_; have GE124 := n6_; have NB117_124 := n7_; have NB124_117 := n8_; have NB119_124 := n9_; have NB124_119 := n10_; clear n0_ n1_ n2_ n3_ n4_ n5_ n6_ n7_ n8_ n9_ n10_; clear hb hbox hg; have hnb23 := NB124_117.out; have hnc23 := NB117_124.out; have hnb24 := NB124_119.out; have hnc24 := NB119_124.out; have hcz25_0 : w22.cell? ⟨gb124, 0, none⟩ = some (.int .i64 0) := (blk_cell BK124.out 0).trans rfl; have hcz25_1 : w22.cell? ⟨gb124, 1, none⟩ = some (.int .u64 0) := (blk_cell BK124.out 1).trans rfl; have hcz25_2 : w22.cell? ⟨gb124, 2, none⟩ = some (.int .u64 0) := (blk_cell BK124.out 2).trans rfl; have hcz25_3 : w22.cell? ⟨gb124, 3, none⟩ = some (.int .i64 0) := (blk_cell BK124.out 3).trans rfl; have hfz25_0 := blk_frozen BK124.out 0; have hfz25_1 := blk_frozen BK124.out 1; have hfz25_2 := blk_frozen BK124.out 2; have hfz25_3 := blk_frozen BK124.out 3) | ((with_reducible refine gate_builtin (b := .append) (xs := #[.tmp 17, .tmp 19]) rfl ?_); at_builtin; refine Kd.R_append k30 (w0 := w) w.heap.size rfl (.tmp 17) (.tmp 19) 40 30 (.agg #[(.int .i64 0), (.int .u64 0), (.int .u64 0), (.int .i64 0)]) 32 rfl Tryz.underlying40 info30 rfl (by decide) (by omega) u3 x3_1 (⟨(⟨t120, (⟨t121, t122⟩ : S26)⟩ : S28), t123⟩ : S30) [.int .i64 t120, .int .u64 t121, .int .u64 t122, .int .i64 t123] (fun k_ => k_ ≠ gb124) (fun _ => False) rfl (by first | (go_simp; done) | (go_simp; rfl)) ?aP (fun _ hk => hk.elim) ?aF ?aO ?aB ?aS ?aL ?_; (case aP => exact k30_mkM _ _ _ (⟨(⟨t120, (⟨t121, t122⟩ : S26)⟩ : S28), t123⟩ : S30)); (case aB => exact (by repeat (first | (with_reducible first | exact HB.out | apply below_alloc | apply pw_below_drewN | apply below_drew1 | refine below_set ?_ GE117.out | refine below_set ?_ GE119.out | refine below_set ?_ GE124.out) | exact HB.out))); (case aF => exact (fun k_ hk => Kd.freshB (g := gb124) (o := .cells #[.int .i64 t120, .int .u64 t121, .int .u64 t122, .int .i64 t123] 30 (0, 0)) (by (with_reducible repeat (first | refine blk_drewN ?_ _ | refine blk_drew ?_ | refine blk_alloc ?_ _)); refine blk_put (cs := #[.int .i64 t120, .int .u64 t121, .int .u64 t122, .int .i64 0]) ?_ 3 _ rfl; (with_reducible repeat (first | refine blk_drewN ?_ _ | refine blk_drew ?_ | refine blk_alloc ?_ _)); refine blk_put (cs := #[.int .i64 t120, .int .u64 t121, .int .u64 0, .int .i64 0]) ?_ 2 _ rfl; (with_reducible repeat (first | refine blk_drewN ?_ _ | refine blk_drew ?_ | refine blk_alloc ?_ _)); refine blk_put (cs := #[.int .i64 t120, .int .u64 0, .int .u64 0, .int .i64 0]) ?_ 1 _ rfl; (with_reducible repeat (first | refine blk_drewN ?_ _ | refine blk_drew ?_ | refine blk_alloc ?_ _)); refine blk_put (cs := #[.int .i64 0, .int .u64 0, .int .u64 0, .int .i64 0]) ?_ 0 _ rfl; (with_reducible repeat (first | refine blk_drewN ?_ _ | refine blk_drew ?_ | refine blk_alloc ?_ _)); exact BK124.out) k_ hk)); (case aO => exact (by (with_reducible repeat (first | apply Kd.R_alloc | apply Kd.R_drewN | apply Kd.R_drew)); exact Kd.R_mono (Kd.R_far (p := ⟨gb124, 3, none⟩) (Kd.R_far (p := ⟨gb124, 2, none⟩) (Kd.R_far (p := ⟨gb124, 1, none⟩) (Kd.R_far (p := ⟨gb124, 0, none⟩) (Kd.R_mono HO_3.out (fun k_ hk => (⟨hk, hk.2⟩ : _ ∧ k_ ≠ gb124))) (fun _ hk => hk.2) (.int .i64 t120)) (fun _ hk => hk.2) (.int .u64 t121)) (fun _ hk => hk.2) (.int .u64 t122)) (fun _ hk => hk.2) (.int .i64 t123)) (fun _ hk => hk.1.2))); (case aS => exact (below_size (by repeat (first | (with_reducible first | exact HB.out | apply below_alloc | apply pw_below_drewN | apply below_drew1 | refine below_set ?_ GE117.out | refine below_set ?_ GE119.out | refine below_set ?_ GE124.out) | exact HB.out)))); (case aL => have := LMc12.out; omega); intro v126 w26 ho hb hg hat; rw [← Ny125.out] at ho; have n0_ := Aside0.mk (blk_grown (g := gb117) (o := .cells #[.int .i64 a0_0, .int .u64 a0_1, .int .u64 a0_2, .int .i64 a0_3, .int .u64 a0_4, .int .u64 a0_5] 52 (0, 0)) (by (with_reducible repeat (first | refine blk_drewN ?_ _ | refine blk_drew ?_ | refine blk_alloc ?_ _)); refine blk_far ?_ NB117_124.out _; (with_reducible repeat (first | refine blk_drewN ?_ _ | refine blk_drew ?_ | refine blk_alloc ?_ _)); refine blk_far ?_ NB117_124.out _; (with_reducible repeat (first | refine blk_drewN ?_ _ | refine blk_drew ?_ | refine blk_alloc ?_ _)); refine blk_far ?_ NB117_124.out _; (with_reducible repeat (first | refine blk_drewN ?_ _ | refine blk_drew ?_ | refine blk_alloc ?_ _)); refine blk_far ?_ NB117_124.out _; (with_reducible repeat (first | refine blk_drewN ?_ _ | refine blk_drew ?_ | refine blk_alloc ?_ _)); exact BK117.out) hg (Kd.R_ne HO_3.out BK117.out (by decide))); have n1_ := Aside0.mk (blk_grown (g := gb119) (o := .cells #[.int .i64 x119_0, .int .u64 x119_1, .int .u64 x119_2] 28 (0, 0)) (by (with_reducible repeat (first | refine blk_drewN ?_ _ | refine blk_drew ?_ | refine blk_alloc ?_ _)); refine blk_far ?_ NB119_124.out _; (with_reducible repeat (first | refine blk_drewN ?_ _ | refine blk_drew ?_ | refine blk_alloc ?_ _)); refine blk_far ?_ NB119_124.out _; (with_reducible repeat (first | refine blk_drewN ?_ _ | refine blk_drew ?_ | refine blk_alloc ?_ _)); refine blk_far ?_ NB119_124.out _; (with_reducible repeat (first | refine blk_drewN ?_ _ | refine blk_drew ?_ | refine blk_alloc ?_ _)); refine blk_far ?_ NB119_124.out _; (with_reducible repeat (first | refine blk_drewN ?_ _ | refine blk_drew ?_ | refine blk_alloc ?_ _)); exact BK119.out) hg (Kd.R_ne HO_3.out BK119.out (by decide))); have n2_ := Aside0.mk (blk_grown (g := gb124) (o := .cells #[.int .i64 t120, .int .u64 t121, .int .u64 t122, .int .i64 t123] 30 (0, 0)) (by (with_reducible repeat (first | refine blk_drewN ?_ _ | refine blk_drew ?_ | refine blk_alloc ?_ _)); refine blk_put (cs := #[.int .i64 t120, .int .u64 t121, .int .u64 t122, .int .i64 0]) ?_ 3 _ rfl; (with_reducible repeat (first | refine blk_drewN ?_ _ | refine blk_drew ?_ | refine blk_alloc ?_ _)); refine blk_put (cs := #[.int .i64 t120, .int .u64 t121, .int .u64 0, .int .i64 0]) ?_ 2 _ rfl; (with_reducible repeat (first | refine blk_drewN ?_ _ | refine blk_drew ?_ | refine blk_alloc ?_ _)); refine blk_put (cs := #[.int .i64 t120, .int .u64 0, .int .u64 0, .int .i64 0]) ?_ 1 _ rfl; (with_reducible repeat (first | refine blk_drewN ?_ _ | refine blk_drew ?_ | refine blk_alloc ?_ _)); refine blk_put (cs := #[.int .i64 0, .int .u64 0, .int .u64 0, .int .i64 0]) ?_ 0 _ rfl; (with_reducible repeat (first | refine blk_drewN ?_ _ | refine blk_drew ?_ | refine blk_alloc ?_ _)); exact BK124.out) hg (Kd.R_away HO_3.out (fun _ hk => hk.2))); have n3_ := Aside0.mk (hb); have n4_ := Aside0.mk (ho); clear BK117; clear BK119; clear BK124; clear HB; clear HO_3; have BK117 := n0_; have BK119 := n1_; have BK124 := n2_; have HB := n3_; have HO127 := n4_; clear n0_ n1_ n2_ n3_ n4_; clear ho hb hg hat; have hcz27_0 : w26.cell? ⟨gb124, 0, none⟩ = some (.int .i64 t120) := (blk_cell BK124.out 0).trans rfl; have hcz27_1 : w26.cell? ⟨gb124, 1, none⟩ = some (.int .u64 t121) := (blk_cell BK124.out 1).trans rfl; have hcz27_2 : w26.cell? ⟨gb124, 2, none⟩ = some (.int .u64 t122) := (blk_cell BK124.out 2).trans rfl; have hcz27_3 : w26.cell? ⟨gb124, 3, none⟩ = some (.int .i64 t123) := (blk_cell BK124.out 3).trans rfl; have hfz27_0 := blk_frozen BK124.out 0; have hfz27_1 := blk_frozen BK124.out 1; have hfz27_2 := blk_frozen BK124.out 2; have hfz27_3 := blk_frozen BK124.out 3) | ((with_reducible refine gate_callee (f := 24) rfl ?_); refine goesL_ (some 23) rfl rfl Tryz.func24 (by kernel_rfl) rfl #[.agg #[.int .i64 t120, .int .u64 t121, .int .u64 t122, .int .i64 t123]] rfl (by (try simp only [List.map_toArray, List.map_cons, List.map_nil]); first | done | rfl | (simp only [List.length_drop, List.length_take]; rfl)) ?_; (with_reducible refine (pref_Last.calls t120 t121 t122 t123 t128 t129 t130 _ ?side1 A13.out).mono ?_); (case side1 => first | exact hG | exact GoodW.below hG (by repeat (first | (with_reducible first | exact HB.out | apply below_alloc | apply pw_below_drewN | apply below_drew1 | refine below_set ?_ GE117.out | refine below_set ?_ GE119.out | refine below_set ?_ GE124.out) | exact HB.out)) | (repeat (first | exact hG | apply GoodW.drewN | apply GoodW.drew))); rintro e w28 ⟨rfl, hb⟩; refine ⟨_, rfl, ?_⟩; have n0_ := Aside0.mk (Kd.R_below (by (with_reducible repeat (first | apply Kd.R_alloc | apply Kd.R_drewN | apply Kd.R_drew)); exact HO127.out) hb); have n1_ := Aside0.mk (blk_below (g := gb117) (o := .cells #[.int .i64 a0_0, .int .u64 a0_1, .int .u64 a0_2, .int .i64 a0_3, .int .u64 a0_4, .int .u64 a0_5] 52 (0, 0)) (by (with_reducible repeat (first | refine blk_drewN ?_ _ | refine blk_drew ?_ | refine blk_alloc ?_ _)); exact BK117.out) hb); have n2_ := Aside0.mk (blk_below (g := gb119) (o := .cells #[.int .i64 x119_0, .int .u64 x119_1, .int .u64 x119_2] 28 (0, 0)) (by (with_reducible repeat (first | refine blk_drewN ?_ _ | refine blk_drew ?_ | refine blk_alloc ?_ _)); exact BK119.out) hb); have n3_ := Aside0.mk (blk_below (g := gb124) (o := .cells #[.int .i64 t120, .int .u64 t121, .int .u64 t122, .int .i64 t123] 30 (0, 0)) (by (with_reducible repeat (first | refine blk_drewN ?_ _ | refine blk_drew ?_ | refine blk_alloc ?_ _)); exact BK124.out) hb); have n4_ := Aside0.mk (below_step (by repeat (first | (with_reducible first | exact HB.out | apply below_alloc | apply pw_below_drewN | apply below_drew1 | refine below_set ?_ GE117.out | refine below_set ?_ GE119.out | refine below_set ?_ GE124.out) | exact HB.out)) hb); clear HO127; clear BK117; clear BK119; clear BK124; clear HB; have HO127 := n0_; have BK117 := n1_; have BK119 := n2_; have BK124 := n3_; have HB := n4_; clear n0_ n1_ n2_ n3_ n4_; (try clear hb); (try clear hb2); (try clear hk); (try clear hi)) | ((with_reducible refine gate_callee (f := 78) rfl ?_); refine goesL_ (some 24) rfl rfl Tryz.func78 (by kernel_rfl) rfl #[.agg #[.int .i64 t128, .int .u64 t129, .int .u64 t130]] rfl (by (try simp only [List.map_toArray, List.map_cons, List.map_nil]); first | done | rfl | (simp only [List.length_drop, List.length_take]; rfl)) ?_; (with_reducible refine (addr_Next.calls t128 t129 t130 t131 t132 t133 true _ ?side1 A14.out).mono ?_); (case side1 => first | exact hG | exact GoodW.below hG (by repeat (first | (with_reducible first | exact HB.out | apply below_alloc | apply pw_below_drewN | apply below_drew1 | refine below_set ?_ GE117.out | refine below_set ?_ GE119.out | refine below_set ?_ GE124.out) | exact HB.out)) | (repeat (first | exact hG | apply GoodW.drewN | apply GoodW.drew))); rintro e w29 ⟨rfl, hb⟩; refine ⟨_, rfl, ?_⟩; have n0_ := Aside0.mk (Kd.R_below (by (with_reducible repeat (first | apply Kd.R_alloc | apply Kd.R_drewN | apply Kd.R_drew)); exact HO127.out) hb); have n1_ := Aside0.mk (blk_below (g := gb117) (o := .cells #[.int .i64 a0_0, .int .u64 a0_1, .int .u64 a0_2, .int .i64 a0_3, .int .u64 a0_4, .int .u64 a0_5] 52 (0, 0)) (by (with_reducible repeat (first | refine blk_drewN ?_ _ | refine blk_drew ?_ | refine blk_alloc ?_ _)); exact BK117.out) hb); have n2_ := Aside0.mk (blk_below (g := gb119) (o := .cells #[.int .i64 x119_0, .int .u64 x119_1, .int .u64 x119_2] 28 (0, 0)) (by (with_reducible repeat (first | refine blk_drewN ?_ _ | refine blk_drew ?_ | refine blk_alloc ?_ _)); exact BK119.out) hb); have n3_ := Aside0.mk (blk_below (g := gb124) (o := .cells #[.int .i64 t120, .int .u64 t121, .int .u64 t122, .int .i64 t123] 30 (0, 0)) (by (with_reducible repeat (first | refine blk_drewN ?_ _ | refine blk_drew ?_ | refine blk_alloc ?_ _)); exact BK124.out) hb); have n4_ := Aside0.mk (below_step (by repeat (first | (with_reducible first | exact HB.out | apply below_alloc | apply pw_below_drewN | apply below_drew1 | refine below_set ?_ GE117.out | refine below_set ?_ GE119.out | refine below_set ?_ GE124.out) | exact HB.out)) hb); clear HO127; clear BK117; clear BK119; clear BK124; clear HB; have HO127 := n0_; have BK117 := n1_; have BK119 := n2_; have BK124 := n3_; have HB := n4_; clear n0_ n1_ n2_ n3_ n4_; (try clear hb); (try clear hb2); (try clear hk); (try clear hi)) | ((with_reducible refine gate_dst (N := 6) rfl ?_); refine box_event ?hg (N := 6) ?hd (cs := #[.int .i64 0, .int .u64 0, .int .u64 0]) (t := 28) ?hr ?_; (case hd => rfl); (case hg => rfl); (case hr => first | (go_simp; done) | (go_simp; rfl)); intro gb135 hg w30 hbox hb; have n0_ := Aside0.mk (Kd.R_below (by (with_reducible repeat (first | apply Kd.R_alloc | apply Kd.R_drewN | apply Kd.R_drew)); exact HO127.out) hb); have n1_ := Aside0.mk (blk_below (g := gb117) (o := .cells #[.int .i64 a0_0, .int .u64 a0_1, .int .u64 a0_2, .int .i64 a0_3, .int .u64 a0_4, .int .u64 a0_5] 52 (0, 0)) (by (with_reducible repeat (first | refine blk_drewN ?_ _ | refine blk_drew ?_ | refine blk_alloc ?_ _)); exact BK117.out) hb); have n2_ := Aside0.mk (blk_below (g := gb119) (o := .cells #[.int .i64 x119_0, .int .u64 x119_1, .int .u64 x119_2] 28 (0, 0)) (by (with_reducible repeat (first | refine blk_drewN ?_ _ | refine blk_drew ?_ | refine blk_alloc ?_ _)); exact BK119.out) hb); have n3_ := Aside0.mk (blk_below (g := gb124) (o := .cells #[.int .i64 t120, .int .u64 t121, .int .u64 t122, .int .i64 t123] 30 (0, 0)) (by (with_reducible repeat (first | refine blk_drewN ?_ _ | refine blk_drew ?_ | refine blk_alloc ?_ _)); exact BK124.out) hb); have n4_ := Aside0.mk (below_step (by repeat (first | (with_reducible first | exact HB.out | apply below_alloc | apply pw_below_drewN | apply below_drew1 | refine below_set ?_ GE117.out | refine below_set ?_ GE119.out | refine below_set ?_ GE124.out) | exact HB.out)) hb); have n5_ := Aside0.mk (hbox); have n6_ := Aside0.mk ((by rw [hg]; exact (below_size (by repeat (first | (with_reducible first | exact HB.out | apply below_alloc | apply pw_below_drewN | apply below_drew1 | refine below_set ?_ GE117.out | refine below_set ?_ GE119.out | refine below_set ?_ GE124.out) | exact HB.out))) : w.heap.size ≤ gb135)); have n7_ := Aside0.mk ((by rw [hg]; exact (below_size (by repeat (first | (with_reducible first | exact HB.out | apply below_alloc | apply pw_below_drewN | apply below_drew1 | refine below_set ?_ GE117.out | refine below_set ?_ GE119.out | refine below_set ?_ GE124.out) | exact HB.out))) : w.heap.size ≤ gb135)); have n8_ := Aside0.mk ((by rw [hg]; exact Nat.ne_of_lt (blk_lt (g := gb117) (o := .cells #[.int .i64 a0_0, .int .u64 a0_1, .int .u64 a0_2, .int .i64 a0_3, .int .u64 a0_4, .int .u64 a0_5] 52 (0, 0)) (by (with_reducible repeat (first | refine blk_drewN ?_ _ | refine blk_drew ?_ | refine blk_alloc ?_ _)); exact BK117.out)) : gb117 ≠ gb135)); have n9_ := Aside0.mk ((by rw [hg]; exact Nat.ne_of_gt (blk_lt (g := gb117) (o := .cells #[.int .i64 a0_0, .int .u64 a0_1, .int .u64 a0_2, .int .i64 a0_3, .int .u64 a0_4, .int .u64 a0_5] 52 (0, 0)) (by (with_reducible repeat (first | refine blk_drewN ?_ _ | refine blk_drew ?_ | refine blk_alloc ?_ _)); exact BK117.out)) : gb135 ≠ gb117)); have n10_ := Aside0.mk ((by rw [hg]; exact Nat.ne_of_lt (blk_lt (g := gb119) (o := .cells #[.int .i64 x119_0, .int .u64 x119_1, .int .u64 x119_2] 28 (0, 0)) (by (with_reducible repeat (first | refine blk_drewN ?_ _ | refine blk_drew ?_ | refine blk_alloc ?_ _)); exact BK119.out)) : gb119 ≠ gb135)); have n11_ := Aside0.mk ((by rw [hg]; exact Nat.ne_of_gt (blk_lt (g := gb119) (o := .cells #[.int .i64 x119_0, .int .u64 x119_1, .int .u64 x119_2] 28 (0, 0)) (by (with_reducible repeat (first | refine blk_drewN ?_ _ | refine blk_drew ?_ | refine blk_alloc ?_ _)); exact BK119.out)) : gb135 ≠ gb119)); have n12_ := Aside0.mk ((by rw [hg]; exact Nat.ne_of_lt (blk_lt (g := gb124) (o := .cells #[.int .i64 t120, .int .u64 t121, .int .u64 t122, .int .i64 t123] 30 (0, 0)) (by (with_reducible repeat (first | refine blk_drewN ?_ _ | refine blk_drew ?_ | refine blk_alloc ?_ _)); exact BK124.out)) : gb124 ≠ gb135)); have n13_ := Aside0.mk ((by rw [hg]; exact Nat.ne_of_gt (blk_lt (g := gb124) (o := .cells #[.int .i64 t120, .int .u64 t121, .int .u64 t122, .int .i64 t123] 30 (0, 0)) (by (with_reducible repeat (first | refine blk_drewN ?_ _ | refine blk_drew ?_ | refine blk_alloc ?_ _)); exact BK124.out)) : gb135 ≠ gb124)); clear HO127; clear BK117; clear BK119; clear BK124; clear HB; have HO127 := n0_; have BK117 := n1_; have BK119 := n2_; have BK124 := n3_; have HB := n4_; have BK135 := n5_; have GW135 := n6_; have GE135 := n7_; have NB117_135 := n8_; have NB135_117 := n9_; have NB119_135 := n10_; have NB135_119 := n11_; have NB124_135 := n12_; have NB135_124 := n13_; clear n0_ n1_ n2_ n3_ n4_ n5_ n6_ n7_ n8_ n9_ n10_ n11_ n12_ n13_; clear hb hbox hg; have hnb31 := NB135_117.out; have hnc31 := NB117_135.out; have hnb32 := NB135_119.out; have hnc32 := NB119_135.out; have hnb33 := NB135_124.out; have hnc33 := NB124_135.out; have hcz34_0 : w30.cell? ⟨gb135, 0, none⟩ = some (.int .i64 0) := (blk_cell BK135.out 0).trans rfl; have hcz34_1 : w30.cell? ⟨gb135, 1, none⟩ = some (.int .u64 0) := (blk_cell BK135.out 1).trans rfl; have hcz34_2 : w30.cell? ⟨gb135, 2, none⟩ = some (.int .u64 0) := (blk_cell BK135.out 2).trans rfl; have hfz34_0 := blk_frozen BK135.out 0; have hfz34_1 := blk_frozen BK135.out 1; have hfz34_2 := blk_frozen BK135.out 2; have hcz35_0 : w30.cell? ⟨gb117, 0, none⟩ = some (.int .i64 a0_0) := (blk_cell BK117.out 0).trans rfl; have hcz35_1 : w30.cell? ⟨gb117, 1, none⟩ = some (.int .u64 a0_1) := (blk_cell BK117.out 1).trans rfl; have hcz35_2 : w30.cell? ⟨gb117, 2, none⟩ = some (.int .u64 a0_2) := (blk_cell BK117.out 2).trans rfl; have hcz35_3 : w30.cell? ⟨gb117, 3, none⟩ = some (.int .i64 a0_3) := (blk_cell BK117.out 3).trans rfl; have hcz35_4 : w30.cell? ⟨gb117, 4, none⟩ = some (.int .u64 a0_4) := (blk_cell BK117.out 4).trans rfl; have hcz35_5 : w30.cell? ⟨gb117, 5, none⟩ = some (.int .u64 a0_5) := (blk_cell BK117.out 5).trans rfl; have hfz35_0 := blk_frozen BK117.out 0; have hfz35_1 := blk_frozen BK117.out 1; have hfz35_2 := blk_frozen BK117.out 2; have hfz35_3 := blk_frozen BK117.out 3; have hfz35_4 := blk_frozen BK117.out 4; have hfz35_5 := blk_frozen BK117.out 5) | (go_at_call 75; (with_reducible refine (addr_Less.calls a0_3 a0_4 a0_5 t131 t132 t133 true _ ?side1 A16.out).mono ?_); (case side1 => first | exact hG | exact GoodW.below hG (by repeat (first | (with_reducible first | exact HB.out | apply below_alloc | apply pw_below_drewN | apply below_drew1 | refine below_set ?_ GE117.out | refine below_set ?_ GE119.out | refine below_set ?_ GE124.out | refine below_set ?_ GE135.out) | exact HB.out)) | (repeat (first | exact hG | apply GoodW.drewN | apply GoodW.drew))); rintro e w36 ⟨rfl, hb⟩; have n0_ := Aside0.mk (Kd.R_below (by (with_reducible repeat (first | apply Kd.R_alloc | apply Kd.R_drewN | apply Kd.R_drew)); exact (Kd.R_mono (Kd.R_far (p := ⟨gb135, 2, none⟩) (Kd.R_far (p := ⟨gb135, 1, none⟩) (Kd.R_far (p := ⟨gb135, 0, none⟩) (Kd.R_types HO127.out BK135.out (by decide)) (fun _ hk => hk.2) (.int .i64 t131)) (fun _ hk => hk.2) (.int .u64 t132)) (fun _ hk => hk.2) (.int .u64 t133)) (fun _ h_ => h_.1))) hb); have n1_ := Aside0.mk (blk_below (g := gb117) (o := .cells #[.int .i64 a0_0, .int .u64 a0_1, .int .u64 a0_2, .int .i64 a0_3, .int .u64 a0_4, .int .u64 a0_5] 52 (0, 0)) (by (with_reducible repeat (first | refine blk_drewN ?_ _ | refine blk_drew ?_ | refine blk_alloc ?_ _)); refine blk_far ?_ NB117_135.out _; (with_reducible repeat (first | refine blk_drewN ?_ _ | refine blk_drew ?_ | refine blk_alloc ?_ _)); refine blk_far ?_ NB117_135.out _; (with_reducible repeat (first | refine blk_drewN ?_ _ | refine blk_drew ?_ | refine blk_alloc ?_ _)); refine blk_far ?_ NB117_135.out _; (with_reducible repeat (first | refine blk_drewN ?_ _ | refine blk_drew ?_ | refine blk_alloc ?_ _)); exact BK117.out) hb); have n2_ := Aside0.mk (blk_below (g := gb119) (o := .cells #[.int .i64 x119_0, .int .u64 x119_1, .int .u64 x119_2] 28 (0, 0)) (by (with_reducible repeat (first | refine blk_drewN ?_ _ | refine blk_drew ?_ | refine blk_alloc ?_ _)); refine blk_far ?_ NB119_135.out _; (with_reducible repeat (first | refine blk_drewN ?_ _ | refine blk_drew ?_ | refine blk_alloc ?_ _)); refine blk_far ?_ NB119_135.out _; (with_reducible repeat (first | refine blk_drewN ?_ _ | refine blk_drew ?_ | refine blk_alloc ?_ _)); refine blk_far ?_ NB119_135.out _; (with_reducible repeat (first | refine blk_drewN ?_ _ | refine blk_drew ?_ | refine blk_alloc ?_ _)); exact BK119.out) hb); have n3_ := Aside0.mk (blk_below (g := gb124) (o := .cells #[.int .i64 t120, .int .u64 t121, .int .u64 t122, .int .i64 t123] 30 (0, 0)) (by (with_reducible repeat (first | refine blk_drewN ?_ _ | refine blk_drew ?_ | refine blk_alloc ?_ _)); refine blk_far ?_ NB124_135.out _; (with_reducible repeat (first | refine blk_drewN ?_ _ | refine blk_drew ?_ | refine blk_alloc ?_ _)); refine blk_far ?_ NB124_135.out _; (with_reducible repeat (first | refine blk_drewN ?_ _ | refine blk_drew ?_ | refine blk_alloc ?_ _)); refine blk_far ?_ NB124_135.out _; (with_reducible repeat (first | refine blk_drewN ?_ _ | refine blk_drew ?_ | refine blk_alloc ?_ _)); exact BK124.out) hb); have n4_ := Aside0.mk (blk_below (g := gb135) (o := .cells #[.int .i64 t131, .int .u64 t132, .int .u64 t133] 28 (0, 0)) (by (with_reducible repeat (first | refine blk_drewN ?_ _ | refine blk_drew ?_ | refine blk_alloc ?_ _)); refine blk_put (cs := #[.int .i64 t131, .int .u64 t132, .int .u64 0]) ?_ 2 _ rfl; (with_reducible repeat (first | refine blk_drewN ?_ _ | refine blk_drew ?_ | refine blk_alloc ?_ _)); refine blk_put (cs := #[.int .i64 t131, .int .u64 0, .int .u64 0]) ?_ 1 _ rfl; (with_reducible repeat (first | refine blk_drewN ?_ _ | refine blk_drew ?_ | refine blk_alloc ?_ _)); refine blk_put (cs := #[.int .i64 0, .int .u64 0, .int .u64 0]) ?_ 0 _ rfl; (with_reducible repeat (first | refine blk_drewN ?_ _ | refine blk_drew ?_ | refine blk_alloc ?_ _)); exact BK135.out) hb); have n5_ := Aside0.mk (below_step (by repeat (first | (with_reducible first | exact HB.out | apply below_alloc | apply pw_below_drewN | apply below_drew1 | refine below_set ?_ GE117.out | refine below_set ?_ GE119.out | refine below_set ?_ GE124.out | refine below_set ?_ GE135.out) | exact HB.out)) hb); clear HO127; clear BK117; clear BK119; clear BK124; clear BK135; clear HB; have HO127 := n0_; have BK117 := n1_; have BK119 := n2_; have BK124 := n3_; have BK135 := n4_; have HB := n5_; clear n0_ n1_ n2_ n3_ n4_ n5_; (try clear hb); (try clear hb2); (try clear hk); (try clear hi)))
              go_ret
              exact ⟨_, by first | rfl | (simp [errW_none, errW_some] <;> rfl) | (simp [*, errW_none, errW_some] <;> rfl), by (with_reducible repeat (first | apply Kd.R_alloc | apply Kd.R_drewN | apply Kd.R_drew)); exact Kd.R_mono HO127.out (fun _ hk => trivial), by repeat (first | (with_reducible first | exact HB.out | apply below_alloc | apply pw_below_drewN | apply below_drew1 | refine below_set ?_ GE117.out | refine below_set ?_ GE119.out | refine below_set ?_ GE124.out | refine below_set ?_ GE135.out) | exact HB.out)⟩
            · replace c17 := Bool.eq_false_iff.mpr c17
              subst c17
              have H1 : (rang_Cover.l0 k1 y125 a0_0 a0_1 a0_2 a0_3 a0_4 a0_5 t131 t132 t133) = some r := by rw [if_neg (show ¬ (false = true) by decide)] at H; exact H
              clear H
              have H := H1
              clear H1
              have H' := Aside0.mk H
              clear H
              have hnb37 := NB119_117.out
              have hnc37 := NB117_119.out
              have hcz38_0 : wr.cell? ⟨gb119, 0, none⟩ = some (.int .i64 x119_0) := (blk_cell BK119.out 0).trans rfl
              have hcz38_1 : wr.cell? ⟨gb119, 1, none⟩ = some (.int .u64 x119_1) := (blk_cell BK119.out 1).trans rfl
              have hcz38_2 : wr.cell? ⟨gb119, 2, none⟩ = some (.int .u64 x119_2) := (blk_cell BK119.out 2).trans rfl
              have hfz38_0 := blk_frozen BK119.out 0
              have hfz38_1 := blk_frozen BK119.out 1
              have hfz38_2 := blk_frozen BK119.out 2
              have hcz39_0 : wr.cell? ⟨gb117, 0, none⟩ = some (.int .i64 a0_0) := (blk_cell BK117.out 0).trans rfl
              have hcz39_1 : wr.cell? ⟨gb117, 1, none⟩ = some (.int .u64 a0_1) := (blk_cell BK117.out 1).trans rfl
              have hcz39_2 : wr.cell? ⟨gb117, 2, none⟩ = some (.int .u64 a0_2) := (blk_cell BK117.out 2).trans rfl
              have hcz39_3 : wr.cell? ⟨gb117, 3, none⟩ = some (.int .i64 a0_3) := (blk_cell BK117.out 3).trans rfl
              have hcz39_4 : wr.cell? ⟨gb117, 4, none⟩ = some (.int .u64 a0_4) := (blk_cell BK117.out 4).trans rfl
              have hcz39_5 : wr.cell? ⟨gb117, 5, none⟩ = some (.int .u64 a0_5) := (blk_cell BK117.out 5).trans rfl
              have hfz39_0 := blk_frozen BK117.out 0
              have hfz39_1 := blk_frozen BK117.out 1
              have hfz39_2 := blk_frozen BK117.out 2
              have hfz39_3 := blk_frozen BK117.out 3
              have hfz39_4 := blk_frozen BK117.out 4
              have hfz39_5 := blk_frozen BK117.out 5
              go_wp2_with (first | ((with_reducible refine gate_callee (f := 77) rfl ?_); refine goesL_ (some 16) rfl rfl Tryz.func77 (by kernel_rfl) rfl #[.agg #[.int .i64 x119_0, .int .u64 x119_1, .int .u64 x119_2], .agg #[.int .i64 a0_3, .int .u64 a0_4, .int .u64 a0_5]] rfl (by (try simp only [List.map_toArray, List.map_cons, List.map_nil]); first | done | rfl | (simp only [List.length_drop, List.length_take]; rfl)) ?_; (with_reducible refine (rang_widest.calls k1 x119_0 x119_1 x119_2 a0_3 a0_4 a0_5 t120 t121 t122 t123 _ ?side1 A11.out).mono ?_); (case side1 => first | exact hG | exact GoodW.below hG (by repeat (first | (with_reducible first | exact HB.out | apply below_alloc | apply pw_below_drewN | apply below_drew1 | refine below_set ?_ GE117.out | refine below_set ?_ GE119.out) | exact HB.out)) | (repeat (first | exact hG | apply GoodW.drewN | apply GoodW.drew))); rintro e w40 ⟨rfl, hb⟩; refine ⟨_, rfl, ?_⟩; have n0_ := Aside0.mk (Kd.R_below (by (with_reducible repeat (first | apply Kd.R_alloc | apply Kd.R_drewN | apply Kd.R_drew)); exact HO_3.out) hb); have n1_ := Aside0.mk (blk_below (g := gb117) (o := .cells #[.int .i64 a0_0, .int .u64 a0_1, .int .u64 a0_2, .int .i64 a0_3, .int .u64 a0_4, .int .u64 a0_5] 52 (0, 0)) (by (with_reducible repeat (first | refine blk_drewN ?_ _ | refine blk_drew ?_ | refine blk_alloc ?_ _)); exact BK117.out) hb); have n2_ := Aside0.mk (blk_below (g := gb119) (o := .cells #[.int .i64 x119_0, .int .u64 x119_1, .int .u64 x119_2] 28 (0, 0)) (by (with_reducible repeat (first | refine blk_drewN ?_ _ | refine blk_drew ?_ | refine blk_alloc ?_ _)); exact BK119.out) hb); have n3_ := Aside0.mk (below_step (by repeat (first | (with_reducible first | exact HB.out | apply below_alloc | apply pw_below_drewN | apply below_drew1 | refine below_set ?_ GE117.out | refine below_set ?_ GE119.out) | exact HB.out)) hb); clear HO_3; clear BK117; clear BK119; clear HB; have HO_3 := n0_; have BK117 := n1_; have BK119 := n2_; have HB := n3_; clear n0_ n1_ n2_ n3_; (try clear hb); (try clear hb2); (try clear hk); (try clear hi)) | ((with_reducible refine gate_dst (N := 5) rfl ?_); refine box_event ?hg (N := 5) ?hd (cs := #[.int .i64 0, .int .u64 0, .int .u64 0, .int .i64 0]) (t := 30) ?hr ?_; (case hd => rfl); (case hg => rfl); (case hr => first | (go_simp; done) | (go_simp; rfl)); intro gb124 hg w41 hbox hb; have n0_ := Aside0.mk (Kd.R_below (Kd.R_elderB (by (with_reducible repeat (first | apply Kd.R_alloc | apply Kd.R_drewN | apply Kd.R_drew)); exact HO_3.out) gb124 (Nat.le_of_eq hg.symm)) hb); have n1_ := Aside0.mk (blk_below (g := gb117) (o := .cells #[.int .i64 a0_0, .int .u64 a0_1, .int .u64 a0_2, .int .i64 a0_3, .int .u64 a0_4, .int .u64 a0_5] 52 (0, 0)) (by (with_reducible repeat (first | refine blk_drewN ?_ _ | refine blk_drew ?_ | refine blk_alloc ?_ _)); exact BK117.out) hb); have n2_ := Aside0.mk (blk_below (g := gb119) (o := .cells #[.int .i64 x119_0, .int .u64 x119_1, .int .u64 x119_2] 28 (0, 0)) (by (with_reducible repeat (first | refine blk_drewN ?_ _ | refine blk_drew ?_ | refine blk_alloc ?_ _)); exact BK119.out) hb); have n3_ := Aside0.mk (below_step (by repeat (first | (with_reducible first | exact HB.out | apply below_alloc | apply pw_below_drewN | apply below_drew1 | refine below_set ?_ GE117.out | refine below_set ?_ GE119.out) | exact HB.out)) hb); have n4_ := Aside0.mk (hbox); have n5_ := Aside0.mk ((by rw [hg]; exact (below_size (by repeat (first | (with_reducible first | exact HB.out | apply below_alloc | apply pw_below_drewN | apply below_drew1 | refine below_set ?_ GE117.out | refine below_set ?_ GE119.out) | exact HB.out))) : w.heap.size ≤ gb124)); have n6_ := Aside0.mk ((by rw [hg]; exact (below_size (by repeat (first | (with_reducible first | exact HB.out | apply below_alloc | apply pw_below_drewN | apply below_drew1 | refine below_set ?_ GE117.out | refine below_set ?_ GE119.out) | exact HB.out))) : w.heap.size ≤ gb124)); have n7_ := Aside0.mk ((by rw [hg]; exact Nat.ne_of_lt (blk_lt (g := gb117) (o := .cells #[.int .i64 a0_0, .int .u64 a0_1, .int .u64 a0_2, .int .i64 a0_3, .int .u64 a0_4, .int .u64 a0_5] 52 (0, 0)) (by (with_reducible repeat (first | refine blk_drewN ?_ _ | refine blk_drew ?_ | refine blk_alloc ?_ _)); exact BK117.out)) : gb117 ≠ gb124)); have n8_ := Aside0.mk ((by rw [hg]; exact Nat.ne_of_gt (blk_lt (g := gb117) (o := .cells #[.int .i64 a0_0, .int .u64 a0_1, .int .u64 a0_2, .int .i64 a0_3, .int .u64 a0_4, .int .u64 a0_5] 52 (0, 0)) (by (with_reducible repeat (first | refine blk_drewN ?_ _ | refine blk_drew ?_ | refine blk_alloc ?_ _)); exact BK117.out)) : gb124 ≠ gb117)); have n9_ := Aside0.mk ((by rw [hg]; exact Nat.ne_of_lt (blk_lt (g := gb119) (o := .cells #[.int .i64 x119_0, .int .u64 x119_1, .int .u64 x119_2] 28 (0, 0)) (by (with_reducible repeat (first | refine blk_drewN ?_ _ | refine blk_drew ?_ | refine blk_alloc ?_ _)); exact BK119.out)) : gb119 ≠ gb124)); have n10_ := Aside0.mk ((by rw [hg]; exact Nat.ne_of_gt (blk_lt (g := gb119) (o := .cells #[.int .i64 x119_0, .int .u64 x119_1, .int .u64 x119_2] 28 (0, 0)) (by (with_reducible repeat (first | refine blk_drewN ?_ _ | refine blk_drew ?_ | refine blk_alloc ?_ _)); exact BK119.out)) : gb124 ≠ gb119)); clear HO_3; clear BK117; clear BK119; clear HB; have HO_3 := n0_; have BK117 := n1_; have BK119 := n2_; have HB := n3_; have BK124 := n4_; have GW124 := n5_; have GE124 := n6_; have NB117_124 := n7_; have NB124_117 := n8_; have NB119_124 := n9_; have NB124_119 := n10_; clear n0_ n1_ n2_ n3_ n4_ n5_ n6_ n7_ n8_ n9_ n10_; clear hb hbox hg; have hnb42 := NB124_117.out; have hnc42 := NB117_124.out; have hnb43 := NB124_119.out; have hnc43 := NB119_124.out; have hcz44_0 : w41.cell? ⟨gb124, 0, none⟩ = some (.int .i64 0) := (blk_cell BK124.out 0).trans rfl; have hcz44_1 : w41.cell? ⟨gb124, 1, none⟩ = some (.int .u64 0) := (blk_cell BK124.out 1).trans rfl; have hcz44_2 : w41.cell? ⟨gb124, 2, none⟩ = some (.int .u64 0) := (blk_cell BK124.out 2).trans rfl; have hcz44_3 : w41.cell? ⟨gb124, 3, none⟩ = some (.int .i64 0) := (blk_cell BK124.out 3).trans rfl; have hfz44_0 := blk_frozen BK124.out 0; have hfz44_1 := blk_frozen BK124.out 1; have hfz44_2 := blk_frozen BK124.out 2; have hfz44_3 := blk_frozen BK124.out 3) | ((with_reducible refine gate_builtin (b := .append) (xs := #[.tmp 17, .tmp 19]) rfl ?_); at_builtin; refine Kd.R_append k30 (w0 := w) w.heap.size rfl (.tmp 17) (.tmp 19) 40 30 (.agg #[(.int .i64 0), (.int .u64 0), (.int .u64 0), (.int .i64 0)]) 32 rfl Tryz.underlying40 info30 rfl (by decide) (by omega) u3 x3_1 (⟨(⟨t120, (⟨t121, t122⟩ : S26)⟩ : S28), t123⟩ : S30) [.int .i64 t120, .int .u64 t121, .int .u64 t122, .int .i64 t123] (fun k_ => k_ ≠ gb124) (fun _ => False) rfl (by first | (go_simp; done) | (go_simp; rfl)) ?aP (fun _ hk => hk.elim) ?aF ?aO ?aB ?aS ?aL ?_; (case aP => exact k30_mkM _ _ _ (⟨(⟨t120, (⟨t121, t122⟩ : S26)⟩ : S28), t123⟩ : S30)); (case aB => exact (by repeat (first | (with_reducible first | exact HB.out | apply below_alloc | apply pw_below_drewN | apply below_drew1 | refine below_set ?_ GE117.out | refine below_set ?_ GE119.out | refine below_set ?_ GE124.out) | exact HB.out))); (case aF => exact (fun k_ hk => Kd.freshB (g := gb124) (o := .cells #[.int .i64 t120, .int .u64 t121, .int .u64 t122, .int .i64 t123] 30 (0, 0)) (by (with_reducible repeat (first | refine blk_drewN ?_ _ | refine blk_drew ?_ | refine blk_alloc ?_ _)); refine blk_put (cs := #[.int .i64 t120, .int .u64 t121, .int .u64 t122, .int .i64 0]) ?_ 3 _ rfl; (with_reducible repeat (first | refine blk_drewN ?_ _ | refine blk_drew ?_ | refine blk_alloc ?_ _)); refine blk_put (cs := #[.int .i64 t120, .int .u64 t121, .int .u64 0, .int .i64 0]) ?_ 2 _ rfl; (with_reducible repeat (first | refine blk_drewN ?_ _ | refine blk_drew ?_ | refine blk_alloc ?_ _)); refine blk_put (cs := #[.int .i64 t120, .int .u64 0, .int .u64 0, .int .i64 0]) ?_ 1 _ rfl; (with_reducible repeat (first | refine blk_drewN ?_ _ | refine blk_drew ?_ | refine blk_alloc ?_ _)); refine blk_put (cs := #[.int .i64 0, .int .u64 0, .int .u64 0, .int .i64 0]) ?_ 0 _ rfl; (with_reducible repeat (first | refine blk_drewN ?_ _ | refine blk_drew ?_ | refine blk_alloc ?_ _)); exact BK124.out) k_ hk)); (case aO => exact (by (with_reducible repeat (first | apply Kd.R_alloc | apply Kd.R_drewN | apply Kd.R_drew)); exact Kd.R_mono (Kd.R_far (p := ⟨gb124, 3, none⟩) (Kd.R_far (p := ⟨gb124, 2, none⟩) (Kd.R_far (p := ⟨gb124, 1, none⟩) (Kd.R_far (p := ⟨gb124, 0, none⟩) (Kd.R_mono HO_3.out (fun k_ hk => (⟨hk, hk.2⟩ : _ ∧ k_ ≠ gb124))) (fun _ hk => hk.2) (.int .i64 t120)) (fun _ hk => hk.2) (.int .u64 t121)) (fun _ hk => hk.2) (.int .u64 t122)) (fun _ hk => hk.2) (.int .i64 t123)) (fun _ hk => hk.1.2))); (case aS => exact (below_size (by repeat (first | (with_reducible first | exact HB.out | apply below_alloc | apply pw_below_drewN | apply below_drew1 | refine below_set ?_ GE117.out | refine below_set ?_ GE119.out | refine below_set ?_ GE124.out) | exact HB.out)))); (case aL => have := LMc12.out; omega); intro v126 w45 ho hb hg hat; rw [← Ny125.out] at ho; have n0_ := Aside0.mk (blk_grown (g := gb117) (o := .cells #[.int .i64 a0_0, .int .u64 a0_1, .int .u64 a0_2, .int .i64 a0_3, .int .u64 a0_4, .int .u64 a0_5] 52 (0, 0)) (by (with_reducible repeat (first | refine blk_drewN ?_ _ | refine blk_drew ?_ | refine blk_alloc ?_ _)); refine blk_far ?_ NB117_124.out _; (with_reducible repeat (first | refine blk_drewN ?_ _ | refine blk_drew ?_ | refine blk_alloc ?_ _)); refine blk_far ?_ NB117_124.out _; (with_reducible repeat (first | refine blk_drewN ?_ _ | refine blk_drew ?_ | refine blk_alloc ?_ _)); refine blk_far ?_ NB117_124.out _; (with_reducible repeat (first | refine blk_drewN ?_ _ | refine blk_drew ?_ | refine blk_alloc ?_ _)); refine blk_far ?_ NB117_124.out _; (with_reducible repeat (first | refine blk_drewN ?_ _ | refine blk_drew ?_ | refine blk_alloc ?_ _)); exact BK117.out) hg (Kd.R_ne HO_3.out BK117.out (by decide))); have n1_ := Aside0.mk (blk_grown (g := gb119) (o := .cells #[.int .i64 x119_0, .int .u64 x119_1, .int .u64 x119_2] 28 (0, 0)) (by (with_reducible repeat (first | refine blk_drewN ?_ _ | refine blk_drew ?_ | refine blk_alloc ?_ _)); refine blk_far ?_ NB119_124.out _; (with_reducible repeat (first | refine blk_drewN ?_ _ | refine blk_drew ?_ | refine blk_alloc ?_ _)); refine blk_far ?_ NB119_124.out _; (with_reducible repeat (first | refine blk_drewN ?_ _ | refine blk_drew ?_ | refine blk_alloc ?_ _)); refine blk_far ?_ NB119_124.out _; (with_reducible repeat (first | refine blk_drewN ?_ _ | refine blk_drew ?_ | refine blk_alloc ?_ _)); refine blk_far ?_ NB119_124.out _; (with_reducible repeat (first | refine blk_drewN ?_ _ | refine blk_drew ?_ | refine blk_alloc ?_ _)); exact BK119.out) hg (Kd.R_ne HO_3.out BK119.out (by decide))); have n2_ := Aside0.mk (blk_grown (g := gb124) (o := .cells #[.int .i64 t120, .int .u64 t121, .int .u64 t122, .int .i64 t123] 30 (0, 0)) (by (with_reducible repeat (first | refine blk_drewN ?_ _ | refine blk_drew ?_ | refine blk_alloc ?_ _)); refine blk_put (cs := #[.int .i64 t120, .int .u64 t121, .int .u64 t122, .int .i64 0]) ?_ 3 _ rfl; (with_reducible repeat (first | refine blk_drewN ?_ _ | refine blk_drew ?_ | refine blk_alloc ?_ _)); refine blk_put (cs := #[.int .i64 t120, .int .u64 t121, .int .u64 0, .int .i64 0]) ?_ 2 _ rfl; (with_reducible repeat (first | refine blk_drewN ?_ _ | refine blk_drew ?_ | refine blk_alloc ?_ _)); refine blk_put (cs := #[.int .i64 t120, .int .u64 0, .int .u64 0, .int .i64 0]) ?_ 1 _ rfl; (with_reducible repeat (first | refine blk_drewN ?_ _ | refine blk_drew ?_ | refine blk_alloc ?_ _)); refine blk_put (cs := #[.int .i64 0, .int .u64 0, .int .u64 0, .int .i64 0]) ?_ 0 _ rfl; (with_reducible repeat (first | refine blk_drewN ?_ _ | refine blk_drew ?_ | refine blk_alloc ?_ _)); exact BK124.out) hg (Kd.R_away HO_3.out (fun _ hk => hk.2))); have n3_ := Aside0.mk (hb); have n4_ := Aside0.mk (ho); clear BK117; clear BK119; clear BK124; clear HB; clear HO_3; have BK117 := n0_; have BK119 := n1_; have BK124 := n2_; have HB := n3_; have HO127 := n4_; clear n0_ n1_ n2_ n3_ n4_; clear ho hb hg hat; have hcz46_0 : w45.cell? ⟨gb124, 0, none⟩ = some (.int .i64 t120) := (blk_cell BK124.out 0).trans rfl; have hcz46_1 : w45.cell? ⟨gb124, 1, none⟩ = some (.int .u64 t121) := (blk_cell BK124.out 1).trans rfl; have hcz46_2 : w45.cell? ⟨gb124, 2, none⟩ = some (.int .u64 t122) := (blk_cell BK124.out 2).trans rfl; have hcz46_3 : w45.cell? ⟨gb124, 3, none⟩ = some (.int .i64 t123) := (blk_cell BK124.out 3).trans rfl; have hfz46_0 := blk_frozen BK124.out 0; have hfz46_1 := blk_frozen BK124.out 1; have hfz46_2 := blk_frozen BK124.out 2; have hfz46_3 := blk_frozen BK124.out 3) | ((with_reducible refine gate_callee (f := 24) rfl ?_); refine goesL_ (some 23) rfl rfl Tryz.func24 (by kernel_rfl) rfl #[.agg #[.int .i64 t120, .int .u64 t121, .int .u64 t122, .int .i64 t123]] rfl (by (try simp only [List.map_toArray, List.map_cons, List.map_nil]); first | done | rfl | (simp only [List.length_drop, List.length_take]; rfl)) ?_; (with_reducible refine (pref_Last.calls t120 t121 t122 t123 t128 t129 t130 _ ?side1 A13.out).mono ?_); (case side1 => first | exact hG | exact GoodW.below hG (by repeat (first | (with_reducible first | exact HB.out | apply below_alloc | apply pw_below_drewN | apply below_drew1 | refine below_set ?_ GE117.out | refine below_set ?_ GE119.out | refine below_set ?_ GE124.out) | exact HB.out)) | (repeat (first | exact hG | apply GoodW.drewN | apply GoodW.drew))); rintro e w47 ⟨rfl, hb⟩; refine ⟨_, rfl, ?_⟩; have n0_ := Aside0.mk (Kd.R_below (by (with_reducible repeat (first | apply Kd.R_alloc | apply Kd.R_drewN | apply Kd.R_drew)); exact HO127.out) hb); have n1_ := Aside0.mk (blk_below (g := gb117) (o := .cells #[.int .i64 a0_0, .int .u64 a0_1, .int .u64 a0_2, .int .i64 a0_3, .int .u64 a0_4, .int .u64 a0_5] 52 (0, 0)) (by (with_reducible repeat (first | refine blk_drewN ?_ _ | refine blk_drew ?_ | refine blk_alloc ?_ _)); exact BK117.out) hb); have n2_ := Aside0.mk (blk_below (g := gb119) (o := .cells #[.int .i64 x119_0, .int .u64 x119_1, .int .u64 x119_2] 28 (0, 0)) (by (with_reducible repeat (first | refine blk_drewN ?_ _ | refine blk_drew ?_ | refine blk_alloc ?_ _)); exact BK119.out) hb); have n3_ := Aside0.mk (blk_below (g := gb124) (o := .cells #[.int .i64 t120, .int .u64 t121, .int .u64 t122, .int .i64 t123] 30 (0, 0)) (by (with_reducible repeat (first | refine blk_drewN ?_ _ | refine blk_drew ?_ | refine blk_alloc ?_ _)); exact BK124.out) hb); have n4_ := Aside0.mk (below_step (by repeat (first | (with_reducible first | exact HB.out | apply below_alloc | apply pw_below_drewN | apply below_drew1 | refine below_set ?_ GE117.out | refine below_set ?_ GE119.out | refine below_set ?_ GE124.out) | exact HB.out)) hb); clear HO127; clear BK117; clear BK119; clear BK124; clear HB; have HO127 := n0_; have BK117 := n1_; have BK119 := n2_; have BK124 := n3_; have HB := n4_; clear n0_ n1_ n2_ n3_ n4_; (try clear hb); (try clear hb2); (try clear hk); (try clear hi)) | ((with_reducible refine gate_callee (f := 78) rfl ?_); refine goesL_ (some 24) rfl rfl Tryz.func78 (by kernel_rfl) rfl #[.agg #[.int .i64 t128, .int .u64 t129, .int .u64 t130]] rfl (by (try simp only [List.map_toArray, List.map_cons, List.map_nil]); first | done | rfl | (simp only [List.length_drop, List.length_take]; rfl)) ?_; (with_reducible refine (addr_Next.calls t128 t129 t130 t131 t132 t133 true _ ?side1 A14.out).mono ?_); (case side1 => first | exact hG | exact GoodW.below hG (by repeat (first | (with_reducible first | exact HB.out | apply below_alloc | apply pw_below_drewN | apply below_drew1 | refine below_set ?_ GE117.out | refine below_set ?_ GE119.out | refine below_set ?_ GE124.out) | exact HB.out)) | (repeat (first | exact hG | apply GoodW.drewN | apply GoodW.drew))); rintro e w48 ⟨rfl, hb⟩; refine ⟨_, rfl, ?_⟩; have n0_ := Aside0.mk (Kd.R_below (by (with_reducible repeat (first | apply Kd.R_alloc | apply Kd.R_drewN | apply Kd.R_drew)); exact HO127.out) hb); have n1_ := Aside0.mk (blk_below (g := gb117) (o := .cells #[.int .i64 a0_0, .int .u64 a0_1, .int .u64 a0_2, .int .i64 a0_3, .int .u64 a0_4, .int .u64 a0_5] 52 (0, 0)) (by (with_reducible repeat (first | refine blk_drewN ?_ _ | refine blk_drew ?_ | refine blk_alloc ?_ _)); exact BK117.out) hb); have n2_ := Aside0.mk (blk_below (g := gb119) (o := .cells #[.int .i64 x119_0, .int .u64 x119_1, .int .u64 x119_2] 28 (0, 0)) (by (with_reducible repeat (first | refine blk_drewN ?_ _ | refine blk_drew ?_ | refine blk_alloc ?_ _)); exact BK119.out) hb); have n3_ := Aside0.mk (blk_below (g := gb124) (o := .cells #[.int .i64 t120, .int .u64 t121, .int .u64 t122, .int .i64 t123] 30 (0, 0)) (by (with_reducible repeat (first | refine blk_drewN ?_ _ | refine blk_drew ?_ | refine blk_alloc ?_ _)); exact BK124.out) hb); have n4_ := Aside0.mk (below_step (by repeat (first | (with_reducible first | exact HB.out | apply below_alloc | apply pw_below_drewN | apply below_drew1 | refine below_set ?_ GE117.out | refine below_set ?_ GE119.out | refine below_set ?_ GE124.out) | exact HB.out)) hb); clear HO127; clear BK117; clear BK119; clear BK124; clear HB; have HO127 := n0_; have BK117 := n1_; have BK119 := n2_; have BK124 := n3_; have HB := n4_; clear n0_ n1_ n2_ n3_ n4_; (try clear hb); (try clear hb2); (try clear hk); (try clear hi)) | ((with_reducible refine gate_dst (N := 6) rfl ?_); refine box_event ?hg (N := 6) ?hd (cs := #[.int .i64 0, .int .u64 0, .int .u64 0]) (t := 28) ?hr ?_; (case hd => rfl); (case hg => rfl); (case hr => first | (go_simp; done) | (go_simp; rfl)); intro gb135 hg w49 hbox hb; have n0_ := Aside0.mk (Kd.R_below (by (with_reducible repeat (first | apply Kd.R_alloc | apply Kd.R_drewN | apply Kd.R_drew)); exact HO127.out) hb); have n1_ := Aside0.mk (blk_below (g := gb117) (o := .cells #[.int .i64 a0_0, .int .u64 a0_1, .int .u64 a0_2, .int .i64 a0_3, .int .u64 a0_4, .int .u64 a0_5] 52 (0, 0)) (by (with_reducible repeat (first | refine blk_drewN ?_ _ | refine blk_drew ?_ | refine blk_alloc ?_ _)); exact BK117.out) hb); have n2_ := Aside0.mk (blk_below (g := gb119) (o := .cells #[.int .i64 x119_0, .int .u64 x119_1, .int .u64 x119_2] 28 (0, 0)) (by (with_reducible repeat (first | refine blk_drewN ?_ _ | refine blk_drew ?_ | refine blk_alloc ?_ _)); exact BK119.out) hb); have n3_ := Aside0.mk (blk_below (g := gb124) (o := .cells #[.int .i64 t120, .int .u64 t121, .int .u64 t122, .int .i64 t123] 30 (0, 0)) (by (with_reducible repeat (first | refine blk_drewN ?_ _ | refine blk_drew ?_ | refine blk_alloc ?_ _)); exact BK124.out) hb); have n4_ := Aside0.mk (below_step (by repeat (first | (with_reducible first | exact HB.out | apply below_alloc | apply pw_below_drewN | apply below_drew1 | refine below_set ?_ GE117.out | refine below_set ?_ GE119.out | refine below_set ?_ GE124.out) | exact HB.out)) hb); have n5_ := Aside0.mk (hbox); have n6_ := Aside0.mk ((by rw [hg]; exact (below_size (by repeat (first | (with_reducible first | exact HB.out | apply below_alloc | apply pw_below_drewN | apply below_drew1 | refine below_set ?_ GE117.out | refine below_set ?_ GE119.out | refine below_set ?_ GE124.out) | exact HB.out))) : w.heap.size ≤ gb135)); have n7_ := Aside0.mk ((by rw [hg]; exact (below_size (by repeat (first | (with_reducible first | exact HB.out | apply below_alloc | apply pw_below_drewN | apply below_drew1 | refine below_set ?_ GE117.out | refine below_set ?_ GE119.out | refine below_set ?_ GE124.out) | exact HB.out))) : w.heap.size ≤ gb135)); have n8_ := Aside0.mk ((by rw [hg]; exact Nat.ne_of_lt (blk_lt (g := gb117) (o := .cells #[.int .i64 a0_0, .int .u64 a0_1, .int .u64 a0_2, .int .i64 a0_3, .int .u64 a0_4, .int .u64 a0_5] 52 (0, 0)) (by (with_reducible repeat (first | refine blk_drewN ?_ _ | refine blk_drew ?_ | refine blk_alloc ?_ _)); exact BK117.out)) : gb117 ≠ gb135)); have n9_ := Aside0.mk ((by rw [hg]; exact Nat.ne_of_gt (blk_lt (g := gb117) (o := .cells #[.int .i64 a0_0, .int .u64 a0_1, .int .u64 a0_2, .int .i64 a0_3, .int .u64 a0_4, .int .u64 a0_5] 52 (0, 0)) (by (with_reducible repeat (first | refine blk_drewN ?_ _ | refine blk_drew ?_ | refine blk_alloc ?_ _)); exact BK117.out)) : gb135 ≠ gb117)); have n10_ := Aside0.mk ((by rw [hg]; exact Nat.ne_of_lt (blk_lt (g := gb119) (o := .cells #[.int .i64 x119_0, .int .u64 x119_1, .int .u64 x119_2] 28 (0, 0)) (by (with_reducible repeat (first | refine blk_drewN ?_ _ | refine blk_drew ?_ | refine blk_alloc ?_ _)); exact BK119.out)) : gb119 ≠ gb135)); have n11_ := Aside0.mk ((by rw [hg]; exact Nat.ne_of_gt (blk_lt (g := gb119) (o := .cells #[.int .i64 x119_0, .int .u64 x119_1, .int .u64 x119_2] 28 (0, 0)) (by (with_reducible repeat (first | refine blk_drewN ?_ _ | refine blk_drew ?_ | refine blk_alloc ?_ _)); exact BK119.out)) : gb135 ≠ gb119)); have n12_ := Aside0.mk ((by rw [hg]; exact Nat.ne_of_lt (blk_lt (g := gb124) (o := .cells #[.int .i64 t120, .int .u64 t121, .int .u64 t122, .int .i64 t123] 30 (0, 0)) (by (with_reducible repeat (first | refine blk_drewN ?_ _ | refine blk_drew ?_ | refine blk_alloc ?_ _)); exact BK124.out)) : gb124 ≠ gb135)); have n13_ := Aside0.mk ((by rw [hg]; exact Nat.ne_of_gt (blk_lt (g := gb124) (o := .cells #[.int .i64 t120, .int .u64 t121, .int .u64 t122, .int .i64 t123] 30 (0, 0)) (by (with_reducible repeat (first | refine blk_drewN ?_ _ | refine blk_drew ?_ | refine blk_alloc ?_ _)); exact BK124.out)) : gb135 ≠ gb124)); clear HO127; clear BK117; clear BK119; clear BK124; clear HB; have HO127 := n0_; have BK117 := n1_; have BK119 := n2_; have BK124 := n3_; have HB := n4_; have BK135 := n5_; have GW135 := n6_; have GE135 := n7_; have NB117_135 := n8_; have NB135_117 := n9_; have NB119_135 := n10_; have NB135_119 := n11_; have NB124_135 := n12_; have NB135_124 := n13_; clear n0_ n1_ n2_ n3_ n4_ n5_ n6_ n7_ n8_ n9_ n10_ n11_ n12_ n13_; clear hb hbox hg; have hnb50 := NB135_117.out; have hnc50 := NB117_135.out; have hnb51 := NB135_119.out; have hnc51 := NB119_135.out; have hnb52 := NB135_124.out; have hnc52 := NB124_135.out; have hcz53_0 : w49.cell? ⟨gb135, 0, none⟩ = some (.int .i64 0) := (blk_cell BK135.out 0).trans rfl; have hcz53_1 : w49.cell? ⟨gb135, 1, none⟩ = some (.int .u64 0) := (blk_cell BK135.out 1).trans rfl; have hcz53_2 : w49.cell? ⟨gb135, 2, none⟩ = some (.int .u64 0) := (blk_cell BK135.out 2).trans rfl; have hfz53_0 := blk_frozen BK135.out 0; have hfz53_1 := blk_frozen BK135.out 1; have hfz53_2 := blk_frozen BK135.out 2; have hcz54_0 : w49.cell? ⟨gb117, 0, none⟩ = some (.int .i64 a0_0) := (blk_cell BK117.out 0).trans rfl; have hcz54_1 : w49.cell? ⟨gb117, 1, none⟩ = some (.int .u64 a0_1) := (blk_cell BK117.out 1).trans rfl; have hcz54_2 : w49.cell? ⟨gb117, 2, none⟩ = some (.int .u64 a0_2) := (blk_cell BK117.out 2).trans rfl; have hcz54_3 : w49.cell? ⟨gb117, 3, none⟩ = some (.int .i64 a0_3) := (blk_cell BK117.out 3).trans rfl; have hcz54_4 : w49.cell? ⟨gb117, 4, none⟩ = some (.int .u64 a0_4) := (blk_cell BK117.out 4).trans rfl; have hcz54_5 : w49.cell? ⟨gb117, 5, none⟩ = some (.int .u64 a0_5) := (blk_cell BK117.out 5).trans rfl; have hfz54_0 := blk_frozen BK117.out 0; have hfz54_1 := blk_frozen BK117.out 1; have hfz54_2 := blk_frozen BK117.out 2; have hfz54_3 := blk_frozen BK117.out 3; have hfz54_4 := blk_frozen BK117.out 4; have hfz54_5 := blk_frozen BK117.out 5) | (go_at_call 75; (with_reducible refine (addr_Less.calls a0_3 a0_4 a0_5 t131 t132 t133 false _ ?side1 A16.out).mono ?_); (case side1 => first | exact hG | exact GoodW.below hG (by repeat (first | (with_reducible first | exact HB.out | apply below_alloc | apply pw_below_drewN | apply below_drew1 | refine below_set ?_ GE117.out | refine below_set ?_ GE119.out | refine below_set ?_ GE124.out | refine below_set ?_ GE135.out) | exact HB.out)) | (repeat (first | exact hG | apply GoodW.drewN | apply GoodW.drew))); rintro e w55 ⟨rfl, hb⟩; have n0_ := Aside0.mk (Kd.R_below (by (with_reducible repeat (first | apply Kd.R_alloc | apply Kd.R_drewN | apply Kd.R_drew)); exact (Kd.R_mono (Kd.R_far (p := ⟨gb135, 2, none⟩) (Kd.R_far (p := ⟨gb135, 1, none⟩) (Kd.R_far (p := ⟨gb135, 0, none⟩) (Kd.R_types HO127.out BK135.out (by decide)) (fun _ hk => hk.2) (.int .i64 t131)) (fun _ hk => hk.2) (.int .u64 t132)) (fun _ hk => hk.2) (.int .u64 t133)) (fun _ h_ => h_.1))) hb); have n1_ := Aside0.mk (blk_below (g := gb117) (o := .cells #[.int .i64 a0_0, .int .u64 a0_1, .int .u64 a0_2, .int .i64 a0_3, .int .u64 a0_4, .int .u64 a0_5] 52 (0, 0)) (by (with_reducible repeat (first | refine blk_drewN ?_ _ | refine blk_drew ?_ | refine blk_alloc ?_ _)); refine blk_far ?_ NB117_135.out _; (with_reducible repeat (first | refine blk_drewN ?_ _ | refine blk_drew ?_ | refine blk_alloc ?_ _)); refine blk_far ?_ NB117_135.out _; (with_reducible repeat (first | refine blk_drewN ?_ _ | refine blk_drew ?_ | refine blk_alloc ?_ _)); refine blk_far ?_ NB117_135.out _; (with_reducible repeat (first | refine blk_drewN ?_ _ | refine blk_drew ?_ | refine blk_alloc ?_ _)); exact BK117.out) hb); have n2_ := Aside0.mk (blk_below (g := gb119) (o := .cells #[.int .i64 x119_0, .int .u64 x119_1, .int .u64 x119_2] 28 (0, 0)) (by (with_reducible repeat (first | refine blk_drewN ?_ _ | refine blk_drew ?_ | refine blk_alloc ?_ _)); refine blk_far ?_ NB119_135.out _; (with_reducible repeat (first | refine blk_drewN ?_ _ | refine blk_drew ?_ | refine blk_alloc ?_ _)); refine blk_far ?_ NB119_135.out _; (with_reducible repeat (first | refine blk_drewN ?_ _ | refine blk_drew ?_ | refine blk_alloc ?_ _)); refine blk_far ?_ NB119_135.out _; (with_reducible repeat (first | refine blk_drewN ?_ _ | refine blk_drew ?_ | refine blk_alloc ?_ _)); exact BK119.out) hb); have n3_ := Aside0.mk (blk_below (g := gb124) (o := .cells #[.int .i64 t120, .int .u64 t121, .int .u64 t122, .int .i64 t123] 30 (0, 0)) (by (with_reducible repeat (first | refine blk_drewN ?_ _ | refine blk_drew ?_ | refine blk_alloc ?_ _)); refine blk_far ?_ NB124_135.out _; (with_reducible repeat (first | refine blk_drewN ?_ _ | refine blk_drew ?_ | refine blk_alloc ?_ _)); refine blk_far ?_ NB124_135.out _; (with_reducible repeat (first | refine blk_drewN ?_ _ | refine blk_drew ?_ | refine blk_alloc ?_ _)); refine blk_far ?_ NB124_135.out _; (with_reducible repeat (first | refine blk_drewN ?_ _ | refine blk_drew ?_ | refine blk_alloc ?_ _)); exact BK124.out) hb); have n4_ := Aside0.mk (blk_below (g := gb135) (o := .cells #[.int .i64 t131, .int .u64 t132, .int .u64 t133] 28 (0, 0)) (by (with_reducible repeat (first | refine blk_drewN ?_ _ | refine blk_drew ?_ | refine blk_alloc ?_ _)); refine blk_put (cs := #[.int .i64 t131, .int .u64 t132, .int .u64 0]) ?_ 2 _ rfl; (with_reducible repeat (first | refine blk_drewN ?_ _ | refine blk_drew ?_ | refine blk_alloc ?_ _)); refine blk_put (cs := #[.int .i64 t131, .int .u64 0, .int .u64 0]) ?_ 1 _ rfl; (with_reducible repeat (first | refine blk_drewN ?_ _ | refine blk_drew ?_ | refine blk_alloc ?_ _)); refine blk_put (cs := #[.int .i64 0, .int .u64 0, .int .u64 0]) ?_ 0 _ rfl; (with_reducible repeat (first | refine blk_drewN ?_ _ | refine blk_drew ?_ | refine blk_alloc ?_ _)); exact BK135.out) hb); have n5_ := Aside0.mk (below_step (by repeat (first | (with_reducible first | exact HB.out | apply below_alloc | apply pw_below_drewN | apply below_drew1 | refine below_set ?_ GE117.out | refine below_set ?_ GE119.out | refine below_set ?_ GE124.out | refine below_set ?_ GE135.out) | exact HB.out)) hb); clear HO127; clear BK117; clear BK119; clear BK124; clear BK135; clear HB; have HO127 := n0_; have BK117 := n1_; have BK119 := n2_; have BK124 := n3_; have BK135 := n4_; have HB := n5_; clear n0_ n1_ n2_ n3_ n4_ n5_; (try clear hb); (try clear hb2); (try clear hk); (try clear hi); have hcz56_0 : w55.cell? ⟨gb135, 0, none⟩ = some (.int .i64 t131) := (blk_cell BK135.out 0).trans rfl; have hcz56_1 : w55.cell? ⟨gb135, 1, none⟩ = some (.int .u64 t132) := (blk_cell BK135.out 1).trans rfl; have hcz56_2 : w55.cell? ⟨gb135, 2, none⟩ = some (.int .u64 t133) := (blk_cell BK135.out 2).trans rfl; have hfz56_0 := blk_frozen BK135.out 0; have hfz56_1 := blk_frozen BK135.out 1; have hfz56_2 := blk_frozen BK135.out 2; have hcz57_0 : w55.cell? ⟨gb119, 0, none⟩ = some (.int .i64 x119_0) := (blk_cell BK119.out 0).trans rfl; have hcz57_1 : w55.cell? ⟨gb119, 1, none⟩ = some (.int .u64 x119_1) := (blk_cell BK119.out 1).trans rfl; have hcz57_2 : w55.cell? ⟨gb119, 2, none⟩ = some (.int .u64 x119_2) := (blk_cell BK119.out 2).trans rfl; have hfz57_0 := blk_frozen BK119.out 0; have hfz57_1 := blk_frozen BK119.out 1; have hfz57_2 := blk_frozen BK119.out 2) | ((with_reducible refine gate_dst (N := 4) rfl ?_); refine box_event ?hg (N := 4) ?hd (cs := #[.int .i64 0, .int .u64 0, .int .u64 0]) (t := 28) ?hr ?_; (case hd => rfl); (case hg => rfl); (case hr => first | (go_simp; done) | (go_simp; rfl)); intro gb137 hg w58 hbox hb; have n0_ := Aside0.mk (Kd.R_below (by (with_reducible repeat (first | apply Kd.R_alloc | apply Kd.R_drewN | apply Kd.R_drew)); exact (Kd.R_mono (Kd.R_far (p := ⟨gb119, 2, none⟩) (Kd.R_far (p := ⟨gb119, 1, none⟩) (Kd.R_far (p := ⟨gb119, 0, none⟩) (Kd.R_types HO127.out BK119.out (by decide)) (fun _ hk => hk.2) (.int .i64 t131)) (fun _ hk => hk.2) (.int .u64 t132)) (fun _ hk => hk.2) (.int .u64 t133)) (fun _ h_ => h_.1))) hb); have n1_ := Aside0.mk (blk_below (g := gb117) (o := .cells #[.int .i64 a0_0, .int .u64 a0_1, .int .u64 a0_2, .int .i64 a0_3, .int .u64 a0_4, .int .u64 a0_5] 52 (0, 0)) (by (with_reducible repeat (first | refine blk_drewN ?_ _ | refine blk_drew ?_ | refine blk_alloc ?_ _)); refine blk_far ?_ NB117_119.out _; (with_reducible repeat (first | refine blk_drewN ?_ _ | refine blk_drew ?_ | refine blk_alloc ?_ _)); refine blk_far ?_ NB117_119.out _; (with_reducible repeat (first | refine blk_drewN ?_ _ | refine blk_drew ?_ | refine blk_alloc ?_ _)); refine blk_far ?_ NB117_119.out _; (with_reducible repeat (first | refine blk_drewN ?_ _ | refine blk_drew ?_ | refine blk_alloc ?_ _)); exact BK117.out) hb); have n2_ := Aside0.mk (blk_below (g := gb119) (o := .cells #[.int .i64 t131, .int .u64 t132, .int .u64 t133] 28 (0, 0)) (by (with_reducible repeat (first | refine blk_drewN ?_ _ | refine blk_drew ?_ | refine blk_alloc ?_ _)); refine blk_put (cs := #[.int .i64 t131, .int .u64 t132, .int .u64 x119_2]) ?_ 2 _ rfl; (with_reducible repeat (first | refine blk_drewN ?_ _ | refine blk_drew ?_ | refine blk_alloc ?_ _)); refine blk_put (cs := #[.int .i64 t131, .int .u64 x119_1, .int .u64 x119_2]) ?_ 1 _ rfl; (with_reducible repeat (first | refine blk_drewN ?_ _ | refine blk_drew ?_ | refine blk_alloc ?_ _)); refine blk_put (cs := #[.int .i64 x119_0, .int .u64 x119_1, .int .u64 x119_2]) ?_ 0 _ rfl; (with_reducible repeat (first | refine blk_drewN ?_ _ | refine blk_drew ?_ | refine blk_alloc ?_ _)); exact BK119.out) hb); have n3_ := Aside0.mk (blk_below (g := gb124) (o := .cells #[.int .i64 t120, .int .u64 t121, .int .u64 t122, .int .i64 t123] 30 (0, 0)) (by (with_reducible repeat (first | refine blk_drewN ?_ _ | refine blk_drew ?_ | refine blk_alloc ?_ _)); refine blk_far ?_ NB124_119.out _; (with_reducible repeat (first | refine blk_drewN ?_ _ | refine blk_drew ?_ | refine blk_alloc ?_ _)); refine blk_far ?_ NB124_119.out _; (with_reducible repeat (first | refine blk_drewN ?_ _ | refine blk_drew ?_ | refine blk_alloc ?_ _)); refine blk_far ?_ NB124_119.out _; (with_reducible repeat (first | refine blk_drewN ?_ _ | refine blk_drew ?_ | refine blk_alloc ?_ _)); exact BK124.out) hb); have n4_ := Aside0.mk (blk_below (g := gb135) (o := .cells #[.int .i64 t131, .int .u64 t132, .int .u64 t133] 28 (0, 0)) (by (with_reducible repeat (first | refine blk_drewN ?_ _ | refine blk_drew ?_ | refine blk_alloc ?_ _)); refine blk_far ?_ NB135_119.out _; (with_reducible repeat (first | refine blk_drewN ?_ _ | refine blk_drew ?_ | refine blk_alloc ?_ _)); refine blk_far ?_ NB135_119.out _; (with_reducible repeat (first | refine blk_drewN ?_ _ | refine blk_drew ?_ | refine blk_alloc ?_ _)); refine blk_far ?_ NB135_119.out _; (with_reducible repeat (first | refine blk_drewN ?_ _ | refine blk_drew ?_ | refine blk_alloc ?_ _)); exact BK135.out) hb); have n5_ := Aside0.mk (below_step (by repeat (first | (with_reducible first | exact HB.out | apply below_alloc | apply pw_below_drewN | apply below_drew1 | refine below_set ?_ GE117.out | refine below_set ?_ GE119.out | refine below_set ?_ GE124.out | refine below_set ?_ GE135.out) | exact HB.out)) hb); have n6_ := Aside0.mk (hbox); have n7_ := Aside0.mk ((by rw [hg]; exact (below_size (by repeat (first | (with_reducible first | exact HB.out | apply below_alloc | apply pw_below_drewN | apply below_drew1 | refine below_set ?_ GE117.out | refine below_set ?_ GE119.out | refine below_set ?_ GE124.out | refine below_set ?_ GE135.out) | exact HB.out))) : w.heap.size ≤ gb137)); have n8_ := Aside0.mk ((by rw [hg]; exact (below_size (by repeat (first | (with_reducible first | exact HB.out | apply below_alloc | apply pw_below_drewN | apply below_drew1 | refine below_set ?_ GE117.out | refine below_set ?_ GE119.out | refine below_set ?_ GE124.out | refine below_set ?_ GE135.out) | exact HB.out))) : w.heap.size ≤ gb137)); have n9_ := Aside0.mk ((by rw [hg]; exact Nat.ne_of_lt (blk_lt (g := gb117) (o := .cells #[.int .i64 a0_0, .int .u64 a0_1, .int .u64 a0_2, .int .i64 a0_3, .int .u64 a0_4, .int .u64 a0_5] 52 (0, 0)) (by (with_reducible repeat (first | refine blk_drewN ?_ _ | refine blk_drew ?_ | refine blk_alloc ?_ _)); refine blk_far ?_ NB117_119.out _; (with_reducible repeat (first | refine blk_drewN ?_ _ | refine blk_drew ?_ | refine blk_alloc ?_ _)); refine blk_far ?_ NB117_119.out _; (with_reducible repeat (first | refine blk_drewN ?_ _ | refine blk_drew ?_ | refine blk_alloc ?_ _)); refine blk_far ?_ NB117_119.out _; (with_reducible repeat (first | refine blk_drewN ?_ _ | refine blk_drew ?_ | refine blk_alloc ?_ _)); exact BK117.out)) : gb117 ≠ gb137)); have n10_ := Aside0.mk ((by rw [hg]; exact Nat.ne_of_gt (blk_lt (g := gb117) (o := .cells #[.int .i64 a0_0, .int .u64 a0_1, .int .u64 a0_2, .int .i64 a0_3, .int .u64 a0_4, .int .u64 a0_5] 52 (0, 0)) (by (with_reducible repeat (first | refine blk_drewN ?_ _ | refine blk_drew ?_ | refine blk_alloc ?_ _)); refine blk_far ?_ NB117_119.out _; (with_reducible repeat (first | refine blk_drewN ?_ _ | refine blk_drew ?_ | refine blk_alloc ?_ _)); refine blk_far ?_ NB117_119.out _; (with_reducible repeat (first | refine blk_drewN ?_ _ | refine blk_drew ?_ | refine blk_alloc ?_ _)); refine blk_far ?_ NB117_119.out _; (with_reducible repeat (first | refine blk_drewN ?_ _ | refine blk_drew ?_ | refine blk_alloc ?_ _)); exact BK117.out)) : gb137 ≠ gb117)); have n11_ := Aside0.mk ((by rw [hg]; exact Nat.ne_of_lt (blk_lt (g := gb119) (o := .cells #[.int .i64 t131, .int .u64 t132, .int .u64 t133] 28 (0, 0)) (by (with_reducible repeat (first | refine blk_drewN ?_ _ | refine blk_drew ?_ | refine blk_alloc ?_ _)); refine blk_put (cs := #[.int .i64 t131, .int .u64 t132, .int .u64 x119_2]) ?_ 2 _ rfl; (with_reducible repeat (first | refine blk_drewN ?_ _ | refine blk_drew ?_ | refine blk_alloc ?_ _)); refine blk_put (cs := #[.int .i64 t131, .int .u64 x119_1, .int .u64 x119_2]) ?_ 1 _ rfl; (with_reducible repeat (first | refine blk_drewN ?_ _ | refine blk_drew ?_ | refine blk_alloc ?_ _)); refine blk_put (cs := #[.int .i64 x119_0, .int .u64 x119_1, .int .u64 x119_2]) ?_ 0 _ rfl; (with_reducible repeat (first | refine blk_drewN ?_ _ | refine blk_drew ?_ | refine blk_alloc ?_ _)); exact BK119.out)) : gb119 ≠ gb137)); have n12_ := Aside0.mk ((by rw [hg]; exact Nat.ne_of_gt (blk_lt (g := gb119) (o := .cells #[.int .i64 t131, .int .u64 t132, .int .u64 t133] 28 (0, 0)) (by (with_reducible repeat (first | refine blk_drewN ?_ _ | refine blk_drew ?_ | refine blk_alloc ?_ _)); refine blk_put (cs := #[.int .i64 t131, .int .u64 t132, .int .u64 x119_2]) ?_ 2 _ rfl; (with_reducible repeat (first | refine blk_drewN ?_ _ | refine blk_drew ?_ | refine blk_alloc ?_ _)); refine blk_put (cs := #[.int .i64 t131, .int .u64 x119_1, .int .u64 x119_2]) ?_ 1 _ rfl; (with_reducible repeat (first | refine blk_drewN ?_ _ | refine blk_drew ?_ | refine blk_alloc ?_ _)); refine blk_put (cs := #[.int .i64 x119_0, .int .u64 x119_1, .int .u64 x119_2]) ?_ 0 _ rfl; (with_reducible repeat (first | refine blk_drewN ?_ _ | refine blk_drew ?_ | refine blk_alloc ?_ _)); exact BK119.out)) : gb137 ≠ gb119)); have n13_ := Aside0.mk ((by rw [hg]; exact Nat.ne_of_lt (blk_lt (g := gb124) (o := .cells #[.int .i64 t120, .int .u64 t121, .int .u64 t122, .int .i64 t123] 30 (0, 0)) (by (with_reducible repeat (first | refine blk_drewN ?_ _ | refine blk_drew ?_ | refine blk_alloc ?_ _)); refine blk_far ?_ NB124_119.out _; (with_reducible repeat (first | refine blk_drewN ?_ _ | refine blk_drew ?_ | refine blk_alloc ?_ _)); refine blk_far ?_ NB124_119.out _; (with_reducible repeat (first | refine blk_drewN ?_ _ | refine blk_drew ?_ | refine blk_alloc ?_ _)); refine blk_far ?_ NB124_119.out _; (with_reducible repeat (first | refine blk_drewN ?_ _ | refine blk_drew ?_ | refine blk_alloc ?_ _)); exact BK124.out)) : gb124 ≠ gb137)); have n14_ := Aside0.mk ((by rw [hg]; exact Nat.ne_of_gt (blk_lt (g := gb124) (o := .cells #[.int .i64 t120, .int .u64 t121, .int .u64 t122, .int .i64 t123] 30 (0, 0)) (by (with_reducible repeat (first | refine blk_drewN ?_ _ | refine blk_drew ?_ | refine blk_alloc ?_ _)); refine blk_far ?_ NB124_119.out _; (with_reducible repeat (first | refine blk_drewN ?_ _ | refine blk_drew ?_ | refine blk_alloc ?_ _)); refine blk_far ?_ NB124_119.out _; (with_reducible repeat (first | refine blk_drewN ?_ _ | refine blk_drew ?_ | refine blk_alloc ?_ _)); refine blk_far ?_ NB124_119.out _; (with_reducible repeat (first | refine blk_drewN ?_ _ | refine blk_drew ?_ | refine blk_alloc ?_ _)); exact BK124.out)) : gb137 ≠ gb124)); have n15_ := Aside0.mk ((by rw [hg]; exact Nat.ne_of_lt (blk_lt (g := gb135) (o := .cells #[.int .i64 t131, .int .u64 t132, .int .u64 t133] 28 (0, 0)) (by (with_reducible repeat (first | refine blk_drewN ?_ _ | refine blk_drew ?_ | refine blk_alloc ?_ _)); refine blk_far ?_ NB135_119.out _; (with_reducible repeat (first | refine blk_drewN ?_ _ | refine blk_drew ?_ | refine blk_alloc ?_ _)); refine blk_far ?_ NB135_119.out _; (with_reducible repeat (first | refine blk_drewN ?_ _ | refine blk_drew ?_ | refine blk_alloc ?_ _)); refine blk_far ?_ NB135_119.out _; (with_reducible repeat (first | refine blk_drewN ?_ _ | refine blk_drew ?_ | refine blk_alloc ?_ _)); exact BK135.out)) : gb135 ≠ gb137)); have n16_ := Aside0.mk ((by rw [hg]; exact Nat.ne_of_gt (blk_lt (g := gb135) (o := .cells #[.int .i64 t131, .int .u64 t132, .int .u64 t133] 28 (0, 0)) (by (with_reducible repeat (first | refine blk_drewN ?_ _ | refine blk_drew ?_ | refine blk_alloc ?_ _)); refine blk_far ?_ NB135_119.out _; (with_reducible repeat (first | refine blk_drewN ?_ _ | refine blk_drew ?_ | refine blk_alloc ?_ _)); refine blk_far ?_ NB135_119.out _; (with_reducible repeat (first | refine blk_drewN ?_ _ | refine blk_drew ?_ | refine blk_alloc ?_ _)); refine blk_far ?_ NB135_119.out _; (with_reducible repeat (first | refine blk_drewN ?_ _ | refine blk_drew ?_ | refine blk_alloc ?_ _)); exact BK135.out)) : gb137 ≠ gb135)); clear HO127; clear BK117; clear BK119; clear BK124; clear BK135; clear HB; have HO127 := n0_; have BK117 := n1_; have BK119 := n2_; have BK124 := n3_; have BK135 := n4_; have HB := n5_; have BK137 := n6_; have GW137 := n7_; have GE137 := n8_; have NB117_137 := n9_; have NB137_117 := n10_; have NB119_137 := n11_; have NB137_119 := n12_; have NB124_137 := n13_; have NB137_124 := n14_; have NB135_137 := n15_; have NB137_135 := n16_; clear n0_ n1_ n2_ n3_ n4_ n5_ n6_ n7_ n8_ n9_ n10_ n11_ n12_ n13_ n14_ n15_ n16_; clear hb hbox hg; have hnb59 := NB137_117.out; have hnc59 := NB117_137.out; have hnb60 := NB137_119.out; have hnc60 := NB119_137.out; have hnb61 := NB137_124.out; have hnc61 := NB124_137.out; have hnb62 := NB137_135.out; have hnc62 := NB135_137.out; have hcz63_0 : w58.cell? ⟨gb137, 0, none⟩ = some (.int .i64 0) := (blk_cell BK137.out 0).trans rfl; have hcz63_1 : w58.cell? ⟨gb137, 1, none⟩ = some (.int .u64 0) := (blk_cell BK137.out 1).trans rfl; have hcz63_2 : w58.cell? ⟨gb137, 2, none⟩ = some (.int .u64 0) := (blk_cell BK137.out 2).trans rfl; have hfz63_0 := blk_frozen BK137.out 0; have hfz63_1 := blk_frozen BK137.out 1; have hfz63_2 := blk_frozen BK137.out 2))
              go_roundg k1
              case measure => have := HK1.out; omega
              case rel => exact ⟨(y125), t131, t132, t133, gb137, rfl, H', ⟨by have := HK1.out; omega⟩, ⟨by (with_reducible repeat (first | apply Kd.R_alloc | apply Kd.R_drewN | apply Kd.R_drew)); exact Kd.R_mono (Kd.R_far (p := ⟨gb137, 2, none⟩) (Kd.R_far (p := ⟨gb137, 1, none⟩) (Kd.R_far (p := ⟨gb137, 0, none⟩) (Kd.R_types HO127.out BK137.out (by decide)) (fun _ hk => hk.2) (.int .i64 t131)) (fun _ hk => hk.2) (.int .u64 t132)) (fun _ hk => hk.2) (.int .u64 t133)) (fun _ hk => trivial)⟩, ⟨by (with_reducible repeat (first | refine blk_drewN ?_ _ | refine blk_drew ?_ | refine blk_alloc ?_ _)); refine blk_far ?_ NB117_137.out _; (with_reducible repeat (first | refine blk_drewN ?_ _ | refine blk_drew ?_ | refine blk_alloc ?_ _)); refine blk_far ?_ NB117_137.out _; (with_reducible repeat (first | refine blk_drewN ?_ _ | refine blk_drew ?_ | refine blk_alloc ?_ _)); refine blk_far ?_ NB117_137.out _; (with_reducible repeat (first | refine blk_drewN ?_ _ | refine blk_drew ?_ | refine blk_alloc ?_ _)); exact BK117.out⟩, ⟨by (with_reducible repeat (first | refine blk_drewN ?_ _ | refine blk_drew ?_ | refine blk_alloc ?_ _)); refine blk_put (cs := #[.int .i64 t131, .int .u64 t132, .int .u64 0]) ?_ 2 _ rfl; (with_reducible repeat (first | refine blk_drewN ?_ _ | refine blk_drew ?_ | refine blk_alloc ?_ _)); refine blk_put (cs := #[.int .i64 t131, .int .u64 0, .int .u64 0]) ?_ 1 _ rfl; (with_reducible repeat (first | refine blk_drewN ?_ _ | refine blk_drew ?_ | refine blk_alloc ?_ _)); refine blk_put (cs := #[.int .i64 0, .int .u64 0, .int .u64 0]) ?_ 0 _ rfl; (with_reducible repeat (first | refine blk_drewN ?_ _ | refine blk_drew ?_ | refine blk_alloc ?_ _)); exact BK137.out⟩, NB117_137, NB137_117, GE137, ⟨by repeat (first | (with_reducible first | exact HB.out | apply below_alloc | apply pw_below_drewN | apply below_drew1 | refine below_set ?_ GE117.out | refine below_set ?_ GE119.out | refine below_set ?_ GE124.out | refine below_set ?_ GE135.out | refine below_set ?_ GE137.out) | exact HB.out)⟩⟩
          · replace c15 := Bool.eq_false_iff.mpr c15
            subst c15
            have H1 : (some y125) = some r := by rw [if_neg (show ¬ (false = true) by decide)] at H; exact H
            clear H
            have H := H1
            clear H1
            obtain rfl := Option.some.inj H
            have hnb64 := NB119_117.out
            have hnc64 := NB117_119.out
            have hcz65_0 : wr.cell? ⟨gb119, 0, none⟩ = some (.int .i64 x119_0) := (blk_cell BK119.out 0).trans rfl
            have hcz65_1 : wr.cell? ⟨gb119, 1, none⟩ = some (.int .u64 x119_1) := (blk_cell BK119.out 1).trans rfl
            have hcz65_2 : wr.cell? ⟨gb119, 2, none⟩ = some (.int .u64 x119_2) := (blk_cell BK119.out 2).trans rfl
            have hfz65_0 := blk_frozen BK119.out 0
            have hfz65_1 := blk_frozen BK119.out 1
            have hfz65_2 := blk_frozen BK119.out 2
            have hcz66_0 : wr.cell? ⟨gb117, 0, none⟩ = some (.int .i64 a0_0) := (blk_cell BK117.out 0).trans rfl
            have hcz66_1 : wr.cell? ⟨gb117, 1, none⟩ = some (.int .u64 a0_1) := (blk_cell BK117.out 1).trans rfl
            have hcz66_2 : wr.cell? ⟨gb117, 2, none⟩ = some (.int .u64 a0_2) := (blk_cell BK117.out 2).trans rfl
            have hcz66_3 : wr.cell? ⟨gb117, 3, none⟩ = some (.int .i64 a0_3) := (blk_cell BK117.out 3).trans rfl
            have hcz66_4 : wr.cell? ⟨gb117, 4, none⟩ = some (.int .u64 a0_4) := (blk_cell BK117.out 4).trans rfl
            have hcz66_5 : wr.cell? ⟨gb117, 5, none⟩ = some (.int .u64 a0_5) := (blk_cell BK117.out 5).trans rfl
            have hfz66_0 := blk_frozen BK117.out 0
            have hfz66_1 := blk_frozen BK117.out 1
            have hfz66_2 := blk_frozen BK117.out 2
            have hfz66_3 := blk_frozen BK117.out 3
            have hfz66_4 := blk_frozen BK117.out 4
            have hfz66_5 := blk_frozen BK117.out 5
            go_wp2_with (first | ((with_reducible refine gate_callee (f := 77) rfl ?_); refine goesL_ (some 16) rfl rfl Tryz.func77 (by kernel_rfl) rfl #[.agg #[.int .i64 x119_0, .int .u64 x119_1, .int .u64 x119_2], .agg #[.int .i64 a0_3, .int .u64 a0_4, .int .u64 a0_5]] rfl (by (try simp only [List.map_toArray, List.map_cons, List.map_nil]); first | done | rfl | (simp only [List.length_drop, List.length_take]; rfl)) ?_; (with_reducible refine (rang_widest.calls k1 x119_0 x119_1 x119_2 a0_3 a0_4 a0_5 t120 t121 t122 t123 _ ?side1 A11.out).mono ?_); (case side1 => first | exact hG | exact GoodW.below hG (by repeat (first | (with_reducible first | exact HB.out | apply below_alloc | apply pw_below_drewN | apply below_drew1 | refine below_set ?_ GE117.out | refine below_set ?_ GE119.out) | exact HB.out)) | (repeat (first | exact hG | apply GoodW.drewN | apply GoodW.drew))); rintro e w67 ⟨rfl, hb⟩; refine ⟨_, rfl, ?_⟩; have n0_ := Aside0.mk (Kd.R_below (by (with_reducible repeat (first | apply Kd.R_alloc | apply Kd.R_drewN | apply Kd.R_drew)); exact HO_3.out) hb); have n1_ := Aside0.mk (blk_below (g := gb117) (o := .cells #[.int .i64 a0_0, .int .u64 a0_1, .int .u64 a0_2, .int .i64 a0_3, .int .u64 a0_4, .int .u64 a0_5] 52 (0, 0)) (by (with_reducible repeat (first | refine blk_drewN ?_ _ | refine blk_drew ?_ | refine blk_alloc ?_ _)); exact BK117.out) hb); have n2_ := Aside0.mk (blk_below (g := gb119) (o := .cells #[.int .i64 x119_0, .int .u64 x119_1, .int .u64 x119_2] 28 (0, 0)) (by (with_reducible repeat (first | refine blk_drewN ?_ _ | refine blk_drew ?_ | refine blk_alloc ?_ _)); exact BK119.out) hb); have n3_ := Aside0.mk (below_step (by repeat (first | (with_reducible first | exact HB.out | apply below_alloc | apply pw_below_drewN | apply below_drew1 | refine below_set ?_ GE117.out | refine below_set ?_ GE119.out) | exact HB.out)) hb); clear HO_3; clear BK117; clear BK119; clear HB; have HO_3 := n0_; have BK117 := n1_; have BK119 := n2_; have HB := n3_; clear n0_ n1_ n2_ n3_; (try clear hb); (try clear hb2); (try clear hk); (try clear hi)) | ((with_reducible refine gate_dst (N := 5) rfl ?_); refine box_event ?hg (N := 5) ?hd (cs := #[.int .i64 0, .int .u64 0, .int .u64 0, .int .i64 0]) (t := 30) ?hr ?_; (case hd => rfl); (case hg => rfl); (case hr => first | (go_simp; done) | (go_simp; rfl)); intro gb124 hg w68 hbox hb; have n0_ := Aside0.mk (Kd.R_below (Kd.R_elderB (by (with_reducible repeat (first | apply Kd.R_alloc | apply Kd.R_drewN | apply Kd.R_drew)); exact HO_3.out) gb124 (Nat.le_of_eq hg.symm)) hb); have n1_ := Aside0.mk (blk_below (g := gb117) (o := .cells #[.int .i64 a0_0, .int .u64 a0_1, .int .u64 a0_2, .int .i64 a0_3, .int .u64 a0_4, .int .u64 a0_5] 52 (0, 0)) (by (with_reducible repeat (first | refine blk_drewN ?_ _ | refine blk_drew ?_ | refine blk_alloc ?_ _)); exact BK117.out) hb); have n2_ := Aside0.mk (blk_below (g := gb119) (o := .cells #[.int .i64 x119_0, .int .u64 x119_1, .int .u64 x119_2] 28 (0, 0)) (by (with_reducible repeat (first | refine blk_drewN ?_ _ | refine blk_drew ?_ | refine blk_alloc ?_ _)); exact BK119.out) hb); have n3_ := Aside0.mk (below_step (by repeat (first | (with_reducible first | exact HB.out | apply below_alloc | apply pw_below_drewN | apply below_drew1 | refine below_set ?_ GE117.out | refine below_set ?_ GE119.out) | exact HB.out)) hb); have n4_ := Aside0.mk (hbox); have n5_ := Aside0.mk ((by rw [hg]; exact (below_size (by repeat (first | (with_reducible first | exact HB.out | apply below_alloc | apply pw_below_drewN | apply below_drew1 | refine below_set ?_ GE117.out | refine below_set ?_ GE119.out) | exact HB.out))) : w.heap.size ≤ gb124)); have n6_ := Aside0.mk ((by rw [hg]; exact (below_size (by repeat (first | (with_reducible first | exact HB.out | apply below_alloc | apply pw_below_drewN | apply below_drew1 | refine below_set ?_ GE117.out | refine below_set ?_ GE119.out) | exact HB.out))) : w.heap.size ≤ gb124)); have n7_ := Aside0.mk ((by rw [hg]; exact Nat.ne_of_lt (blk_lt (g := gb117) (o := .cells #[.int .i64 a0_0, .int .u64 a0_1, .int .u64 a0_2, .int .i64 a0_3, .int .u64 a0_4, .int .u64 a0_5] 52 (0, 0)) (by (with_reducible repeat (first | refine blk_drewN ?_ _ | refine blk_drew ?_ | refine blk_alloc ?_ _)); exact BK117.out)) : gb117 ≠ gb124)); have n8_ := Aside0.mk ((by rw [hg]; exact Nat.ne_of_gt (blk_lt (g := gb117) (o := .cells #[.int .i64 a0_0, .int .u64 a0_1, .int .u64 a0_2, .int .i64 a0_3, .int .u64 a0_4, .int .u64 a0_5] 52 (0, 0)) (by (with_reducible repeat (first | refine blk_drewN ?_ _ | refine blk_drew ?_ | refine blk_alloc ?_ _)); exact BK117.out)) : gb124 ≠ gb117)); have n9_ := Aside0.mk ((by rw [hg]; exact Nat.ne_of_lt (blk_lt (g := gb119) (o := .cells #[.int .i64 x119_0, .int .u64 x119_1, .int .u64 x119_2] 28 (0, 0)) (by (with_reducible repeat (first | refine blk_drewN ?_ _ | refine blk_drew ?_ | refine blk_alloc ?_ _)); exact BK119.out)) : gb119 ≠ gb124)); have n10_ := Aside0.mk ((by rw [hg]; exact Nat.ne_of_gt (blk_lt (g := gb119) (o := .cells #[.int .i64 x119_0, .int .u64 x119_1, .int .u64 x119_2] 28 (0, 0)) (by (with_reducible repeat (first | refine blk_drewN ?_ _ | refine blk_drew ?_ | refine blk_alloc ?_ _)); exact BK119.out)) : gb124 ≠ gb119)); clear HO_3; clear BK117; clear BK119; clear HB; have HO_3 := n0_; have BK117 := n1_; have BK119 := n2_; have HB := n3_; have BK124 := n4_; have GW124 := n5_; have GE124 := n6_; have NB117_124 := n7_; have NB124_117 := n8_; have NB119_124 := n9_; have NB124_119 := n10_; clear n0_ n1_ n2_ n3_ n4_ n5_ n6_ n7_ n8_ n9_ n10_; clear hb hbox hg; have hnb69 := NB124_117.out; have hnc69 := NB117_124.out; have hnb70 := NB124_119.out; have hnc70 := NB119_124.out; have hcz71_0 : w68.cell? ⟨gb124, 0, none⟩ = some (.int .i64 0) := (blk_cell BK124.out 0).trans rfl; have hcz71_1 : w68.cell? ⟨gb124, 1, none⟩ = some (.int .u64 0) := (blk_cell BK124.out 1).trans rfl; have hcz71_2 : w68.cell? ⟨gb124, 2, none⟩ = some (.int .u64 0) := (blk_cell BK124.out 2).trans rfl; have hcz71_3 : w68.cell? ⟨gb124, 3, none⟩ = some (.int .i64 0) := (blk_cell BK124.out 3).trans rfl; have hfz71_0 := blk_frozen BK124.out 0; have hfz71_1 := blk_frozen BK124.out 1; have hfz71_2 := blk_frozen BK124.out 2; have hfz71_3 := blk_frozen BK124.out 3) | ((with_reducible refine gate_builtin (b := .append) (xs := #[.tmp 17, .tmp 19]) rfl ?_); at_builtin; refine Kd.R_append k30 (w0 := w) w.heap.size rfl (.tmp 17) (.tmp 19) 40 30 (.agg #[(.int .i64 0), (.int .u64 0), (.int .u64 0), (.int .i64 0)]) 32 rfl Tryz.underlying40 info30 rfl (by decide) (by omega) u3 x3_1 (⟨(⟨t120, (⟨t121, t122⟩ : S26)⟩ : S28), t123⟩ : S30) [.int .i64 t120, .int .u64 t121, .int .u64 t122, .int .i64 t123] (fun k_ => k_ ≠ gb124) (fun _ => False) rfl (by first | (go_simp; done) | (go_simp; rfl)) ?aP (fun _ hk => hk.elim) ?aF ?aO ?aB ?aS ?aL ?_; (case aP => exact k30_mkM _ _ _ (⟨(⟨t120, (⟨t121, t122⟩ : S26)⟩ : S28), t123⟩ : S30)); (case aB => exact (by repeat (first | (with_reducible first | exact HB.out | apply below_alloc | apply pw_below_drewN | apply below_drew1 | refine below_set ?_ GE117.out | refine below_set ?_ GE119.out | refine below_set ?_ GE124.out) | exact HB.out))); (case aF => exact (fun k_ hk => Kd.freshB (g := gb124) (o := .cells #[.int .i64 t120, .int .u64 t121, .int .u64 t122, .int .i64 t123] 30 (0, 0)) (by (with_reducible repeat (first | refine blk_drewN ?_ _ | refine blk_drew ?_ | refine blk_alloc ?_ _)); refine blk_put (cs := #[.int .i64 t120, .int .u64 t121, .int .u64 t122, .int .i64 0]) ?_ 3 _ rfl; (with_reducible repeat (first | refine blk_drewN ?_ _ | refine blk_drew ?_ | refine blk_alloc ?_ _)); refine blk_put (cs := #[.int .i64 t120, .int .u64 t121, .int .u64 0, .int .i64 0]) ?_ 2 _ rfl; (with_reducible repeat (first | refine blk_drewN ?_ _ | refine blk_drew ?_ | refine blk_alloc ?_ _)); refine blk_put (cs := #[.int .i64 t120, .int .u64 0, .int .u64 0, .int .i64 0]) ?_ 1 _ rfl; (with_reducible repeat (first | refine blk_drewN ?_ _ | refine blk_drew ?_ | refine blk_alloc ?_ _)); refine blk_put (cs := #[.int .i64 0, .int .u64 0, .int .u64 0, .int .i64 0]) ?_ 0 _ rfl; (with_reducible repeat (first | refine blk_drewN ?_ _ | refine blk_drew ?_ | refine blk_alloc ?_ _)); exact BK124.out) k_ hk)); (case aO => exact (by (with_reducible repeat (first | apply Kd.R_alloc | apply Kd.R_drewN | apply Kd.R_drew)); exact Kd.R_mono (Kd.R_far (p := ⟨gb124, 3, none⟩) (Kd.R_far (p := ⟨gb124, 2, none⟩) (Kd.R_far (p := ⟨gb124, 1, none⟩) (Kd.R_far (p := ⟨gb124, 0, none⟩) (Kd.R_mono HO_3.out (fun k_ hk => (⟨hk, hk.2⟩ : _ ∧ k_ ≠ gb124))) (fun _ hk => hk.2) (.int .i64 t120)) (fun _ hk => hk.2) (.int .u64 t121)) (fun _ hk => hk.2) (.int .u64 t122)) (fun _ hk => hk.2) (.int .i64 t123)) (fun _ hk => hk.1.2))); (case aS => exact (below_size (by repeat (first | (with_reducible first | exact HB.out | apply below_alloc | apply pw_below_drewN | apply below_drew1 | refine below_set ?_ GE117.out | refine below_set ?_ GE119.out | refine below_set ?_ GE124.out) | exact HB.out)))); (case aL => have := LMc12.out; omega); intro v126 w72 ho hb hg hat; rw [← Ny125.out] at ho; have n0_ := Aside0.mk (blk_grown (g := gb117) (o := .cells #[.int .i64 a0_0, .int .u64 a0_1, .int .u64 a0_2, .int .i64 a0_3, .int .u64 a0_4, .int .u64 a0_5] 52 (0, 0)) (by (with_reducible repeat (first | refine blk_drewN ?_ _ | refine blk_drew ?_ | refine blk_alloc ?_ _)); refine blk_far ?_ NB117_124.out _; (with_reducible repeat (first | refine blk_drewN ?_ _ | refine blk_drew ?_ | refine blk_alloc ?_ _)); refine blk_far ?_ NB117_124.out _; (with_reducible repeat (first | refine blk_drewN ?_ _ | refine blk_drew ?_ | refine blk_alloc ?_ _)); refine blk_far ?_ NB117_124.out _; (with_reducible repeat (first | refine blk_drewN ?_ _ | refine blk_drew ?_ | refine blk_alloc ?_ _)); refine blk_far ?_ NB117_124.out _; (with_reducible repeat (first | refine blk_drewN ?_ _ | refine blk_drew ?_ | refine blk_alloc ?_ _)); exact BK117.out) hg (Kd.R_ne HO_3.out BK117.out (by decide))); have n1_ := Aside0.mk (blk_grown (g := gb119) (o := .cells #[.int .i64 x119_0, .int .u64 x119_1, .int .u64 x119_2] 28 (0, 0)) (by (with_reducible repeat (first | refine blk_drewN ?_ _ | refine blk_drew ?_ | refine blk_alloc ?_ _)); refine blk_far ?_ NB119_124.out _; (with_reducible repeat (first | refine blk_drewN ?_ _ | refine blk_drew ?_ | refine blk_alloc ?_ _)); refine blk_far ?_ NB119_124.out _; (with_reducible repeat (first | refine blk_drewN ?_ _ | refine blk_drew ?_ | refine blk_alloc ?_ _)); refine blk_far ?_ NB119_124.out _; (with_reducible repeat (first | refine blk_drewN ?_ _ | refine blk_drew ?_ | refine blk_alloc ?_ _)); refine blk_far ?_ NB119_124.out _; (with_reducible repeat (first | refine blk_drewN ?_ _ | refine blk_drew ?_ | refine blk_alloc ?_ _)); exact BK119.out) hg (Kd.R_ne HO_3.out BK119.out (by decide))); have n2_ := Aside0.mk (blk_grown (g := gb124) (o := .cells #[.int .i64 t120, .int .u64 t121, .int .u64 t122, .int .i64 t123] 30 (0, 0)) (by (with_reducible repeat (first | refine blk_drewN ?_ _ | refine blk_drew ?_ | refine blk_alloc ?_ _)); refine blk_put (cs := #[.int .i64 t120, .int .u64 t121, .int .u64 t122, .int .i64 0]) ?_ 3 _ rfl; (with_reducible repeat (first | refine blk_drewN ?_ _ | refine blk_drew ?_ | refine blk_alloc ?_ _)); refine blk_put (cs := #[.int .i64 t120, .int .u64 t121, .int .u64 0, .int .i64 0]) ?_ 2 _ rfl; (with_reducible repeat (first | refine blk_drewN ?_ _ | refine blk_drew ?_ | refine blk_alloc ?_ _)); refine blk_put (cs := #[.int .i64 t120, .int .u64 0, .int .u64 0, .int .i64 0]) ?_ 1 _ rfl; (with_reducible repeat (first | refine blk_drewN ?_ _ | refine blk_drew ?_ | refine blk_alloc ?_ _)); refine blk_put (cs := #[.int .i64 0, .int .u64 0, .int .u64 0, .int .i64 0]) ?_ 0 _ rfl; (with_reducible repeat (first | refine blk_drewN ?_ _ | refine blk_drew ?_ | refine blk_alloc ?_ _)); exact BK124.out) hg (Kd.R_away HO_3.out (fun _ hk => hk.2))); have n3_ := Aside0.mk (hb); have n4_ := Aside0.mk (ho); clear BK117; clear BK119; clear BK124; clear HB; clear HO_3; have BK117 := n0_; have BK119 := n1_; have BK124 := n2_; have HB := n3_; have HO127 := n4_; clear n0_ n1_ n2_ n3_ n4_; clear ho hb hg hat; have hcz73_0 : w72.cell? ⟨gb124, 0, none⟩ = some (.int .i64 t120) := (blk_cell BK124.out 0).trans rfl; have hcz73_1 : w72.cell? ⟨gb124, 1, none⟩ = some (.int .u64 t121) := (blk_cell BK124.out 1).trans rfl; have hcz73_2 : w72.cell? ⟨gb124, 2, none⟩ = some (.int .u64 t122) := (blk_cell BK124.out 2).trans rfl; have hcz73_3 : w72.cell? ⟨gb124, 3, none⟩ = some (.int .i64 t123) := (blk_cell BK124.out 3).trans rfl; have hfz73_0 := blk_frozen BK124.out 0; have hfz73_1 := blk_frozen BK124.out 1; have hfz73_2 := blk_frozen BK124.out 2; have hfz73_3 := blk_frozen BK124.out 3) | ((with_reducible refine gate_callee (f := 24) rfl ?_); refine goesL_ (some 23) rfl rfl Tryz.func24 (by kernel_rfl) rfl #[.agg #[.int .i64 t120, .int .u64 t121, .int .u64 t122, .int .i64 t123]] rfl (by (try simp only [List.map_toArray, List.map_cons, List.map_nil]); first | done | rfl | (simp only [List.length_drop, List.length_take]; rfl)) ?_; (with_reducible refine (pref_Last.calls t120 t121 t122 t123 t128 t129 t130 _ ?side1 A13.out).mono ?_); (case side1 => first | exact hG | exact GoodW.below hG (by repeat (first | (with_reducible first | exact HB.out | apply below_alloc | apply pw_below_drewN | apply below_drew1 | refine below_set ?_ GE117.out | refine below_set ?_ GE119.out | refine below_set ?_ GE124.out) | exact HB.out)) | (repeat (first | exact hG | apply GoodW.drewN | apply GoodW.drew))); rintro e w74 ⟨rfl, hb⟩; refine ⟨_, rfl, ?_⟩; have n0_ := Aside0.mk (Kd.R_below (by (with_reducible repeat (first | apply Kd.R_alloc | apply Kd.R_drewN | apply Kd.R_drew)); exact HO127.out) hb); have n1_ := Aside0.mk (blk_below (g := gb117) (o := .cells #[.int .i64 a0_0, .int .u64 a0_1, .int .u64 a0_2, .int .i64 a0_3, .int .u64 a0_4, .int .u64 a0_5] 52 (0, 0)) (by (with_reducible repeat (first | refine blk_drewN ?_ _ | refine blk_drew ?_ | refine blk_alloc ?_ _)); exact BK117.out) hb); have n2_ := Aside0.mk (blk_below (g := gb119) (o := .cells #[.int .i64 x119_0, .int .u64 x119_1, .int .u64 x119_2] 28 (0, 0)) (by (with_reducible repeat (first | refine blk_drewN ?_ _ | refine blk_drew ?_ | refine blk_alloc ?_ _)); exact BK119.out) hb); have n3_ := Aside0.mk (blk_below (g := gb124) (o := .cells #[.int .i64 t120, .int .u64 t121, .int .u64 t122, .int .i64 t123] 30 (0, 0)) (by (with_reducible repeat (first | refine blk_drewN ?_ _ | refine blk_drew ?_ | refine blk_alloc ?_ _)); exact BK124.out) hb); have n4_ := Aside0.mk (below_step (by repeat (first | (with_reducible first | exact HB.out | apply below_alloc | apply pw_below_drewN | apply below_drew1 | refine below_set ?_ GE117.out | refine below_set ?_ GE119.out | refine below_set ?_ GE124.out) | exact HB.out)) hb); clear HO127; clear BK117; clear BK119; clear BK124; clear HB; have HO127 := n0_; have BK117 := n1_; have BK119 := n2_; have BK124 := n3_; have HB := n4_; clear n0_ n1_ n2_ n3_ n4_; (try clear hb); (try clear hb2); (try clear hk); (try clear hi)) | ((with_reducible refine gate_callee (f := 78) rfl ?_); refine goesL_ (some 24) rfl rfl Tryz.func78 (by kernel_rfl) rfl #[.agg #[.int .i64 t128, .int .u64 t129, .int .u64 t130]] rfl (by (try simp only [List.map_toArray, List.map_cons, List.map_nil]); first | done | rfl | (simp only [List.length_drop, List.length_take]; rfl)) ?_; (with_reducible refine (addr_Next.calls t128 t129 t130 t131 t132 t133 false _ ?side1 A14.out).mono ?_); (case side1 => first | exact hG | exact GoodW.below hG (by repeat (first | (with_reducible first | exact HB.out | apply below_alloc | apply pw_below_drewN | apply below_drew1 | refine below_set ?_ GE117.out | refine below_set ?_ GE119.out | refine below_set ?_ GE124.out) | exact HB.out)) | (repeat (first | exact hG | apply GoodW.drewN | apply GoodW.drew))); rintro e w75 ⟨rfl, hb⟩; refine ⟨_, rfl, ?_⟩; have n0_ := Aside0.mk (Kd.R_below (by (with_reducible repeat (first | apply Kd.R_alloc | apply Kd.R_drewN | apply Kd.R_drew)); exact HO127.out) hb); have n1_ := Aside0.mk (blk_below (g := gb117) (o := .cells #[.int .i64 a0_0, .int .u64 a0_1, .int .u64 a0_2, .int .i64 a0_3, .int .u64 a0_4, .int .u64 a0_5] 52 (0, 0)) (by (with_reducible repeat (first | refine blk_drewN ?_ _ | refine blk_drew ?_ | refine blk_alloc ?_ _)); exact BK117.out) hb); have n2_ := Aside0.mk (blk_below (g := gb119) (o := .cells #[.int .i64 x119_0, .int .u64 x119_1, .int .u64 x119_2] 28 (0, 0)) (by (with_reducible repeat (first | refine blk_drewN ?_ _ | refine blk_drew ?_ | refine blk_alloc ?_ _)); exact BK119.out) hb); have n3_ := Aside0.mk (blk_below (g := gb124) (o := .cells #[.int .i64 t120, .int .u64 t121, .int .u64 t122, .int .i64 t123] 30 (0, 0)) (by (with_reducible repeat (first | refine blk_drewN ?_ _ | refine blk_drew ?_ | refine blk_alloc ?_ _)); exact BK124.out) hb); have n4_ := Aside0.mk (below_step (by repeat (first | (with_reducible first | exact HB.out | apply below_alloc | apply pw_below_drewN | apply below_drew1 | refine below_set ?_ GE117.out | refine below_set ?_ GE119.out | refine below_set ?_ GE124.out) | exact HB.out)) hb); clear HO127; clear BK117; clear BK119; clear BK124; clear HB; have HO127 := n0_; have BK117 := n1_; have BK119 := n2_; have BK124 := n3_; have HB := n4_; clear n0_ n1_ n2_ n3_ n4_; (try clear hb); (try clear hb2); (try clear hk); (try clear hi)) | ((with_reducible refine gate_dst (N := 6) rfl ?_); refine box_event ?hg (N := 6) ?hd (cs := #[.int .i64 0, .int .u64 0, .int .u64 0]) (t := 28) ?hr ?_; (case hd => rfl); (case hg => rfl); (case hr => first | (go_simp; done) | (go_simp; rfl)); intro gb135 hg w76 hbox hb; have n0_ := Aside0.mk (Kd.R_below (by (with_reducible repeat (first | apply Kd.R_alloc | apply Kd.R_drewN | apply Kd.R_drew)); exact HO127.out) hb); have n1_ := Aside0.mk (blk_below (g := gb117) (o := .cells #[.int .i64 a0_0, .int .u64 a0_1, .int .u64 a0_2, .int .i64 a0_3, .int .u64 a0_4, .int .u64 a0_5] 52 (0, 0)) (by (with_reducible repeat (first | refine blk_drewN ?_ _ | refine blk_drew ?_ | refine blk_alloc ?_ _)); exact BK117.out) hb); have n2_ := Aside0.mk (blk_below (g := gb119) (o := .cells #[.int .i64 x119_0, .int .u64 x119_1, .int .u64 x119_2] 28 (0, 0)) (by (with_reducible repeat (first | refine blk_drewN ?_ _ | refine blk_drew ?_ | refine blk_alloc ?_ _)); exact BK119.out) hb); have n3_ := Aside0.mk (blk_below (g := gb124) (o := .cells #[.int .i64 t120, .int .u64 t121, .int .u64 t122, .int .i64 t123] 30 (0, 0)) (by (with_reducible repeat (first | refine blk_drewN ?_ _ | refine blk_drew ?_ | refine blk_alloc ?_ _)); exact BK124.out) hb); have n4_ := Aside0.mk (below_step (by repeat (first | (with_reducible first | exact HB.out | apply below_alloc | apply pw_below_drewN | apply below_drew1 | refine below_set ?_ GE117.out | refine below_set ?_ GE119.out | refine below_set ?_ GE124.out) | exact HB.out)) hb); have n5_ := Aside0.mk (hbox); have n6_ := Aside0.mk ((by rw [hg]; exact (below_size (by repeat (first | (with_reducible first | exact HB.out | apply below_alloc | apply pw_below_drewN | apply below_drew1 | refine below_set ?_ GE117.out | refine below_set ?_ GE119.out | refine below_set ?_ GE124.out) | exact HB.out))) : w.heap.size ≤ gb135)); have n7_ := Aside0.mk ((by rw [hg]; exact (below_size (by repeat (first | (with_reducible first | exact HB.out | apply below_alloc | apply pw_below_drewN | apply below_drew1 | refine below_set ?_ GE117.out | refine below_set ?_ GE119.out | refine below_set ?_ GE124.out) | exact HB.out))) : w.heap.size ≤ gb135)); have n8_ := Aside0.mk ((by rw [hg]; exact Nat.ne_of_lt (blk_lt (g := gb117) (o := .cells #[.int .i64 a0_0, .int .u64 a0_1, .int .u64 a0_2, .int .i64 a0_3, .int .u64 a0_4, .int .u64 a0_5] 52 (0, 0)) (by (with_reducible repeat (first | refine blk_drewN ?_ _ | refine blk_drew ?_ | refine blk_alloc ?_ _)); exact BK117.out)) : gb117 ≠ gb135)); have n9_ := Aside0.mk ((by rw [hg]; exact Nat.ne_of_gt (blk_lt (g := gb117) (o := .cells #[.int .i64 a0_0, .int .u64 a0_1, .int .u64 a0_2, .int .i64 a0_3, .int .u64 a0_4, .int .u64 a0_5] 52 (0, 0)) (by (with_reducible repeat (first | refine blk_drewN ?_ _ | refine blk_drew ?_ | refine blk_alloc ?_ _)); exact BK117.out)) : gb135 ≠ gb117)); have n10_ := Aside0.mk ((by rw [hg]; exact Nat.ne_of_lt (blk_lt (g := gb119) (o := .cells #[.int .i64 x119_0, .int .u64 x119_1, .int .u64 x119_2] 28 (0, 0)) (by (with_reducible repeat (first | refine blk_drewN ?_ _ | refine blk_drew ?_ | refine blk_alloc ?_ _)); exact BK119.out)) : gb119 ≠ gb135)); have n11_ := Aside0.mk ((by rw [hg]; exact Nat.ne_of_gt (blk_lt (g := gb119) (o := .cells #[.int .i64 x119_0, .int .u64 x119_1, .int .u64 x119_2] 28 (0, 0)) (by (with_reducible repeat (first | refine blk_drewN ?_ _ | refine blk_drew ?_ | refine blk_alloc ?_ _)); exact BK119.out)) : gb135 ≠ gb119)); have n12_ := Aside0.mk ((by rw [hg]; exact Nat.ne_of_lt (blk_lt (g := gb124) (o := .cells #[.int .i64 t120, .int .u64 t121, .int .u64 t122, .int .i64 t123] 30 (0, 0)) (by (with_reducible repeat (first | refine blk_drewN ?_ _ | refine blk_drew ?_ | refine blk_alloc ?_ _)); exact BK124.out)) : gb124 ≠ gb135)); have n13_ := Aside0.mk ((by rw [hg]; exact Nat.ne_of_gt (blk_lt (g := gb124) (o := .cells #[.int .i64 t120, .int .u64 t121, .int .u64 t122, .int .i64 t123] 30 (0, 0)) (by (with_reducible repeat (first | refine blk_drewN ?_ _ | refine blk_drew ?_ | refine blk_alloc ?_ _)); exact BK124.out)) : gb135 ≠ gb124)); clear HO127; clear BK117; clear BK119; clear BK124; clear HB; have HO127 := n0_; have BK117 := n1_; have BK119 := n2_; have BK124 := n3_; have HB := n4_; have BK135 := n5_; have GW135 := n6_; have GE135 := n7_; have NB117_135 := n8_; have NB135_117 := n9_; have NB119_135 := n10_; have NB135_119 := n11_; have NB124_135 := n12_; have NB135_124 := n13_; clear n0_ n1_ n2_ n3_ n4_ n5_ n6_ n7_ n8_ n9_ n10_ n11_ n12_ n13_; clear hb hbox hg; have hnb77 := NB135_117.out; have hnc77 := NB117_135.out; have hnb78 := NB135_119.out; have hnc78 := NB119_135.out; have hnb79 := NB135_124.out; have hnc79 := NB124_135.out; have hcz80_0 : w76.cell? ⟨gb135, 0, none⟩ = some (.int .i64 0) := (blk_cell BK135.out 0).trans rfl; have hcz80_1 : w76.cell? ⟨gb135, 1, none⟩ = some (.int .u64 0) := (blk_cell BK135.out 1).trans rfl; have hcz80_2 : w76.cell? ⟨gb135, 2, none⟩ = some (.int .u64 0) := (blk_cell BK135.out 2).trans rfl; have hfz80_0 := blk_frozen BK135.out 0; have hfz80_1 := blk_frozen BK135.out 1; have hfz80_2 := blk_frozen BK135.out 2))
            go_ret
            exact ⟨_, by first | rfl | (simp [errW_none, errW_some] <;> rfl) | (simp [*, errW_none, errW_some] <;> rfl), by (with_reducible repeat (first | apply Kd.R_alloc | apply Kd.R_drewN | apply Kd.R_drew)); exact Kd.R_mono (Kd.R_far (p := ⟨gb135, 2, none⟩) (Kd.R_far (p := ⟨gb135, 1, none⟩) (Kd.R_far (p := ⟨gb135, 0, none⟩) (Kd.R_types HO127.out BK135.out (by decide)) (fun _ hk => hk.2) (.int .i64 t131)) (fun _ hk => hk.2) (.int .u64 t132)) (fun _ hk => hk.2) (.int .u64 t133)) (fun _ hk => trivial), by repeat (first | (with_reducible first | exact HB.out | apply below_alloc | apply pw_below_drewN | apply below_drew1 | refine below_set ?_ GE117.out | refine below_set ?_ GE119.out | refine below_set ?_ GE124.out | refine below_set ?_ GE135.out) | exact HB.out)⟩
        · rw [if_neg c12] at H
          exact absurd H (by simp)
  · replace c3 := Bool.eq_false_iff.mpr c3
    subst c3
    have H1 : (some ([] : List (S30))) = some r := by rw [if_neg (show ¬ (false = true) by decide)] at H; exact H
    clear H
    have H := H1
    clear H1
    obtain rfl := Option.some.inj H
    go_enter Tryz.func33, Tryz.ntmps33
    go_wp2_with (first | ((with_reducible refine gate_dst (N := 1) rfl ?_); refine box_event ?hg (N := 1) ?hd (cs := #[.int .i64 a0_0, .int .u64 a0_1, .int .u64 a0_2, .int .i64 a0_3, .int .u64 a0_4, .int .u64 a0_5]) (t := 52) ?hr ?_; (case hd => rfl); (case hg => rfl); (case hr => first | (go_simp; done) | (go_simp; rfl)); intro gb117 hg w81 hbox hb; have n0_ := Aside0.mk (below_step (by repeat (first | (with_reducible first | exact HB.out | apply below_alloc | apply pw_below_drewN | apply below_drew1) | exact HB.out)) hb); have n1_ := Aside0.mk (hbox); have n2_ := Aside0.mk ((by rw [hg]; exact (below_size (by repeat (first | (with_reducible first | exact HB.out | apply below_alloc | apply pw_below_drewN | apply below_drew1) | exact HB.out))) : w.heap.size ≤ gb117)); have n3_ := Aside0.mk ((by rw [hg]; exact (below_size (by repeat (first | (with_reducible first | exact HB.out | apply below_alloc | apply pw_below_drewN | apply below_drew1) | exact HB.out))) : w.heap.size ≤ gb117)); clear HB; have HB := n0_; have BK117 := n1_; have GW117 := n2_; have GE117 := n3_; clear n0_ n1_ n2_ n3_; clear hb hbox hg; have hcz82_0 : w81.cell? ⟨gb117, 0, none⟩ = some (.int .i64 a0_0) := (blk_cell BK117.out 0).trans rfl; have hcz82_1 : w81.cell? ⟨gb117, 1, none⟩ = some (.int .u64 a0_1) := (blk_cell BK117.out 1).trans rfl; have hcz82_2 : w81.cell? ⟨gb117, 2, none⟩ = some (.int .u64 a0_2) := (blk_cell BK117.out 2).trans rfl; have hcz82_3 : w81.cell? ⟨gb117, 3, none⟩ = some (.int .i64 a0_3) := (blk_cell BK117.out 3).trans rfl; have hcz82_4 : w81.cell? ⟨gb117, 4, none⟩ = some (.int .u64 a0_4) := (blk_cell BK117.out 4).trans rfl; have hcz82_5 : w81.cell? ⟨gb117, 5, none⟩ = some (.int .u64 a0_5) := (blk_cell BK117.out 5).trans rfl; have hfz82_0 := blk_frozen BK117.out 0; have hfz82_1 := blk_frozen BK117.out 1; have hfz82_2 := blk_frozen BK117.out 2; have hfz82_3 := blk_frozen BK117.out 3; have hfz82_4 := blk_frozen BK117.out 4; have hfz82_5 := blk_frozen BK117.out 5) | ((with_reducible refine gate_callee (f := 48) rfl ?_); refine goesL_ (some 9) rfl rfl Tryz.func48 (by kernel_rfl) rfl #[.agg #[.int .i64 a0_0, .int .u64 a0_1, .int .u64 a0_2, .int .i64 a0_3, .int .u64 a0_4, .int .u64 a0_5]] rfl (by (try simp only [List.map_toArray, List.map_cons, List.map_nil]); first | done | rfl | (simp only [List.length_drop, List.length_take]; rfl)) ?_; (with_reducible refine (rang_Ok.calls a0_0 a0_1 a0_2 a0_3 a0_4 a0_5 false _ ?side1 A2.out).mono ?_); (case side1 => first | exact hG | exact GoodW.below hG (by repeat (first | (with_reducible first | exact HB.out | apply below_alloc | apply pw_below_drewN | apply below_drew1 | refine below_set ?_ GE117.out) | exact HB.out)) | (repeat (first | exact hG | apply GoodW.drewN | apply GoodW.drew))); rintro e w83 ⟨rfl, hb⟩; refine ⟨_, rfl, ?_⟩; have n0_ := Aside0.mk (blk_below (g := gb117) (o := .cells #[.int .i64 a0_0, .int .u64 a0_1, .int .u64 a0_2, .int .i64 a0_3, .int .u64 a0_4, .int .u64 a0_5] 52 (0, 0)) (by (with_reducible repeat (first | refine blk_drewN ?_ _ | refine blk_drew ?_ | refine blk_alloc ?_ _)); exact BK117.out) hb); have n1_ := Aside0.mk (below_step (by repeat (first | (with_reducible first | exact HB.out | apply below_alloc | apply pw_below_drewN | apply below_drew1 | refine below_set ?_ GE117.out) | exact HB.out)) hb); clear BK117; clear HB; have BK117 := n0_; have HB := n1_; clear n0_ n1_; (try clear hb); (try clear hb2); (try clear hk); (try clear hi)))
    go_ret
    exact ⟨_, by first | rfl | (simp [errW_none, errW_some] <;> rfl) | (simp [*, errW_none, errW_some] <;> rfl), by first | exact Kd.R_nil _ _ _ _ _ | exact Kd.N_nil _ _ _ _ _ | exact Kd.V_nil _ _ _ _ _ | exact Kd.Q_nil _ _ _ _ _ | exact Kd.S_nil _ _ _ _ _, by repeat (first | (with_reducible first | exact HB.out | apply below_alloc | apply pw_below_drewN | apply below_drew1 | refine below_set ?_ GE117.out) | exact HB.out)⟩
end Go.Proofs.YtfnacgojmdbjmaaGreatDoor.PRD
end

section
/- RangOver: the law's words: the functions that it calls as contracts, what its loop keeps. No conditions. -/
namespace Go.Proofs.YtfnacgojmdbjmaaGreatDoor
open Go.Det Go.RowKit Go.Proofs.YtfnacgojmdbjmaaGreatDoor.PRD Go.Proofs.YtfnacgojmdbjmaaGreatDoorW.PrintWords
set_option maxRecDepth 100000
theorem reps_flat {α : Type} {R : α → List Value → Prop} {n : Nat} {enc : α → List Value} (hR : ∀ p c, R p c → c = enc p) : ∀ {ps : List α} {cs : List Value}, Reps R n ps cs → cs = ps.flatMap enc
  | [], cs, h => by
    have := h.1
    simp at this
    simpa using this
  | x :: t, cs, h => by
    have h0 := hR _ _ (h.2 0 x rfl)
    rw [Nat.zero_mul, List.drop_zero] at h0
    have ht : Reps R n t (cs.drop n) := by
      refine ⟨by rw [List.length_drop, h.1, List.length_cons, Nat.succ_mul]; omega, fun j p hj => ?_⟩
      have := h.2 (j + 1) p (by simpa using hj)
      rw [List.drop_drop, show n + j * n = (j + 1) * n by rw [Nat.succ_mul]; omega]
      exact this
    rw [List.flatMap_cons, ← h0, ← reps_flat hR ht, List.take_append_drop]
def encS (x : S30) : List Value := [.int .i64 x.f0.f0, .int .u64 x.f0.f1.f0, .int .u64 x.f0.f1.f1, .int .i64 x.f1]
noncomputable def lim {β : Type} (f : Nat → Option β) : Option β := open Classical in if h : ∃ r k, f k = some r then some (Classical.choose h) else none
theorem lim_some {β : Type} {f : Nat → Option β} {r : β} (h : lim f = some r) : ∃ k, f k = some r := by
  unfold lim at h
  split at h
  · rename_i hx; cases h; exact Classical.choose_spec hx
  · cases h
theorem lim_of {β : Type} {f : Nat → Option β} {r : β} {k : Nat} (hm : ∀ i j x y, f i = some x → f j = some y → x = y) (h : f k = some r) : lim f = some r := by
  unfold lim
  rw [dif_pos ⟨r, k, h⟩]
  congr 1
  obtain ⟨j, hj⟩ := Classical.choose_spec (⟨r, k, h⟩ : ∃ r k, f k = some r)
  exact hm _ _ _ _ hj h
noncomputable def dec33 : List Value → Option (Int × Int × Int × Int × Int × Int)
  | [.agg ⟨[.int .i64 a, .int .u64 b, .int .u64 c, .int .i64 d, .int .u64 e, .int .u64 f]⟩] => some (a, b, c, d, e, f)
  | _ => none
noncomputable def covF (x : Int × Int × Int × Int × Int × Int) : Option (List S30) := lim fun k => rang_Cover.f k x.1 x.2.1 x.2.2.1 x.2.2.2.1 x.2.2.2.2.1 x.2.2.2.2.2
noncomputable def con33 : Con := Con.row dec33 covF encS 30 4
theorem om33 {W : World} (hW : GoodW W) : OwnAll Tryz.prog W 6 33 con33.own := by
  refine own_row (fn := Tryz.f33) (c := bodyOf Tryz.f33) (fun _ => rfl) (by decide) (fun x v hv => ?_) hW Tryz.func33 (by kernel_rfl) (by kernel_rfl) fun args a r ha hr => ?_
  · simp only [encS, List.mem_cons, List.not_mem_nil, or_false] at hv
    rcases hv with rfl | rfl | rfl | rfl <;> rfl
  unfold dec33 at ha
  split at ha
  case h_2 => cases ha
  cases ha
  obtain ⟨k, hk⟩ := lim_some hr
  refine ⟨rfl, fun w hG => (rang_Cover.calls k _ _ _ _ _ _ r w hG hk).mono ?_⟩
  rintro e w' ⟨v, rfl, hR, hB⟩
  obtain ⟨_, inner, ho, hreps⟩ := hR
  obtain rfl := reps_flat (enc := encS) (fun p c h => k30_openM h) hreps
  exact ⟨v, rfl, hB, ho⟩
noncomputable def dec34 : List Value → Option Unit
  | [] => some ()
  | _ => none
noncomputable def con34 : Con := Con.opt dec34 (fun _ => some true) fun b => .bool b
theorem om34 {W : World} (hW : GoodW W) : OwnAll Tryz.prog W 6 34 con34.own := by
  refine own_of_calls (fn := Tryz.f34) (c := bodyOf Tryz.f34) hW Tryz.func34 (by kernel_rfl) (by kernel_rfl) fun args v h => ?_
  split at h
  case h_2 => cases h
  rename_i a ha
  cases h
  unfold dec34 at ha
  split at ha
  case h_2 => cases ha
  exact ⟨rfl, rfl, fun w hG => st_awake34 w hG⟩
theorem goodL_row (N : Nat) (t : List S30) : goodL N (t.flatMap encS) = true := by
  refine List.all_eq_true.2 fun v hv => ?_
  obtain ⟨y, _, hy⟩ := List.mem_flatMap.1 hv
  simp only [encS, List.mem_cons, List.not_mem_nil, or_false] at hy
  rcases hy with rfl | rfl | rfl | rfl <;> rfl
noncomputable def lx0 (_ : Nat) : Option LpX := none
theorem lx0_ok {P : Program} {cw : Cw} (l : List Code) : LxOk P cw lx0 l := fun _ _ _ h => by cases h
end Go.Proofs.YtfnacgojmdbjmaaGreatDoor
end

section
/- Plain facts of addresses, prefixes and ranges, over the functions as they are told. No conditions. -/
namespace Go.Proofs.YtfnacgojmdbjmaaGreatDoor.PRD
open Go Go.RowKit Go.Proofs.YtfnacgojmdbjmaaGreatDoorW.PrintWords Go.Proofs.YtfnacgojmdbjmaaGreatDoorW.PrintLast Go.Proofs.YtfnacgojmdbjmaaGreatDoorW.PrintMore
open Go.Det (inQ inU M64 M128 qn addN highN clampN maskN inQ_quad qn_quad)
def H (q : Nat) : Int := ((q / M64 : Nat) : Int)
def L (q : Nat) : Int := ((q % M64 : Nat) : Int)
theorem m64 : M64 = 2 ^ 64 := rfl
theorem m128 : M128 = 2 ^ 128 := rfl
theorem HL_inj {a b : Nat} (h1 : H a = H b) (h2 : L a = L b) : a = b := by
  unfold H at h1; unfold L at h2
  have e1 : a / M64 = b / M64 := by exact_mod_cast h1
  have e2 : a % M64 = b % M64 := by exact_mod_cast h2
  rw [← Nat.div_add_mod a M64, ← Nat.div_add_mod b M64, e1, e2]
theorem HL_zero (r : Nat) : (H r == 0 && L r == 0) = decide (r = 0) := by
  rw [Bool.eq_iff_iff, Bool.and_eq_true, beq_iff_eq, beq_iff_eq, decide_eq_true_eq]
  constructor
  · rintro ⟨a, b⟩; exact HL_inj (b := 0) a b
  · rintro rfl; exact ⟨rfl, rfl⟩
theorem H_lt {q : Nat} (h : q < M128) : q / M64 < 18446744073709551616 := by
  have : M128 = M64 * M64 := by decide
  rw [this] at h
  exact Nat.div_lt_of_lt_mul h
theorem L_lt (q : Nat) : q % M64 < 18446744073709551616 := Nat.mod_lt _ (by decide)
theorem and_HL {a b : Nat} (ha : a < M128) (hb : b < M128) : Go.bits .and .u64 (H a) (H b) = H (a &&& b) ∧ Go.bits .and .u64 (L a) (L b) = L (a &&& b) := by
  unfold H L
  rw [Go.bits_and_u64_nat _ _ (H_lt ha) (H_lt hb), Go.bits_and_u64_nat _ _ (L_lt a) (L_lt b), m64, ← Nat.and_div_two_pow, ← Nat.and_mod_two_pow]
  exact ⟨rfl, rfl⟩
theorem or_HL {a b : Nat} (ha : a < M128) (hb : b < M128) : Go.bits .or .u64 (H a) (H b) = H (a ||| b) ∧ Go.bits .or .u64 (L a) (L b) = L (a ||| b) := by
  unfold H L
  rw [Go.bits_or_u64_nat _ _ (H_lt ha) (H_lt hb), Go.bits_or_u64_nat _ _ (L_lt a) (L_lt b), m64, ← Nat.or_div_two_pow, ← Nat.or_mod_two_pow]
  exact ⟨rfl, rfl⟩
theorem inHL {q : Nat} (h : q < M128) : inQ (H q) (L q) = true := inQ_quad h
theorem qnHL (q : Nat) : qn (H q) (L q) = q := qn_quad q
theorem qAnd {a b : Nat} (ha : a < M128) (hb : b < M128) : quad_And.f (H a) (L a) (H b) (L b) = some (H (a &&& b), L (a &&& b)) := by
  unfold quad_And.f; rw [(and_HL ha hb).1, (and_HL ha hb).2]
theorem rAnd {a b : Nat} (ha : a < M128) (hb : b < M128) : gleberef1_And.f (H a) (L a) (H b) (L b) = some (H (a &&& b), L (a &&& b)) := by
  unfold gleberef1_And.f; rw [(and_HL ha hb).1, (and_HL ha hb).2]
theorem qOr {a b : Nat} (ha : a < M128) (hb : b < M128) : quad_Or.f (H a) (L a) (H b) (L b) = some (H (a ||| b), L (a ||| b)) := by
  unfold quad_Or.f; rw [(or_HL ha hb).1, (or_HL ha hb).2]
theorem toI {x : Nat} (h : x < 18446744073709551616) : ((x : Nat) : Int) < 18446744073709551616 := by omega
theorem xor_HL {a : Nat} (ha : a < M128) : Go.bits .xor .u64 18446744073709551615 (H a) = H (M128 - 1 - a) ∧ Go.bits .xor .u64 18446744073709551615 (L a) = L (M128 - 1 - a) := by
  have hM : M64 = 18446744073709551616 := rfl
  have hM2 : M128 = 340282366920938463463374607431768211456 := by decide
  have x1 := H_lt ha
  have l1 := L_lt a
  have i1 : Go.Det.inU (H a) = true := Go.Det.inU_iff.2 ⟨Int.natCast_nonneg _, toI x1⟩
  have i2 : Go.Det.inU (L a) = true := Go.Det.inU_iff.2 ⟨Int.natCast_nonneg _, toI l1⟩
  have n1 : Go.bits .xor .u64 18446744073709551615 (H a) = 18446744073709551615 - H a := Go.Det.notI_u64 i1
  have n2 : Go.bits .xor .u64 18446744073709551615 (L a) = 18446744073709551615 - L a := Go.Det.notI_u64 i2
  rw [n1, n2]
  unfold H L
  have h1 := Nat.div_add_mod a M64
  generalize hx : a / M64 = x at *
  generalize hz : a % M64 = z at *
  rw [hM] at h1 ⊢
  rw [hM2] at ha ⊢
  constructor <;> omega
theorem qNot {a : Nat} (ha : a < M128) : quad_Not.f (H a) (L a) = some (H (M128 - 1 - a), L (M128 - 1 - a)) := by
  unfold quad_Not.f; rw [(xor_HL ha).1, (xor_HL ha).2]
theorem rNot {a : Nat} (ha : a < M128) : gleberef1_Not.f (H a) (L a) = some (H (M128 - 1 - a), L (M128 - 1 - a)) := by
  unfold gleberef1_Not.f; rw [(xor_HL ha).1, (xor_HL ha).2]
theorem fin_at {p : Nat → Bool} {n : Nat} (h : (List.range n).all p = true) (k : Nat) (hk : k < n) : p k = true := List.all_eq_true.1 h k (List.mem_range.2 hk)
theorem fin_mask : (List.range 129).all (fun n => decide (quad_Mask.f (n : Nat) = some (H (maskN n), L (maskN n)) ∧ gleberef1_Mask.f 300 (n : Nat) = some (H (maskN n), L (maskN n)) ∧ maskN n < M128 ∧ M128 - 1 - maskN n = 2 ^ (128 - n) - 1)) = true := by decide +kernel
theorem mask_at {n : Nat} (h : n ≤ 128) : quad_Mask.f (n : Nat) = some (H (maskN n), L (maskN n)) ∧ gleberef1_Mask.f 300 (n : Nat) = some (H (maskN n), L (maskN n)) ∧ maskN n < M128 ∧ M128 - 1 - maskN n = 2 ^ (128 - n) - 1 :=
  of_decide_eq_true (fin_at fin_mask n (by omega))
def Kd' (V : Int) (B : Nat) : Prop := (V = 4 ∧ B = 32) ∨ (V = 6 ∧ B = 128)
theorem Kd'.le {V : Int} {B : Nat} (h : Kd' V B) : B ≤ 128 := by rcases h with ⟨_, rfl⟩ | ⟨_, rfl⟩ <;> decide
theorem Kd'.bits {V : Int} {B : Nat} (h : Kd' V B) : addr_Bits.f V = some (B : Int) := by rcases h with ⟨rfl, rfl⟩ | ⟨rfl, rfl⟩ <;> rfl
theorem Kd'.rbits {V : Int} {B : Nat} (h : Kd' V B) : gleberef1_Bits.f V = some (B : Int) := by rcases h with ⟨rfl, rfl⟩ | ⟨rfl, rfl⟩ <;> rfl
theorem Kd'.pow {V : Int} {B : Nat} (h : Kd' V B) {q : Nat} (hq : q < 2 ^ B) : q < M128 := by rcases h with ⟨rfl, rfl⟩ | ⟨rfl, rfl⟩ <;> (rw [m128]; omega)
theorem w64 {n : Int} (h0 : -1000 ≤ n) (h1 : n ≤ 1000) : wrap64 n = n := by unfold wrap64; omega
theorem pMask {V : Int} {B n : Nat} (h : Kd' V B) (hn : n ≤ B) : pref_mask.f V (n : Int) = some (H (maskN (128 - B + n)), L (maskN (128 - B + n))) := by
  have hB := h.le
  unfold pref_mask.f
  rw [h.bits, Option.bind_some, w64 (n := 128 - (B : Int)) (by omega) (by omega), w64 (by omega) (by omega), show (128 - (B : Int) + (n : Int)) = ((128 - B + n : Nat) : Int) by omega, (mask_at (n := 128 - B + n) (by omega)).1, Option.bind_some]
theorem okA {V : Int} {B q : Nat} (h : Kd' V B) (hq : q < 2 ^ B) : addr_Ok.f V (H q) (L q) = some true := by
  rcases h with ⟨rfl, rfl⟩ | ⟨rfl, rfl⟩
  · unfold addr_Ok.f
    have h1 : q / M64 = 0 := Nat.div_eq_of_lt (by rw [m64]; omega)
    have h2 : q % M64 = q := Nat.mod_eq_of_lt (by rw [m64]; omega)
    have e1 : H q = 0 := by unfold H; rw [h1]; rfl
    have e2 : L q = (q : Int) := by unfold L; rw [h2]
    rw [if_neg (by decide), if_pos rfl, e1, if_pos rfl, e2]
    rw [decide_eq_true (show (q : Int) < 4294967296 by omega)]
  · rfl
theorem low_and (q j : Nat) : q &&& (2 ^ j - 1) = q % 2 ^ j := Nat.and_two_pow_sub_one_eq_mod q j
theorem pOk {V : Int} {B q n : Nat} (h : Kd' V B) (hq : q < 2 ^ B) (hn : n ≤ B) : pref_Ok.f V (H q) (L q) (n : Int) = some (decide (q % 2 ^ (B - n) = 0)) := by
  have hB := h.le
  have hq' := h.pow hq
  obtain ⟨_, _, hm, hm2⟩ := mask_at (n := 128 - B + n) (by omega)
  have hlt : M128 - 1 - maskN (128 - B + n) < M128 := by have : 0 < M128 := by decide
                                                         omega
  have e1 := qNot hm
  have e2 := qAnd hq' hlt
  rw [hm2, show 128 - (128 - B + n) = B - n by omega] at e1 e2
  rw [low_and] at e2
  generalize q % 2 ^ (B - n) = r at e2 ⊢
  generalize 2 ^ (B - n) - 1 = z at e1 e2
  unfold pref_Ok.f
  rw [okA h hq, Option.bind_some, if_pos rfl, if_neg (by omega), h.bits, Option.bind_some, if_neg (by omega), pMask h hn, Option.bind_some, e1, Option.bind_some, e2, Option.bind_some, HL_zero]
theorem or_low (q j : Nat) (h : q % 2 ^ j = 0) : q ||| (2 ^ j - 1) = q + (2 ^ j - 1) := by
  obtain ⟨m, rfl⟩ := Nat.dvd_of_mod_eq_zero h
  have : 2 ^ j - 1 < 2 ^ j := by have := Nat.pow_pos (n := j) (show 0 < 2 by decide); omega
  rw [← Nat.two_pow_add_eq_or_of_lt this]
theorem and_ones (i j : Nat) (h : i ≤ j) : (2 ^ i - 1) &&& (2 ^ j - 1) = 2 ^ i - 1 := by
  rw [Nat.and_two_pow_sub_one_eq_mod]
  have h1 := Nat.pow_pos (n := i) (show 0 < 2 by decide)
  have h2 : 2 ^ i ≤ 2 ^ j := Nat.pow_le_pow_right (by decide) h
  exact Nat.mod_eq_of_lt (by omega)
theorem pLast {V : Int} {B q n : Nat} (h : Kd' V B) (hq : q < 2 ^ B) (hn : n ≤ B) (ha : q % 2 ^ (B - n) = 0) :
    pref_Last.f V (H q) (L q) (n : Int) = some (V, H (q + (2 ^ (B - n) - 1)), L (q + (2 ^ (B - n) - 1))) := by
  have hB := h.le
  have hq' := h.pow hq
  obtain ⟨_, _, hm, hm2⟩ := mask_at (n := 128 - B + n) (by omega)
  obtain ⟨hm3, _, hm4, hm5⟩ := mask_at (n := 128 - B) (by omega)
  have hlt : M128 - 1 - maskN (128 - B + n) < M128 := by have : 0 < M128 := by decide
                                                         omega
  have hlt2 : M128 - 1 - maskN (128 - B) < M128 := by have : 0 < M128 := by decide
                                                      omega
  have e1 := qNot hm
  have e2 := qNot hm4
  have e3 := qAnd hlt hlt2
  rw [hm2, show 128 - (128 - B + n) = B - n by omega] at e1 e3
  rw [hm5, show 128 - (128 - B) = B by omega] at e2 e3
  rw [and_ones _ _ (by omega)] at e3
  have hlt3 : 2 ^ (B - n) - 1 < M128 := by rw [hm2, show 128 - (128 - B + n) = B - n by omega] at hlt; exact hlt
  have e4 := qOr hq' hlt3
  rw [or_low _ _ ha] at e4
  have e0 := pOk h hq hn
  rw [decide_eq_true ha] at e0
  have w := w64 (n := 128 - (B : Int)) (by omega) (by omega)
  have hM : quad_Mask.f (128 - (B : Int)) = some (H (maskN (128 - B)), L (maskN (128 - B))) := by
    rw [show (128 - (B : Int)) = ((128 - B : Nat) : Int) by omega]; exact hm3
  generalize 2 ^ (B - n) - 1 = z at *
  generalize 2 ^ B - 1 = y at *
  unfold pref_Last.f
  rw [e0, Option.bind_some, if_pos rfl, h.bits, Option.bind_some, w, hM, Option.bind_some, pMask h hn, Option.bind_some, e1, Option.bind_some, e2, Option.bind_some, e3, Option.bind_some, e4, Option.bind_some]
theorem less_at (V : Int) {a b : Nat} : addr_Less.f V (H a) (L a) V (H b) (L b) = some (decide (a < b)) := by
  have h1 := Nat.div_add_mod a M64
  have h2 := Nat.div_add_mod b M64
  have l1 := L_lt a
  have l2 := L_lt b
  have hM : M64 = 18446744073709551616 := rfl
  unfold addr_Less.f quad_Less.f H L
  rw [if_neg (by omega), if_pos rfl]
  generalize a / M64 = x at *
  generalize b / M64 = y at *
  generalize a % M64 = z at *
  generalize b % M64 = w at *
  rw [hM] at h1 h2
  by_cases c1 : (x : Int) < (y : Int)
  · rw [if_pos c1, Option.bind_some, decide_eq_true (by omega)]
  · rw [if_neg c1]
    by_cases c2 : (x : Int) = (y : Int)
    · rw [if_pos c2, Option.bind_some]
      congr 1
      rw [Bool.eq_iff_iff, decide_eq_true_eq, decide_eq_true_eq]
      omega
    · rw [if_neg c2, Option.bind_some, decide_eq_false (by omega)]
theorem or_eq_some {α : Type} {f : Nat → Option α} (h : ∀ k, LeO (f k) (f (k + 1))) {k0 : Nat} {r : α} (h0 : f k0 = some r) : ∀ k, k0 ≤ k → f k = some r := by
  intro k hk
  induction hk with
  | refl => exact h0
  | step _ ih => exact h _ _ ih
theorem rMask {k n : Nat} (hk : 300 ≤ k) (h : n ≤ 128) : gleberef1_Mask.f k (n : Nat) = some (H (maskN n), L (maskN n)) :=
  or_eq_some (f := fun k => gleberef1_Mask.f k (n : Nat)) (fun k => gleberef1_Mask.mono _ k) (mask_at h).2.1 k hk
theorem bit0 (k : Nat) : quad_Bit.f (k + 1) 0 = some (0, 1) := by
  unfold quad_Bit.f
  rw [if_neg (by decide)]
  rfl
theorem okHL {V : Int} {B q : Nat} (h : Kd' V B) (hq : q < M128) : addr_Ok.f V (H q) (L q) = some (decide (q < 2 ^ B)) := by
  rcases h with ⟨rfl, rfl⟩ | ⟨rfl, rfl⟩
  · have h1 := Nat.div_add_mod q M64
    have l1 := L_lt q
    have hM : M64 = 18446744073709551616 := rfl
    unfold addr_Ok.f H L
    rw [if_neg (by decide), if_pos rfl]
    generalize q / M64 = x at *
    generalize q % M64 = z at *
    rw [hM] at h1
    by_cases c : (x : Int) = 0
    · rw [if_pos c]
      have e : ((z : Int) < 4294967296) ↔ q < 2 ^ 32 := by omega
      exact congrArg some (decide_eq_decide.2 e)
    · rw [if_neg c, decide_eq_false (by omega)]
  · unfold addr_Ok.f
    rw [if_pos rfl, decide_eq_true (show q < 2 ^ 128 by rw [← m128]; exact hq)]
theorem next_at {V : Int} {B q : Nat} (h : Kd' V B) (hq : q < 2 ^ B) : addr_Next.f V (H q) (L q) = if q + 1 < 2 ^ B then some (V, H (q + 1), L (q + 1), true) else some (0, 0, 0, false) := by
  have hq' := h.pow hq
  have h1 : inQ 0 1 = true := by decide
  have h2 : qn 0 1 = 1 := by decide
  unfold addr_Next.f quad_Add.f
  rw [bit0, Option.bind_some, if_pos (by rw [inHL hq', h1]; rfl), Option.bind_some, qnHL, h2]
  by_cases c : q + 1 < M128
  · have ea : addN q 1 = q + 1 := by unfold addN; rw [if_pos c]
    rw [if_pos (decide_eq_true c), okA h hq, Option.bind_some, if_pos rfl, ea]
    have e := okHL h c
    unfold H L at e
    rw [e, Option.bind_some]
    by_cases c2 : q + 1 < 2 ^ B
    · rw [if_pos (decide_eq_true c2), if_pos c2]; rfl
    · rw [if_neg (by simpa using c2), if_neg c2]
  · rw [if_neg (by simpa using c), if_neg (fun q2 => c (h.pow q2))]
theorem widest_l0 {V : Int} {B q hi : Nat} (h : Kd' V B) (hq : q < 2 ^ B) (hle : q ≤ hi) : ∀ (d n k : Nat), n + d = B → d + 2 ≤ k → q % 2 ^ d = 0 →
    ∃ m, n ≤ m ∧ m ≤ B ∧ q % 2 ^ (B - m) = 0 ∧ q + (2 ^ (B - m) - 1) ≤ hi ∧ (∀ i, n ≤ i → i < m → hi < q + (2 ^ (B - i) - 1)) ∧ rang_widest.l0 k (B : Int) (n : Int) V (H q) (L q) V (H hi) (L hi) = some (V, H q, L q, (m : Int)) := by
  intro d
  induction d with
  | zero =>
    intro n k hn hk _
    obtain ⟨k, rfl⟩ : ∃ m, k = m + 1 := ⟨k - 1, by omega⟩
    obtain rfl : n = B := by omega
    refine ⟨n, Nat.le_refl _, Nat.le_refl _, by rw [Nat.sub_self]; simp [Nat.mod_one], by rw [Nat.sub_self]; simpa using hle, fun i h1 h2 => by omega, ?_⟩
    rw [rang_widest.l0, if_neg (by omega)]
  | succ d ih =>
    intro n k hn hk ha
    obtain ⟨k, rfl⟩ : ∃ m, k = m + 2 := ⟨k - 2, by omega⟩
    have hB := h.le
    have hd : B - n = d + 1 := by omega
    have e1 := pOk (n := n) h hq (by omega)
    have e2 := pLast (n := n) h hq (by omega) (by rw [hd]; exact ha)
    rw [hd] at e1 e2
    rw [decide_eq_true ha] at e1
    have e3 := less_at V (a := hi) (b := q + (2 ^ (d + 1) - 1))
    have ha' : q % 2 ^ d = 0 := by
      have : 2 ^ (d + 1) = 2 ^ d * 2 := Nat.pow_succ _ _
      rw [this] at ha
      exact Nat.mod_eq_zero_of_dvd (Nat.dvd_trans (Nat.dvd_mul_right _ _) (Nat.dvd_of_mod_eq_zero ha))
    by_cases c : hi < q + (2 ^ (d + 1) - 1)
    · obtain ⟨m, m1, m2, m3, m4, m5, m6⟩ := ih (n + 1) (k + 1) (by omega) (by omega) ha'
      refine ⟨m, by omega, m2, m3, m4, fun i h1 h2 => ?_, ?_⟩
      · by_cases hi' : i = n
        · rw [hi', hd]; exact c
        · exact m5 i (by omega) h2
      · rw [rang_widest.l0, if_pos (by omega), e1, Option.bind_some, if_pos rfl, e2, Option.bind_some, e3, Option.bind_some, if_pos (decide_eq_true c), w64 (n := (n : Int) + 1) (by omega) (by omega)]
        exact m6
    · refine ⟨n, Nat.le_refl _, by omega, by rw [hd]; exact ha, by rw [hd]; omega, fun i h1 h2 => by omega, ?_⟩
      rw [rang_widest.l0, if_pos (by omega), e1, Option.bind_some, if_pos rfl, e2, Option.bind_some, e3, Option.bind_some, if_neg (by simpa using c)]
def lw (q : Nat) : Nat := if q % M64 = 0 then 64 + Lib.ctz 64 (q / M64) else Lib.ctz 64 (q % M64)
theorem ctz_le {x : Nat} (h : x < 18446744073709551616) : Lib.ctz 64 x ≤ 64 := by
  unfold Lib.ctz
  split
  · exact Nat.le_refl _
  · obtain ⟨m, _, h2⟩ := Lib.ctzFrom_spec 64 x (by omega) h
    omega
theorem ctz_iff {x j : Nat} (h : x < 18446744073709551616) (hj : j ≤ 64) : j ≤ Lib.ctz 64 x ↔ x % 2 ^ j = 0 := by
  unfold Lib.ctz
  split
  · rename_i h0
    rw [h0, Nat.zero_mod]
    exact ⟨fun _ => rfl, fun _ => hj⟩
  · obtain ⟨m, h1, h2⟩ := Lib.ctzFrom_spec 64 x (by omega) h
    generalize Lib.ctzFrom 64 x = t at *
    constructor
    · intro hle
      rw [h1]
      exact Nat.mod_eq_zero_of_dvd (Nat.dvd_trans (Nat.pow_dvd_pow 2 hle) (Nat.dvd_mul_right _ _))
    · intro hd
      rcases Nat.lt_or_ge t j with c | c
      · exfalso
        have d1 : 2 ^ (t + 1) ∣ x := Nat.dvd_trans (Nat.pow_dvd_pow 2 c) (Nat.dvd_of_mod_eq_zero hd)
        rw [h1, Nat.pow_succ] at d1
        have d2 : 2 ∣ 2 * m + 1 := Nat.dvd_of_mul_dvd_mul_left (Nat.pow_pos (by decide)) d1
        omega
      · exact c
theorem low_le {q : Nat} (hq : q < M128) : lw q ≤ 128 := by
  have h1 := ctz_le (H_lt hq)
  have h2 := ctz_le (L_lt q)
  unfold lw
  split <;> omega
theorem low_iff {q j : Nat} (hq : q < M128) (hj : j ≤ 128) : j ≤ lw q ↔ q % 2 ^ j = 0 := by
  have h1 := Nat.div_add_mod q M64
  unfold lw
  split
  · rename_i h0
    rw [h0, Nat.add_zero] at h1
    have hH := H_lt hq
    generalize q / M64 = x at *
    rw [m64] at h1
    rcases Nat.lt_or_ge j 65 with c | c
    · have : 2 ^ j ∣ q := by rw [← h1]; exact Nat.dvd_trans (Nat.pow_dvd_pow 2 (by omega)) (Nat.dvd_mul_right _ _)
      exact ⟨fun _ => Nat.mod_eq_zero_of_dvd this, fun _ => by omega⟩
    · obtain ⟨i, rfl⟩ : ∃ i, j = 64 + i := ⟨j - 64, by omega⟩
      have e := ctz_iff (j := i) hH (by omega)
      rw [← h1, Nat.pow_add, Nat.mul_mod_mul_left]
      rw [Nat.mul_eq_zero]
      constructor
      · intro hle; exact .inr (e.1 (by omega))
      · intro hz
        rcases hz with hz | hz
        · exact absurd hz (by decide)
        · have := e.2 hz; omega
  · rename_i h0
    have hL := L_lt q
    rcases Nat.lt_or_ge j 65 with c | c
    · rw [ctz_iff hL (by omega), m64, Nat.mod_mod_of_dvd _ (Nat.pow_dvd_pow 2 (by omega))]
    · constructor
      · intro hle
        have := ctz_le hL
        omega
      · intro hz
        exfalso
        apply h0
        rw [m64]
        exact Nat.mod_eq_zero_of_dvd (Nat.dvd_trans (Nat.pow_dvd_pow 2 (by omega)) (Nat.dvd_of_mod_eq_zero hz))
theorem low_of {q j : Nat} (hq : q < M128) (h : j ≤ lw q) : q % 2 ^ j = 0 := (low_iff hq (Nat.le_trans h (low_le hq))).1 h
theorem of_low {q j : Nat} (hq : q < M128) (h : q % 2 ^ j = 0) (hj : j ≤ 128) : j ≤ lw q := (low_iff hq hj).2 h
theorem low_at {q : Nat} (h : q < M128) : quad_Low.f (H q) (L q) = some ((lw q : Nat) : Int) := by
  have h1 := H_lt h
  have l1 := L_lt q
  unfold quad_Low.f lw bits_TrailingZeros64.f
  have t1 : (H q).toNat = q / M64 := by unfold H; exact Int.toNat_natCast _
  have t2 : (L q).toNat = q % M64 := by unfold L; exact Int.toNat_natCast _
  have c1 : 0 ≤ H q ∧ H q < 18446744073709551616 := ⟨Int.natCast_nonneg _, toI h1⟩
  have c2 : 0 ≤ L q ∧ L q < 18446744073709551616 := ⟨Int.natCast_nonneg _, toI l1⟩
  rw [if_pos c1, if_pos c2, t1, t2]
  have hc := ctz_le h1
  by_cases c : q % M64 = 0
  · have e : L q = 0 := by unfold L; rw [c]; rfl
    rw [if_pos e, if_pos c, Option.bind_some, w64 (by omega) (by omega)]
    exact congrArg some (by omega)
  · have e : ¬ L q = 0 := by unfold L; exact_mod_cast c
    rw [if_neg e, if_neg c, Option.bind_some]
theorem widest_at {V : Int} {B q hi : Nat} (h : Kd' V B) (hq : q < 2 ^ B) (hle : q ≤ hi) {k : Nat} (hk : B + 2 ≤ k) :
    ∃ m, m ≤ B ∧ q % 2 ^ (B - m) = 0 ∧ q + (2 ^ (B - m) - 1) ≤ hi ∧ (∀ i, i < m → q % 2 ^ (B - i) = 0 → hi < q + (2 ^ (B - i) - 1)) ∧ rang_widest.f k V (H q) (L q) V (H hi) (L hi) = some (V, H q, L q, (m : Int)) := by
  have hB := h.le
  have hl := low_le (h.pow hq)
  have hmin : mn ((lw q : Nat) : Int) (B : Int) = ((min (lw q) B : Nat) : Int) := by unfold mn; split <;> omega
  obtain ⟨m, m1, m2, m3, m4, m5, m6⟩ := widest_l0 h hq hle (min (lw q) B) (B - min (lw q) B) k (by omega) (by omega) (low_of (h.pow hq) (by omega))
  refine ⟨m, m2, m3, m4, fun i hi' ha => ?_, ?_⟩
  · have := of_low (h.pow hq) ha (by omega)
    exact m5 i (by omega) hi'
  · unfold rang_widest.f
    rw [h.bits, Option.bind_some, low_at (h.pow hq), Option.bind_some, hmin, w64 (by omega) (by omega), show (B : Int) - ((min (lw q) B : Nat) : Int) = ((B - min (lw q) B : Nat) : Int) by omega]
    exact m6
def mkP (V : Int) (q n : Nat) : S30 := ⟨⟨V, ⟨H q, L q⟩⟩, (n : Int)⟩
theorem rangOk_at {V : Int} {B q hi : Nat} (h : Kd' V B) (hhi : hi < 2 ^ B) (hle : q ≤ hi) : rang_Ok.f V (H q) (L q) V (H hi) (L hi) = some true := by
  unfold rang_Ok.f
  rw [okA h (Nat.lt_of_le_of_lt hle hhi), Option.bind_some, if_pos rfl, okA h hhi, Option.bind_some, if_pos rfl, if_pos rfl, less_at, Option.bind_some, decide_eq_false (by omega)]
  rfl
theorem fin_all : [32, 128].all (fun B => (List.range (B + 1)).all (fun j => decide (maskN (128 - j) &&& (M128 - 1 - maskN (128 - B)) = 2 ^ B - 2 ^ j ∧ (M128 - 1 - (2 ^ B - 2 ^ j)) &&& (M128 - 1 - maskN (128 - B)) = 2 ^ j - 1 ∧ 2 ^ B - 2 ^ j < M128 ∧ M128 - 1 - (2 ^ B - 2 ^ j) < M128 ∧ M128 - 1 - maskN (128 - B) < M128 ∧ 2 ^ j - 1 < M128))) = true := by decide +kernel
theorem all_fin {V : Int} {B j : Nat} (h : Kd' V B) (hj : j ≤ B) : maskN (128 - j) &&& (M128 - 1 - maskN (128 - B)) = 2 ^ B - 2 ^ j ∧ (M128 - 1 - (2 ^ B - 2 ^ j)) &&& (M128 - 1 - maskN (128 - B)) = 2 ^ j - 1 ∧ 2 ^ B - 2 ^ j < M128 ∧ M128 - 1 - (2 ^ B - 2 ^ j) < M128 ∧ M128 - 1 - maskN (128 - B) < M128 ∧ 2 ^ j - 1 < M128 := by
  have hB : B ∈ [32, 128] := by rcases h with ⟨_, rfl⟩ | ⟨_, rfl⟩ <;> simp
  exact of_decide_eq_true (fin_at (List.all_eq_true.1 fin_all B hB) j (by omega))
theorem and_high (a j m : Nat) : a &&& (2 ^ j * m) = 2 ^ j * ((a / 2 ^ j) &&& m) := by
  apply Nat.eq_of_testBit_eq
  intro i
  rw [Nat.testBit_and, Nat.testBit_two_pow_mul, Nat.testBit_two_pow_mul, Nat.testBit_and]
  by_cases h : i ≥ j
  · have : (a / 2 ^ j).testBit (i - j) = a.testBit i := by rw [Nat.testBit_div_two_pow]; congr 1; omega
    rw [this]
    simp [h]
  · simp [h]
theorem and_mask (a N j : Nat) (hj : j ≤ N) (ha : a < 2 ^ N) : a &&& (2 ^ N - 2 ^ j) = 2 ^ j * (a / 2 ^ j) := by
  have e : 2 ^ N - 2 ^ j = 2 ^ j * (2 ^ (N - j) - 1) := by
    rw [Nat.mul_sub, ← Nat.pow_add, Nat.mul_one]; congr 2; omega
  rw [e, and_high, Nat.and_two_pow_sub_one_eq_mod]
  congr 1
  refine Nat.mod_eq_of_lt (Nat.div_lt_of_lt_mul ?_)
  rw [← Nat.pow_add]
  rwa [show j + (N - j) = N by omega]
theorem rMaskB {V : Int} {B n k : Nat} (h : Kd' V B) (hn : n ≤ B) (hk : 300 ≤ k) : gleberef1_Mask.f k (wrap64 (wrap64 (128 - (B : Int)) + (n : Int))) = some (H (maskN (128 - (B - n))), L (maskN (128 - (B - n)))) := by
  have hB := h.le
  rw [w64 (n := 128 - (B : Int)) (by omega) (by omega), w64 (by omega) (by omega), show (128 - (B : Int) + (n : Int)) = ((128 - (B - n) : Nat) : Int) by omega]
  exact rMask hk (by omega)
theorem rMask0 {V : Int} {B k : Nat} (h : Kd' V B) (hk : 300 ≤ k) : gleberef1_Mask.f k (wrap64 (128 - (B : Int))) = some (H (maskN (128 - B)), L (maskN (128 - B))) := by
  have hB := h.le
  rw [w64 (n := 128 - (B : Int)) (by omega) (by omega), show (128 - (B : Int)) = ((128 - B : Nat) : Int) by omega]
  exact rMask hk (by omega)
theorem mask_lt {n : Nat} (h : n ≤ 128) : maskN n < M128 := (mask_at h).2.2.1
theorem rAll {V : Int} {B n : Nat} (h : Kd' V B) (hn : n ≤ B) : gleberef1_all.f V (n : Int) = some (H (2 ^ B - 2 ^ (B - n)), L (2 ^ B - 2 ^ (B - n))) := by
  have hB := h.le
  obtain ⟨f1, _, _, _, f5, _⟩ := all_fin h (j := B - n) (by omega)
  have e2 := rAnd (mask_lt (n := 128 - (B - n)) (by omega)) f5
  rw [f1] at e2
  unfold gleberef1_all.f
  rw [h.rbits, Option.bind_some, rMaskB h hn (Nat.le_refl 300), Option.bind_some, Option.bind_some, rMask0 h (Nat.le_refl 300), Option.bind_some, rNot (mask_lt (by omega)), Option.bind_some, e2, Option.bind_some]
theorem rOk_eq (V a b : Int) : gleberef1_Ok.f V a b = addr_Ok.f V a b := rfl
theorem HL_beq (a b : Nat) : (H a == H b && L a == L b) = decide (a = b) := by
  rw [Bool.eq_iff_iff, Bool.and_eq_true, beq_iff_eq, beq_iff_eq, decide_eq_true_eq]
  constructor
  · rintro ⟨x, y⟩; exact HL_inj x y
  · rintro rfl; exact ⟨rfl, rfl⟩
theorem rOkP {V : Int} {B q n : Nat} (h : Kd' V B) (hq : q < 2 ^ B) (hn : n ≤ B) (ha : q % 2 ^ (B - n) = 0) : gleberef1_OkPrefix.f V (H q) (L q) (n : Int) = some true := by
  obtain ⟨_, _, f3, _, _, _⟩ := all_fin h (j := B - n) (by omega)
  have e2 := rAnd (h.pow hq) f3
  rw [and_mask q B (B - n) (by omega) hq, Nat.mul_div_cancel' (Nat.dvd_of_mod_eq_zero ha)] at e2
  have e1 := rAll h hn
  generalize 2 ^ B - 2 ^ (B - n) = c at *
  unfold gleberef1_OkPrefix.f
  rw [rOk_eq, okA h hq, Option.bind_some, if_pos rfl, if_pos (by omega), h.rbits, Option.bind_some, if_pos (by omega), e1, Option.bind_some, e2, Option.bind_some, HL_beq, decide_eq_true rfl]
theorem rLast {V : Int} {B q n : Nat} (h : Kd' V B) (hq : q < 2 ^ B) (hn : n ≤ B) (ha : q % 2 ^ (B - n) = 0) :
    gleberef1_Last.f V (H q) (L q) (n : Int) = some (V, H (q + (2 ^ (B - n) - 1)), L (q + (2 ^ (B - n) - 1))) := by
  have hB := h.le
  obtain ⟨_, f2, f3, f4, f5, f6⟩ := all_fin h (j := B - n) (by omega)
  have e1 := rAll h hn
  have e2 := rNot f3
  have e3 := rAnd f4 f5
  rw [f2] at e3
  have e4 := or_HL (h.pow hq) f6
  rw [or_low _ _ ha] at e4
  have e5 := rNot (mask_lt (n := 128 - B) (by omega))
  have e0 := rOkP h hq hn ha
  generalize 2 ^ (B - n) - 1 = z at *
  generalize 2 ^ B - 2 ^ (B - n) = c at *
  unfold gleberef1_Last.f
  rw [e0, Option.bind_some, if_pos rfl, e1, Option.bind_some, e2, Option.bind_some, h.rbits, Option.bind_some, rMask0 h (Nat.le_refl 300), Option.bind_some, e5, Option.bind_some, e3, Option.bind_some]
  simp only
  rw [e4.1, e4.2]
theorem wrapu_pos (x : Int) : 0 ≤ IntKind.u64.wrap x := (wrap_within .u64 x).1
theorem addr_l0 (v : Int) : ∀ (d k : Nat) (h l : Int), d ≤ 8 → d < k → 0 ≤ h → h < 18446744073709551616 → 0 ≤ l → l < 18446744073709551616 →
    ∃ h' l', glebelaw2_Addr.l0 k v (8 - (d : Int)) h l = some (6, h', l') ∧ 0 ≤ h' ∧ h' < 18446744073709551616 ∧ 0 ≤ l' ∧ l' < 18446744073709551616 := by
  intro d
  induction d with
  | zero =>
    intro k h l _ hk h1 h2 h3 h4
    obtain ⟨k, rfl⟩ : ∃ m, k = m + 1 := ⟨k - 1, by omega⟩
    refine ⟨h, l, ?_, h1, h2, h3, h4⟩
    rw [glebelaw2_Addr.l0, if_neg (by omega)]
  | succ d ih =>
    intro k h l hd hk h1 h2 h3 h4
    obtain ⟨k, rfl⟩ : ∃ m, k = m + 1 := ⟨k - 1, by omega⟩
    have hx : ((8 : Int) - ((d + 1 : Nat) : Int)) < 8 := by omega
    have hw : wrap64 ((8 : Int) - ((d + 1 : Nat) : Int) + 1) = 8 - (d : Int) := by unfold wrap64; omega
    have b0 : ∀ op (x y : Int), 0 ≤ Go.bits op .u64 x y := fun op x y => bits_lo_u64 op x y
    have b1 : ∀ op (x y : Int), Go.bits op .u64 x y < 18446744073709551616 := fun op x y => by have := bits_hi_u64 op x y; omega
    rw [glebelaw2_Addr.l0, if_pos hx, if_pos (wrapu_pos _)]
    split
    · split
      · rw [if_pos (wrapu_pos _), hw]
        exact ih k _ l (by omega) (by omega) (b0 _ _ _) (b1 _ _ _) h3 h4
      · rw [if_pos (wrapu_pos _), hw]
        exact ih k h _ (by omega) (by omega) h1 h2 (b0 _ _ _) (b1 _ _ _)
    · rw [hw]
      exact ih k h l (by omega) (by omega) h1 h2 h3 h4
theorem and32_le (a : Int) (h0 : 0 ≤ a) (h1 : a < 18446744073709551616) : 0 ≤ Go.bits .and .u64 a 4294967295 ∧ Go.bits .and .u64 a 4294967295 ≤ 4294967295 := by
  obtain ⟨A, rfl⟩ := Int.eq_ofNat_of_zero_le h0
  rw [show (4294967295 : Int) = ((4294967295 : Nat) : Int) from rfl, Go.bits_and_u64_nat A 4294967295 (by omega) (by decide)]
  have : A &&& 4294967295 ≤ 4294967295 := Nat.and_le_right
  omega
theorem HL_of {h l : Int} (h0 : 0 ≤ h) (h1 : h < 18446744073709551616) (l0 : 0 ≤ l) (l1 : l < 18446744073709551616) : ∃ q, q < 2 ^ 128 ∧ H q = h ∧ L q = l := by
  obtain ⟨x, rfl⟩ := Int.eq_ofNat_of_zero_le h0
  obtain ⟨z, rfl⟩ := Int.eq_ofNat_of_zero_le l0
  have hM : M64 = 18446744073709551616 := rfl
  have d1 : (x * 18446744073709551616 + z) / 18446744073709551616 = x := by omega
  have d2 : (x * 18446744073709551616 + z) % 18446744073709551616 = z := by omega
  refine ⟨x * 18446744073709551616 + z, by omega, ?_, ?_⟩
  · unfold H; rw [hM, d1]
  · unfold L; rw [hM, d2]
theorem addr_at {k : Nat} (hk : 9 ≤ k) (v a b : Int) (ha : 0 ≤ a) (ha2 : a < 18446744073709551616) (hb : 0 ≤ b) (hb2 : b < 18446744073709551616) : ∃ V B q, Kd' V B ∧ q < 2 ^ B ∧ glebelaw2_Addr.f k v a b = some (V, H q, L q) := by
  unfold glebelaw2_Addr.f
  split
  · rw [if_pos (wrapu_pos _)]
    obtain ⟨h0, h1⟩ := and32_le a ha ha2
    have hr : 0 ≤ shr .u64 (Go.bits .and .u64 a 4294967295) (IntKind.u64.wrap (wrap64 (Go.bits .and .i64 (v / 2) 3 * 8))) ∧ shr .u64 (Go.bits .and .u64 a 4294967295) (IntKind.u64.wrap (wrap64 (Go.bits .and .i64 (v / 2) 3 * 8))) ≤ 4294967295 := by
      unfold shr
      have hp : (0 : Int) < 2 ^ min (IntKind.u64.wrap (wrap64 (Go.bits .and .i64 (v / 2) 3 * 8))).toNat IntKind.u64.bits := Int.pow_pos (by decide)
      refine ⟨Int.ediv_nonneg h0 (by omega), ?_⟩
      have := Int.ediv_le_self (2 ^ min (IntKind.u64.wrap (wrap64 (Go.bits .and .i64 (v / 2) 3 * 8))).toNat IntKind.u64.bits) h0
      omega
    obtain ⟨Q, hQ⟩ := Int.eq_ofNat_of_zero_le hr.1
    rw [hQ] at hr ⊢
    have d1 : Q / M64 = 0 := Nat.div_eq_of_lt (by rw [m64]; omega)
    have d2 : Q % M64 = Q := Nat.mod_eq_of_lt (by rw [m64]; omega)
    refine ⟨4, 32, Q, .inl ⟨rfl, rfl⟩, by omega, ?_⟩
    unfold H L
    rw [d1, d2]
    rfl
  · obtain ⟨h', l', e, q0, q1, q2, q3⟩ := addr_l0 v 8 k a b (by omega) (by omega) ha ha2 hb hb2
    obtain ⟨Q, hQ, e1, e2⟩ := HL_of q0 q1 q2 q3
    refine ⟨6, 128, Q, .inr ⟨rfl, rfl⟩, hQ, ?_⟩
    rw [e1, e2]
    exact e
theorem and_cut {V : Int} {B q m : Nat} (h : Kd' V B) (hq : q < 2 ^ B) : gleberef1_And.f (H q) (L q) (H (2 ^ B - 2 ^ (B - m))) (L (2 ^ B - 2 ^ (B - m))) = some (H (2 ^ (B - m) * (q / 2 ^ (B - m))), L (2 ^ (B - m) * (q / 2 ^ (B - m)))) := by
  obtain ⟨_, _, f3, _, _, _⟩ := all_fin h (j := B - m) (by omega)
  have e3 := rAnd (h.pow hq) f3
  rw [and_mask q B (B - m) (by omega) hq] at e3
  exact e3
end Go.Proofs.YtfnacgojmdbjmaaGreatDoor.PRD
end
