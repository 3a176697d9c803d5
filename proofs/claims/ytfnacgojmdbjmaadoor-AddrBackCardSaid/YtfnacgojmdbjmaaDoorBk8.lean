/- Texts of a proof, joined: words of the print (those that are named here) and printed functions. -/
import Derived.Test.YtfnacgojmdbjmaaDoorBk7
set_option linter.unusedSimpArgs false
set_option linter.unusedVariables false

section
/- Printed by a program of this claim: Go functions as plain Lean functions, and that their calls come to them. -/
namespace Go.Proofs.YtfnacgojmdbjmaaDoor.PPH
open Go.RowKit Go.Proofs.YtfnacgojmdbjmaaDoorW.PrintWords Go.Proofs.YtfnacgojmdbjmaaDoorW.PrintLast Go.Proofs.YtfnacgojmdbjmaaDoorW.PrintMore
attribute [local go_sem] max2_int min2_int max_two min_two max_three min_three max_four min_four
open Go.Det (inQ M64 M128 qn addN highN clampN)
set_option linter.unusedVariables false
set_option linter.unusedSimpArgs false
def strings_Contains.f (a0 : ByteArray) (a1 : ByteArray) : Option (Bool) := if a0.size < 4294967281 then some (Lib.contains a0.data.toList a1.data.toList) else none
theorem strings_Contains.calls (a0 : ByteArray) (a1 : ByteArray) (r : Bool) (w : World) (hG : GoodW w) (h : strings_Contains.f a0 a1 = some r) :
    Calls Tryd.prog 51 #[.string a0, .string a1] w fun e w' => e = .returned (.bool r) ∧ Drawn0 w w' := st_contains hG h
def strings_Split.f (a0 : ByteArray) (a1 : ByteArray) : Option (List ByteArray) := if a0.size < 4294967281 ∧ 1 ≤ a1.size then some (Lib.splitB a1 0 (Lib.countB a0 a1) a0) else none
theorem strings_Split.calls (a0 : ByteArray) (a1 : ByteArray) (r : List ByteArray) (w : World) (hG : GoodW w) (h : strings_Split.f a0 a1 = some r) :
    Calls Tryd.prog 76 #[.string a0, .string a1] w fun e w' => ∃ v0_ : Value, e = .returned (v0_) ∧ Kd.R Kd.string 9 w' w.heap.size (fun _ => True) v0_ r ∧ Below w.heap.size w w' := st_split hG h
def date_Num.f (a0 : ByteArray) (a1 : Int) : Option (Int × Bool) := numF a0 a1
theorem date_Num.calls (a0 : ByteArray) (a1 : Int) (r1 : Int) (r2 : Bool) (w : World) (hG : GoodW w) (h : date_Num.f a0 a1 = some (r1, r2)) :
    Calls Tryd.prog 61 #[.string a0, .int .u64 a1] w fun e w' => e = .returned (.tuple #[.int .u64 r1, .bool r2]) ∧ Below w.heap.size w w' := by exact st_num hG h
def addr_four.l0 : Nat → List ByteArray → Int → List ByteArray → Int → Int → Option (Int × Bool)
  | 0, _, _, _, _, _ => none
  | k + 1, x4, x5, x12, x13, x14 => if x14 < x13 then (if 0 ≤ x14 then (if x14 < (x12.length : Int) then ((date_Num.f (rdOf ByteArray.empty x12 x14) 255).bind fun bt107 => (if bt107.2 = true then (addr_four.l0 k x4 (Go.bits .or .u64 (IntKind.u64.wrap (x5 * 256)) (Go.bits .and .u64 bt107.1 255)) x12 x13 (wrap64 (x14 + 1))) else (some (0, false)))) else (none)) else (none)) else (some (x5, ((x4.length : Int) == 4)))
def addr_four.f (k : Nat) (a0 : ByteArray) : Option (Int × Bool) := (strings_Split.f a0 (⟨#[46]⟩ : ByteArray)).bind fun t103 => (addr_four.l0 k t103 0 t103 (t103.length : Int) 0)
set_option maxHeartbeats 8000000 in
set_option maxRecDepth 100000 in
theorem addr_four.calls (k : Nat) (a0 : ByteArray) (r1 : Int) (r2 : Bool) (w : World) (hG : GoodW w) (h : addr_four.f k a0 = some (r1, r2)) :
    Calls Tryd.prog 53 #[.string a0] w fun e w' => e = .returned (.tuple #[.int .u64 r1, .bool r2]) ∧ Below w.heap.size w w' := by
  have HB := Aside0.mk (Below.refl w.heap.size w)
  have H : ((strings_Split.f a0 (⟨#[46]⟩ : ByteArray)).bind fun t103 => (addr_four.l0 k t103 0 t103 (t103.length : Int) 0)) = some (r1, r2) := h
  clear h
  replace H := Option.bind_eq_some_iff.mp H
  obtain ⟨t103, A20, H⟩ := H
  replace H : (addr_four.l0 k t103 0 t103 (t103.length : Int) 0) = some (r1, r2) := H
  have A2 := Aside0.mk A20
  clear A20
  have H' := Aside0.mk H
  clear H
  go_enter Tryd.func53, Tryd.ntmps53
  go_wp2_with (first | ((with_reducible refine gate_callee (f := 76) rfl ?_); refine goesL_ (some 11) rfl rfl Tryd.func76 (by kernel_rfl) rfl #[.string a0, .string (⟨#[46]⟩ : ByteArray)] rfl (by (try simp only [List.map_toArray, List.map_cons, List.map_nil]); first | done | rfl | (simp only [List.length_drop, List.length_take]; rfl)) ?_; (with_reducible refine (strings_Split.calls a0 (⟨#[46]⟩ : ByteArray) t103 _ ?side1 A2.out).mono ?_); (case side1 => first | exact hG | exact GoodW.below hG (by repeat (first | (with_reducible first | exact HB.out | apply below_alloc | apply pw_below_drewN | apply below_drew1) | exact HB.out)) | (repeat (first | exact hG | apply GoodW.drewN | apply GoodW.drew))); rintro e w3 ⟨v104, rfl, ho0, hb⟩; refine ⟨_, rfl, ?_⟩; have n0_ := Aside0.mk (Kd.R_lower ho0 (below_size (by repeat (first | (with_reducible first | exact HB.out | apply below_alloc | apply pw_below_drewN | apply below_drew1) | exact HB.out)))); have n1_ := Aside0.mk (below_step (by repeat (first | (with_reducible first | exact HB.out | apply below_alloc | apply pw_below_drewN | apply below_drew1) | exact HB.out)) hb); clear HB; have HO105 := n0_; have HB := n1_; clear n0_ n1_; (try clear hb); (try clear hb2); (try clear hk); (try clear hi); (try clear ho0); obtain ⟨Ao4, co4, eo4⟩ := Kd.R_slice HO105.out; subst eo4))
  go_loopg [5, 14] k (fun kq v5 v14 w' => ∃ (x5_1 : Int) (x14_1 : Int), v5 = .int .u64 x5_1 ∧ v14 = .int .i64 x14_1 ∧ Aside0 (addr_four.l0 kq t103 x5_1 t103 (t103.length : Int) x14_1 = some (r1, r2)) ∧ Aside0 (kq ≤ k) ∧ Aside0 (Kd.R Kd.string 9 w' w.heap.size (fun _ => True) (.slice Ao4 t103.length co4) t103) ∧ Aside0 (Kd.R Kd.string 9 w' w.heap.size (fun _ => True) (.slice Ao4 t103.length co4) t103) ∧ Aside0 (Below w.heap.size w w'))
  case atStart => exact ⟨(0), (0), (by first | rfl | (simp; done) | (simp [*]; done)), (by first | rfl | (simp; done) | (simp [*]; done)), H', ⟨Nat.le_refl _⟩, ⟨by (with_reducible repeat (first | apply Kd.R_alloc | apply Kd.R_drewN | apply Kd.R_drew)); exact HO105.out⟩, ⟨by (with_reducible repeat (first | apply Kd.R_alloc | apply Kd.R_drewN | apply Kd.R_drew)); exact HO105.out⟩, ⟨by repeat (first | (with_reducible first | exact HB.out | apply below_alloc | apply pw_below_drewN | apply below_drew1) | exact HB.out)⟩⟩
  case round =>
    clear H'
    try clear p2
    obtain ⟨x5_1, x14_1, rfl, rfl, HA, HK1, HO_4, HO_12, HB⟩ := hrel
    cases gk with
    | zero => exact absurd HA.out (by simp [addr_four.l0])
    | succ k1 =>
      have H := HA.out
      clear HA
      simp only [addr_four.l0] at H
      by_cases c5 : x14_1 < (t103.length : Int)
      · rw [if_pos c5] at H
        have c5b0 : decide (x14_1 < (t103.length : Int)) = true := decide_eq_true c5
        clear c5
        by_cases c6 : 0 ≤ x14_1
        · rw [if_pos c6] at H
          have c6b0 : decide (0 ≤ x14_1) = true := decide_eq_true c6
          clear c6
          by_cases c7 : x14_1 < (t103.length : Int)
          · rw [if_pos c7] at H
            have c7b0 : decide (x14_1 < (t103.length : Int)) = true := decide_eq_true c7
            clear c7
            replace H := Option.bind_eq_some_iff.mp H
            obtain ⟨⟨t107, t108⟩, A80, H⟩ := H
            replace H : (if t108 = true then (addr_four.l0 k1 t103 (Go.bits .or .u64 (IntKind.u64.wrap (x5_1 * 256)) (Go.bits .and .u64 t107 255)) t103 (t103.length : Int) (wrap64 (x14_1 + 1))) else (some (0, false))) = some (r1, r2) := H
            have A8 := Aside0.mk A80
            clear A80
            by_cases c9 : t108 = true
            · subst c9
              have H1 : (addr_four.l0 k1 t103 (Go.bits .or .u64 (IntKind.u64.wrap (x5_1 * 256)) (Go.bits .and .u64 t107 255)) t103 (t103.length : Int) (wrap64 (x14_1 + 1))) = some (r1, r2) := by rw [if_pos rfl] at H; exact H
              clear H
              have H := H1
              clear H1
              have H' := Aside0.mk H
              clear H
              have p106 : 0 ≤ (x14_1 : Int) := of_decide_eq_true (by first | (with_reducible assumption) | assumption)
              have q106 : x14_1 < (t103.length : Int) := of_decide_eq_true (by first | (with_reducible assumption) | assumption)
              obtain ⟨ad106, e106, hx106_0⟩ := Kd.at_string (Kd.R_reads' HO_12.out).2.2 x14_1 p106 q106
              cases e106
              replace p106 := eq_true p106
              replace q106 := eq_true q106
              go_wp2_with (first | ((with_reducible refine gate_callee (f := 61) rfl ?_); refine goesL_ (some 20) rfl rfl Tryd.func61 (by kernel_rfl) rfl #[.string (rdOf ByteArray.empty t103 x14_1), .int .u64 255] rfl (by (try simp only [List.map_toArray, List.map_cons, List.map_nil]); first | done | rfl | (simp only [List.length_drop, List.length_take]; rfl)) ?_; (with_reducible refine (date_Num.calls (rdOf ByteArray.empty t103 x14_1) 255 t107 true _ ?side1 A8.out).mono ?_); (case side1 => first | exact hG | exact GoodW.below hG (by repeat (first | (with_reducible first | exact HB.out | apply below_alloc | apply pw_below_drewN | apply below_drew1) | exact HB.out)) | (repeat (first | exact hG | apply GoodW.drewN | apply GoodW.drew))); rintro e w10 ⟨rfl, hb⟩; refine ⟨_, rfl, ?_⟩; have n0_ := Aside0.mk (Kd.R_below (by (with_reducible repeat (first | apply Kd.R_alloc | apply Kd.R_drewN | apply Kd.R_drew)); exact HO_4.out) hb); have n1_ := Aside0.mk (Kd.R_below (by (with_reducible repeat (first | apply Kd.R_alloc | apply Kd.R_drewN | apply Kd.R_drew)); exact HO_12.out) hb); have n2_ := Aside0.mk (below_step (by repeat (first | (with_reducible first | exact HB.out | apply below_alloc | apply pw_below_drewN | apply below_drew1) | exact HB.out)) hb); clear HO_4; clear HO_12; clear HB; have HO_4 := n0_; have HO_12 := n1_; have HB := n2_; clear n0_ n1_ n2_; (try clear hb); (try clear hb2); (try clear hk); (try clear hi)))
              go_roundg k1
              case measure => have := HK1.out; omega
              case rel => exact ⟨(Go.bits .or .u64 (IntKind.u64.wrap (x5_1 * 256)) (Go.bits .and .u64 t107 255)), (wrap64 (x14_1 + 1)), (by first | rfl | (simp; done) | (simp [*]; done)), (by first | rfl | (simp; done) | (simp [*]; done)), H', ⟨by have := HK1.out; omega⟩, ⟨by (with_reducible repeat (first | apply Kd.R_alloc | apply Kd.R_drewN | apply Kd.R_drew)); exact HO_4.out⟩, ⟨by (with_reducible repeat (first | apply Kd.R_alloc | apply Kd.R_drewN | apply Kd.R_drew)); exact HO_12.out⟩, ⟨by repeat (first | (with_reducible first | exact HB.out | apply below_alloc | apply pw_below_drewN | apply below_drew1) | exact HB.out)⟩⟩
            · replace c9 := Bool.eq_false_iff.mpr c9
              subst c9
              have H1 : (some (0, false)) = some (r1, r2) := by rw [if_neg (show ¬ (false = true) by decide)] at H; exact H
              clear H
              have H := H1
              clear H1
              simp only [Option.some.injEq, Prod.mk.injEq] at H
              obtain ⟨rfl, rfl⟩ := H
              have p106 : 0 ≤ (x14_1 : Int) := of_decide_eq_true (by first | (with_reducible assumption) | assumption)
              have q106 : x14_1 < (t103.length : Int) := of_decide_eq_true (by first | (with_reducible assumption) | assumption)
              obtain ⟨ad106, e106, hx106_0⟩ := Kd.at_string (Kd.R_reads' HO_12.out).2.2 x14_1 p106 q106
              cases e106
              replace p106 := eq_true p106
              replace q106 := eq_true q106
              go_wp2_with (first | ((with_reducible refine gate_callee (f := 61) rfl ?_); refine goesL_ (some 20) rfl rfl Tryd.func61 (by kernel_rfl) rfl #[.string (rdOf ByteArray.empty t103 x14_1), .int .u64 255] rfl (by (try simp only [List.map_toArray, List.map_cons, List.map_nil]); first | done | rfl | (simp only [List.length_drop, List.length_take]; rfl)) ?_; (with_reducible refine (date_Num.calls (rdOf ByteArray.empty t103 x14_1) 255 t107 false _ ?side1 A8.out).mono ?_); (case side1 => first | exact hG | exact GoodW.below hG (by repeat (first | (with_reducible first | exact HB.out | apply below_alloc | apply pw_below_drewN | apply below_drew1) | exact HB.out)) | (repeat (first | exact hG | apply GoodW.drewN | apply GoodW.drew))); rintro e w11 ⟨rfl, hb⟩; refine ⟨_, rfl, ?_⟩; have n0_ := Aside0.mk (Kd.R_below (by (with_reducible repeat (first | apply Kd.R_alloc | apply Kd.R_drewN | apply Kd.R_drew)); exact HO_4.out) hb); have n1_ := Aside0.mk (Kd.R_below (by (with_reducible repeat (first | apply Kd.R_alloc | apply Kd.R_drewN | apply Kd.R_drew)); exact HO_12.out) hb); have n2_ := Aside0.mk (below_step (by repeat (first | (with_reducible first | exact HB.out | apply below_alloc | apply pw_below_drewN | apply below_drew1) | exact HB.out)) hb); clear HO_4; clear HO_12; clear HB; have HO_4 := n0_; have HO_12 := n1_; have HB := n2_; clear n0_ n1_ n2_; (try clear hb); (try clear hb2); (try clear hk); (try clear hi)))
              go_ret2
              exact ⟨by first | rfl | (simp [errW_none, errW_some] <;> rfl) | (simp [*, errW_none, errW_some] <;> rfl), by repeat (first | (with_reducible first | exact HB.out | apply below_alloc | apply pw_below_drewN | apply below_drew1) | exact HB.out)⟩
          · rw [if_neg c7] at H
            exact absurd H (by simp)
        · rw [if_neg c6] at H
          exact absurd H (by simp)
      · rw [if_neg c5] at H
        have c5b0 : decide (x14_1 < (t103.length : Int)) = false := decide_eq_false c5
        clear c5
        simp only [Option.some.injEq, Prod.mk.injEq] at H
        obtain ⟨rfl, rfl⟩ := H
        go_wp2
        go_ret2
        exact ⟨by first | rfl | (simp [errW_none, errW_some] <;> rfl) | (simp [*, errW_none, errW_some] <;> rfl), by repeat (first | (with_reducible first | exact HB.out | apply below_alloc | apply pw_below_drewN | apply below_drew1) | exact HB.out)⟩
def addr_hex.f (a0 : ByteArray) : Option (Int × Bool) := hexF a0
theorem addr_hex.calls (a0 : ByteArray) (r1 : Int) (r2 : Bool) (w : World) (hG : GoodW w) (h : addr_hex.f a0 = some (r1, r2)) :
    Calls Tryd.prog 83 #[.string a0] w fun e w' => e = .returned (.tuple #[.int .u64 r1, .bool r2]) ∧ Below w.heap.size w w' := by exact st_hex hG h
mutual
def addr_row.l0 : Nat → Bool → List Int → List ByteArray → List ByteArray → Int → Int → Option (List Int × Bool)
  | 0, _, _, _, _, _, _ => none
  | k + 1, x1, x6, x7, x18, x19, x20 => if x20 < x19 then (if 0 ≤ x20 then (if x20 < (x18.length : Int) then (if x1 = true then (if x20 = (wrap64 ((x7.length : Int) - 1)) then ((strings_Contains.f (rdOf ByteArray.empty x18 x20) (⟨#[46]⟩ : ByteArray)).bind fun t113 => (addr_row.j1 k x1 x6 x7 (rdOf ByteArray.empty x18 x20) x18 x19 x20 t113)) else (addr_row.j1 k x1 x6 x7 (rdOf ByteArray.empty x18 x20) x18 x19 x20 false)) else (addr_row.j1 k x1 x6 x7 (rdOf ByteArray.empty x18 x20) x18 x19 x20 false)) else (none)) else (none)) else (some (x6, true))
def addr_row.j1 : Nat → Bool → List Int → List ByteArray → ByteArray → List ByteArray → Int → Int → Bool → Option (List Int × Bool)
  | 0, _, _, _, _, _, _, _, _ => none
  | k + 1, x1, x6, x7, x9, x18, x19, x20, x36 => if x36 = true then ((addr_four.f k x9).bind fun bt114 => ((some (([bt114.1 / 65536, Go.bits .and .u64 bt114.1 65535] : List Int) : List Int)).bind fun y116 => (if x6.length + y116.length < 17592186044416 then (some ((x6 ++ y116), bt114.2)) else (none)))) else ((addr_hex.f x9).bind fun bt122 => (if bt122.2 = true then (if x6.length < 17592186044416 then (addr_row.l0 k x1 (x6 ++ [bt122.1]) x7 x18 x19 (wrap64 (x20 + 1))) else (none)) else (some (([] : List Int), false))))
end
def addr_row.f (k : Nat) (a0 : ByteArray) (a1 : Bool) : Option (List Int × Bool) := if a0.toList = ([] : List UInt8) then (some (([] : List Int), true)) else ((strings_Split.f a0 (⟨#[58]⟩ : ByteArray)).bind fun t109 => (addr_row.l0 k a1 ([] : List Int) t109 t109 (t109.length : Int) 0))
set_option maxHeartbeats 8000000 in
set_option maxRecDepth 100000 in
theorem addr_row.calls (k : Nat) (a0 : ByteArray) (a1 : Bool) (r1 : List Int) (r2 : Bool) (w : World) (hG : GoodW w) (h : addr_row.f k a0 a1 = some (r1, r2)) :
    Calls Tryd.prog 75 #[.string a0, .bool a1] w fun e w' => ∃ v0_ : Value, e = .returned (.tuple #[v0_, .bool r2]) ∧ Kd.R (Kd.int .u64) 27 w' w.heap.size (fun _ => True) v0_ r1 ∧ Below w.heap.size w w' := by
  have HB := Aside0.mk (Below.refl w.heap.size w)
  have H : (if a0.toList = ([] : List UInt8) then (some (([] : List Int), true)) else ((strings_Split.f a0 (⟨#[58]⟩ : ByteArray)).bind fun t109 => (addr_row.l0 k a1 ([] : List Int) t109 t109 (t109.length : Int) 0))) = some (r1, r2) := h
  clear h
  by_cases c3 : a0.toList = ([] : List UInt8)
  · rw [if_pos c3] at H
    have c3b0 : (a0.toList == ([] : List UInt8)) = true := beq_iff_eq.mpr c3
    have c3b1 : (a0.toList != ([] : List UInt8)) = false := bne_eq_false_iff_eq.mpr c3
    clear c3
    simp only [Option.some.injEq, Prod.mk.injEq] at H
    obtain ⟨rfl, rfl⟩ := H
    go_enter Tryd.func75, Tryd.ntmps75
    go_wp2
    go_ret2
    exact ⟨_, by first | rfl | (simp [errW_none, errW_some] <;> rfl) | (simp [*, errW_none, errW_some] <;> rfl), by first | exact Kd.R_nil _ _ _ _ _ | exact Kd.N_nil _ _ _ _ _ | exact Kd.V_nil _ _ _ _ _ | exact Kd.Q_nil _ _ _ _ _ | exact Kd.S_nil _ _ _ _ _, by repeat (first | (with_reducible first | exact HB.out | apply below_alloc | apply pw_below_drewN | apply below_drew1) | exact HB.out)⟩
  · rw [if_neg c3] at H
    have c3b0 : (a0.toList == ([] : List UInt8)) = false := beq_eq_false_iff_ne.mpr c3
    have c3b1 : (a0.toList != ([] : List UInt8)) = true := bne_iff_ne.mpr c3
    replace H := Option.bind_eq_some_iff.mp H
    obtain ⟨t109, A40, H⟩ := H
    replace H : (addr_row.l0 k a1 ([] : List Int) t109 t109 (t109.length : Int) 0) = some (r1, r2) := H
    have A4 := Aside0.mk A40
    clear A40
    have H' := Aside0.mk H
    clear H
    go_enter Tryd.func75, Tryd.ntmps75
    go_wp2_with (first | ((with_reducible refine gate_callee (f := 76) rfl ?_); refine goesL_ (some 17) rfl rfl Tryd.func76 (by kernel_rfl) rfl #[.string a0, .string (⟨#[58]⟩ : ByteArray)] rfl (by (try simp only [List.map_toArray, List.map_cons, List.map_nil]); first | done | rfl | (simp only [List.length_drop, List.length_take]; rfl)) ?_; (with_reducible refine (strings_Split.calls a0 (⟨#[58]⟩ : ByteArray) t109 _ ?side1 A4.out).mono ?_); (case side1 => first | exact hG | exact GoodW.below hG (by repeat (first | (with_reducible first | exact HB.out | apply below_alloc | apply pw_below_drewN | apply below_drew1) | exact HB.out)) | (repeat (first | exact hG | apply GoodW.drewN | apply GoodW.drew))); rintro e w5 ⟨v110, rfl, ho0, hb⟩; refine ⟨_, rfl, ?_⟩; have n0_ := Aside0.mk (Kd.R_lower ho0 (below_size (by repeat (first | (with_reducible first | exact HB.out | apply below_alloc | apply pw_below_drewN | apply below_drew1) | exact HB.out)))); have n1_ := Aside0.mk (below_step (by repeat (first | (with_reducible first | exact HB.out | apply below_alloc | apply pw_below_drewN | apply below_drew1) | exact HB.out)) hb); clear HB; have HO111 := n0_; have HB := n1_; clear n0_ n1_; (try clear hb); (try clear hb2); (try clear hk); (try clear hi); (try clear ho0); obtain ⟨Ao6, co6, eo6⟩ := Kd.R_slice HO111.out; subst eo6))
    go_loopg [6, 20] k (fun kq v6 v20 w' => ∃ (x6_1 : List Int) (x20_1 : Int), v20 = .int .i64 x20_1 ∧ Aside0 (addr_row.l0 kq a1 x6_1 t109 t109 (t109.length : Int) x20_1 = some (r1, r2)) ∧ Aside0 (kq ≤ k) ∧ Aside0 (Kd.R (Kd.int .u64) 27 w' w.heap.size (fun _ => True) v6 x6_1) ∧ Aside0 (Kd.R Kd.string 9 w' w.heap.size (fun _ => True) (.slice Ao6 t109.length co6) t109) ∧ Aside0 (Kd.R Kd.string 9 w' w.heap.size (fun _ => True) (.slice Ao6 t109.length co6) t109) ∧ Aside0 (Below w.heap.size w w'))
    case atStart => exact ⟨(([] : List Int)), (0), (by first | rfl | (simp; done) | (simp [*]; done)), H', ⟨Nat.le_refl _⟩, ⟨by first | exact Kd.R_nil _ _ _ _ _ | exact Kd.N_nil _ _ _ _ _ | exact Kd.V_nil _ _ _ _ _ | exact Kd.Q_nil _ _ _ _ _ | exact Kd.S_nil _ _ _ _ _⟩, ⟨by (with_reducible repeat (first | apply Kd.R_alloc | apply Kd.R_drewN | apply Kd.R_drew)); exact HO111.out⟩, ⟨by (with_reducible repeat (first | apply Kd.R_alloc | apply Kd.R_drewN | apply Kd.R_drew)); exact HO111.out⟩, ⟨by repeat (first | (with_reducible first | exact HB.out | apply below_alloc | apply pw_below_drewN | apply below_drew1) | exact HB.out)⟩⟩
    case round =>
      clear H'
      try clear p2
      try clear c3
      try clear c3b0
      try clear c3b1
      obtain ⟨x6_1, x20_1, rfl, HA, HK1, HO_6, HO_7, HO_18, HB⟩ := hrel
      cases gk with
      | zero => exact absurd HA.out (by simp [addr_row.l0])
      | succ k1 =>
        have H := HA.out
        clear HA
        simp only [addr_row.l0] at H
        by_cases c7 : x20_1 < (t109.length : Int)
        · rw [if_pos c7] at H
          have c7b0 : decide (x20_1 < (t109.length : Int)) = true := decide_eq_true c7
          clear c7
          by_cases c8 : 0 ≤ x20_1
          · rw [if_pos c8] at H
            have c8b0 : decide (0 ≤ x20_1) = true := decide_eq_true c8
            clear c8
            by_cases c9 : x20_1 < (t109.length : Int)
            · rw [if_pos c9] at H
              have c9b0 : decide (x20_1 < (t109.length : Int)) = true := decide_eq_true c9
              clear c9
              have HC10 := Aside0.mk H
              clear H
              have p112 : 0 ≤ (x20_1 : Int) := of_decide_eq_true (by first | (with_reducible assumption) | assumption)
              have q112 : x20_1 < (t109.length : Int) := of_decide_eq_true (by first | (with_reducible assumption) | assumption)
              obtain ⟨ad112, e112, hx112_0⟩ := Kd.at_string (Kd.R_reads' HO_18.out).2.2 x20_1 p112 q112
              cases e112
              replace p112 := eq_true p112
              replace q112 := eq_true q112
              go_upto_region 8 with (fail)
              go_cut [36] (fun v36 wc => ∃ (kq : Nat) (x36_9 : Bool), v36 = .bool x36_9 ∧ Aside0 (addr_row.j1 kq a1 x6_1 t109 (rdOf ByteArray.empty t109 x20_1) t109 (t109.length : Int) x20_1 x36_9 = some (r1, r2)) ∧ Aside0 (kq ≤ k1) ∧ Aside0 (Kd.R (Kd.int .u64) 27 wc w.heap.size (fun _ => True) u6 x6_1) ∧ Aside0 (Kd.R Kd.string 9 wc w.heap.size (fun _ => True) (.slice (some ad112) t109.length co6) t109) ∧ Aside0 (Kd.R Kd.string 9 wc w.heap.size (fun _ => True) (.slice (some ad112) t109.length co6) t109) ∧ Aside0 (Below w.heap.size w wc))
              case first =>
                have H := HC10.out
                clear HC10
                by_cases c11 : a1 = true
                · subst c11
                  have H1 : (if x20_1 = (wrap64 ((t109.length : Int) - 1)) then ((strings_Contains.f (rdOf ByteArray.empty t109 x20_1) (⟨#[46]⟩ : ByteArray)).bind fun t113 => (addr_row.j1 k1 true x6_1 t109 (rdOf ByteArray.empty t109 x20_1) t109 (t109.length : Int) x20_1 t113)) else (addr_row.j1 k1 true x6_1 t109 (rdOf ByteArray.empty t109 x20_1) t109 (t109.length : Int) x20_1 false)) = some (r1, r2) := by rw [if_pos rfl] at H; exact H
                  clear H
                  have H := H1
                  clear H1
                  by_cases c12 : x20_1 = (wrap64 ((t109.length : Int) - 1))
                  · rw [if_pos c12] at H
                    have c12b0 : (x20_1 == (wrap64 ((t109.length : Int) - 1))) = true := beq_iff_eq.mpr c12
                    have c12b1 : (x20_1 != (wrap64 ((t109.length : Int) - 1))) = false := bne_eq_false_iff_eq.mpr c12
                    clear c12
                    (first | rw [c12b0] | (simp only [i64_w, i32_w]; rw [c12b0]) | skip)
                    replace H := Option.bind_eq_some_iff.mp H
                    obtain ⟨t113, A130, H⟩ := H
                    replace H : (addr_row.j1 k1 true x6_1 t109 (rdOf ByteArray.empty t109 x20_1) t109 (t109.length : Int) x20_1 t113) = some (r1, r2) := H
                    have A13 := Aside0.mk A130
                    clear A130
                    have H' := Aside0.mk H
                    clear H
                    go_wp2_with (first | (go_at_call 51; (with_reducible refine (strings_Contains.calls (rdOf ByteArray.empty t109 x20_1) (⟨#[46]⟩ : ByteArray) t113 _ ?side1 A13.out).mono ?_); (case side1 => first | exact hG | exact GoodW.below hG (by repeat (first | (with_reducible first | exact HB.out | apply below_alloc | apply pw_below_drewN | apply below_drew1) | exact HB.out)) | (repeat (first | exact hG | apply GoodW.drewN | apply GoodW.drew))); rintro e w' ⟨rfl, ⟨nd, rfl⟩⟩))
                    go_meet
                    case rel => exact ⟨_, (t113), (by first | rfl | (simp; done) | (simp [*]; done)), H', ⟨by have := HK1.out; first | omega | exact Nat.le_refl _⟩, ⟨by (with_reducible repeat (first | apply Kd.R_alloc | apply Kd.R_drewN | apply Kd.R_drew)); exact HO_6.out⟩, ⟨by (with_reducible repeat (first | apply Kd.R_alloc | apply Kd.R_drewN | apply Kd.R_drew)); exact HO_7.out⟩, ⟨by (with_reducible repeat (first | apply Kd.R_alloc | apply Kd.R_drewN | apply Kd.R_drew)); exact HO_18.out⟩, ⟨by repeat (first | (with_reducible first | exact HB.out | apply below_alloc | apply pw_below_drewN | apply below_drew1) | exact HB.out)⟩⟩
                  · rw [if_neg c12] at H
                    have c12b0 : (x20_1 == (wrap64 ((t109.length : Int) - 1))) = false := beq_eq_false_iff_ne.mpr c12
                    have c12b1 : (x20_1 != (wrap64 ((t109.length : Int) - 1))) = true := bne_iff_ne.mpr c12
                    (first | rw [c12b0] | (simp only [i64_w, i32_w]; rw [c12b0]) | skip)
                    have H' := Aside0.mk H
                    clear H
                    go_wp2
                    go_meet
                    case rel => exact ⟨_, (false), (by first | rfl | (simp; done) | (simp [*]; done)), H', ⟨by have := HK1.out; first | omega | exact Nat.le_refl _⟩, ⟨by (with_reducible repeat (first | apply Kd.R_alloc | apply Kd.R_drewN | apply Kd.R_drew)); exact HO_6.out⟩, ⟨by (with_reducible repeat (first | apply Kd.R_alloc | apply Kd.R_drewN | apply Kd.R_drew)); exact HO_7.out⟩, ⟨by (with_reducible repeat (first | apply Kd.R_alloc | apply Kd.R_drewN | apply Kd.R_drew)); exact HO_18.out⟩, ⟨by repeat (first | (with_reducible first | exact HB.out | apply below_alloc | apply pw_below_drewN | apply below_drew1) | exact HB.out)⟩⟩
                · replace c11 := Bool.eq_false_iff.mpr c11
                  subst c11
                  have H1 : (addr_row.j1 k1 false x6_1 t109 (rdOf ByteArray.empty t109 x20_1) t109 (t109.length : Int) x20_1 false) = some (r1, r2) := by rw [if_neg (show ¬ (false = true) by decide)] at H; exact H
                  clear H
                  have H := H1
                  clear H1
                  have H' := Aside0.mk H
                  clear H
                  go_wp2
                  go_meet
                  case rel => exact ⟨_, (false), (by first | rfl | (simp; done) | (simp [*]; done)), H', ⟨by have := HK1.out; first | omega | exact Nat.le_refl _⟩, ⟨by (with_reducible repeat (first | apply Kd.R_alloc | apply Kd.R_drewN | apply Kd.R_drew)); exact HO_6.out⟩, ⟨by (with_reducible repeat (first | apply Kd.R_alloc | apply Kd.R_drewN | apply Kd.R_drew)); exact HO_7.out⟩, ⟨by (with_reducible repeat (first | apply Kd.R_alloc | apply Kd.R_drewN | apply Kd.R_drew)); exact HO_18.out⟩, ⟨by repeat (first | (with_reducible first | exact HB.out | apply below_alloc | apply pw_below_drewN | apply below_drew1) | exact HB.out)⟩⟩
              case rest =>
                clear HC10
                try clear c1
                try clear p1
                try clear q1
                try clear hx1
                try clear p2
                try clear c3
                try clear c3b0
                try clear c3b1
                try clear p6
                try clear c7
                try clear c7b0
                try clear c8
                try clear c8b0
                try clear c9
                try clear c9b0
                try clear c11
                try clear p11
                try clear q11
                try clear hx11
                try clear c12
                try clear c12b0
                try clear c12b1
                try clear hx112_0
                try clear p112
                try clear p2
                try clear q112
                obtain ⟨kq, x36_9, rfl, HA, HJ9, HO_6, HO_7, HO_18, HB⟩ := hcut
                cases kq with
                | zero => exact absurd HA.out (by simp [addr_row.j1])
                | succ kj9 =>
                  have H := HA.out
                  clear HA
                  simp only [addr_row.j1] at H
                  by_cases c14 : x36_9 = true
                  · subst c14
                    have H1 : ((addr_four.f kj9 (rdOf ByteArray.empty t109 x20_1)).bind fun bt114 => ((some (([bt114.1 / 65536, Go.bits .and .u64 bt114.1 65535] : List Int) : List Int)).bind fun y116 => (if x6_1.length + y116.length < 17592186044416 then (some ((x6_1 ++ y116), bt114.2)) else (none)))) = some (r1, r2) := by rw [if_pos rfl] at H; exact H
                    clear H
                    have H := H1
                    clear H1
                    replace H := Option.bind_eq_some_iff.mp H
                    obtain ⟨⟨t114, t115⟩, A150, H⟩ := H
                    replace H : ((some (([t114 / 65536, Go.bits .and .u64 t114 65535] : List Int) : List Int)).bind fun y116 => (if x6_1.length + y116.length < 17592186044416 then (some ((x6_1 ++ y116), t115)) else (none))) = some (r1, r2) := H
                    have A15 := Aside0.mk A150
                    clear A150
                    obtain ⟨y116, hy116⟩ : ∃ y_ : List Int, y_ = (([t114 / 65536, Go.bits .and .u64 t114 65535] : List Int)) := ⟨_, rfl⟩
                    replace H : (if x6_1.length + y116.length < 17592186044416 then (some ((x6_1 ++ y116), t115)) else (none)) = some (r1, r2) := by first | (rw [hy116]; with_reducible exact H) | (have H2_ := (Option.bind_some _ _).symm.trans H; rw [hy116]; with_reducible exact H2_) | (have H2_ := (Option.bind_some _ _).symm.trans H; with_reducible exact H2_) | with_reducible exact H | (rw [hy116]; exact H) | exact H
                    have Ny116 := Aside0.mk hy116
                    clear hy116
                    by_cases c16 : x6_1.length + y116.length < 17592186044416
                    · rw [if_pos c16] at H
                      have LMc16 := Aside0.mk c16
                      clear c16
                      obtain ⟨y119, hy119⟩ : ∃ y_ : List Int, y_ = (x6_1 ++ y116) := ⟨_, rfl⟩
                      replace H : (some (y119, t115)) = some (r1, r2) := by first | (rw [hy119]; with_reducible exact H) | (have H2_ := (Option.bind_some _ _).symm.trans H; rw [hy119]; with_reducible exact H2_) | (have H2_ := (Option.bind_some _ _).symm.trans H; with_reducible exact H2_) | with_reducible exact H | (rw [hy119]; exact H) | exact H
                      have Ny119 := Aside0.mk hy119
                      clear hy119
                      simp only [Option.some.injEq, Prod.mk.injEq] at H
                      obtain ⟨rfl, rfl⟩ := H
                      go_wp2_with (first | ((with_reducible refine gate_callee (f := 53) rfl ?_); refine goesL_ (some 39) rfl rfl Tryd.func53 (by kernel_rfl) rfl #[.string (rdOf ByteArray.empty t109 x20_1)] rfl (by (try simp only [List.map_toArray, List.map_cons, List.map_nil]); first | done | rfl | (simp only [List.length_drop, List.length_take]; rfl)) ?_; (with_reducible refine (addr_four.calls kj9 (rdOf ByteArray.empty t109 x20_1) t114 t115 _ ?side1 A15.out).mono ?_); (case side1 => first | exact hG | exact GoodW.below hG (by repeat (first | (with_reducible first | exact HB.out | apply below_alloc | apply pw_below_drewN | apply below_drew1) | exact HB.out)) | (repeat (first | exact hG | apply GoodW.drewN | apply GoodW.drew))); rintro e w17 ⟨rfl, hb⟩; refine ⟨_, rfl, ?_⟩; have n0_ := Aside0.mk (Kd.R_below (by (with_reducible repeat (first | apply Kd.R_alloc | apply Kd.R_drewN | apply Kd.R_drew)); exact HO_6.out) hb); have n1_ := Aside0.mk (Kd.R_below (by (with_reducible repeat (first | apply Kd.R_alloc | apply Kd.R_drewN | apply Kd.R_drew)); exact HO_7.out) hb); have n2_ := Aside0.mk (Kd.R_below (by (with_reducible repeat (first | apply Kd.R_alloc | apply Kd.R_drewN | apply Kd.R_drew)); exact HO_18.out) hb); have n3_ := Aside0.mk (below_step (by repeat (first | (with_reducible first | exact HB.out | apply below_alloc | apply pw_below_drewN | apply below_drew1) | exact HB.out)) hb); clear HO_6; clear HO_7; clear HO_18; clear HB; have HO_6 := n0_; have HO_7 := n1_; have HO_18 := n2_; have HB := n3_; clear n0_ n1_ n2_ n3_; (try clear hb); (try clear hb2); (try clear hk); (try clear hi)) | ((with_reducible refine gate_dst (N := 47) rfl ?_); (try (refine gate_guard (by rfl) ?_; dsimp only)); refine Kd.R_lit (Kd.int .u64) _ 27 ?hg (N := 47) ?hd (xs := ([t114 / 65536, Go.bits .and .u64 t114 65535] : List Int)) (inner := [.int .u64 (t114 / 65536), .int .u64 (Go.bits .and .u64 t114 65535)]) (ok := fun _ => True) (okp := fun _ => True) ?hr ?hp (fun _ hk => hk) trivial (Below.refl _ _) (Nat.le_refl _) (by simp) ?_; (case hd => rfl); (case hg => rfl); (case hr => first | (go_simp; done) | (go_simp; rfl)); (case hp => exact (Reps.one (show Kd.M (Kd.int .u64) _ _ _ (t114 / 65536) [.int .u64 (t114 / 65536)] from rfl) (Reps.one (show Kd.M (Kd.int .u64) _ _ _ (Go.bits .and .u64 t114 65535) [.int .u64 (Go.bits .and .u64 t114 65535)] from rfl) (Reps.none _ _)))); intro v117 w18 ho19 hb hg_ hnew_; clear hg_ hnew_; (first | rw [← Ny116.out] at ho19 | (simp only [Int.reduceToNat] at ho19; rw [← Ny116.out] at ho19)); have n0_ := Aside0.mk (Kd.R_elder' (by (with_reducible repeat (first | apply Kd.R_alloc | apply Kd.R_drewN | apply Kd.R_drew)); exact HO_6.out) (Kd.R_base ho19) hb); have n1_ := Aside0.mk (Kd.R_below (by (with_reducible repeat (first | apply Kd.R_alloc | apply Kd.R_drewN | apply Kd.R_drew)); exact HO_7.out) hb); have n2_ := Aside0.mk (Kd.R_below (by (with_reducible repeat (first | apply Kd.R_alloc | apply Kd.R_drewN | apply Kd.R_drew)); exact HO_18.out) hb); have n3_ := Aside0.mk (Kd.R_lower (Kd.R_new' ho19 (Kd.R_lt (by (with_reducible repeat (first | apply Kd.R_alloc | apply Kd.R_drewN | apply Kd.R_drew)); exact HO_6.out))) (below_size (by repeat (first | (with_reducible first | exact HB.out | apply below_alloc | apply pw_below_drewN | apply below_drew1) | exact HB.out)))); have n4_ := Aside0.mk (below_step (by repeat (first | (with_reducible first | exact HB.out | apply below_alloc | apply pw_below_drewN | apply below_drew1) | exact HB.out)) hb); clear HO_6; clear HO_7; clear HO_18; clear HB; have HO_6 := n0_; have HO_7 := n1_; have HO_18 := n2_; have HO118 := n3_; have HB := n4_; clear n0_ n1_ n2_ n3_ n4_; clear hb ho19; obtain ⟨Ao21, co21, eo21⟩ := Kd.R_slice HO118.out; subst eo21) | ((with_reducible refine gate_builtin (b := .append) (xs := #[.tmp 42, .tmp 47]) rfl ?_); (try (refine gate_guard (by rfl) ?_; dsimp only)); at_builtin; refine Kd.R_append_rows (Kd.int .u64) (w0 := w) w.heap.size rfl (.tmp 42) (.tmp 47) 83 27 (.int .u64 0) 8 rfl Tryd.underlying83 info27 rfl (by decide) (by omega) u6 x6_1 y116 _ _ _ (fun k_ => some k_ ≠ (.slice Ao21 y116.length co21 : Value).ownBlock) (fun _ => False) rfl rfl ?aO ?aR (fun _ _ h => h) (fun _ h => h.elim) ?aF ?aB ?aS ?aL ?_; (case aR => repeat (first | exact (Kd.R_reads' HO118.out).2.2 | (with_reducible refine Kd.C_alloc ?_ _) | (with_reducible refine Kd.C_drewN ?_ _) | (with_reducible refine Kd.C_drew ?_))); (case aB => exact (by repeat (first | (with_reducible first | exact HB.out | apply below_alloc | apply pw_below_drewN | apply below_drew1) | exact HB.out))); (case aF => exact (fun k_ hk => Kd.fresh' (Kd.R_lt (by (with_reducible repeat (first | apply Kd.R_alloc | apply Kd.R_drewN | apply Kd.R_drew)); exact HO118.out)) k_ hk)); (case aO => exact (by (with_reducible repeat (first | apply Kd.R_alloc | apply Kd.R_drewN | apply Kd.R_drew)); exact Kd.R_mono HO_6.out (fun _ hk => hk.2))); (case aS => exact (below_size (by repeat (first | (with_reducible first | exact HB.out | apply below_alloc | apply pw_below_drewN | apply below_drew1) | exact HB.out)))); (case aL => have := LMc16.out; omega); intro v120 w20 ho hb hg hat; rw [← Ny119.out] at ho; have n0_ := Aside0.mk (Kd.R_over' (by (with_reducible repeat (first | apply Kd.R_alloc | apply Kd.R_drewN | apply Kd.R_drew)); exact HO_7.out) (Kd.R_typed (by (with_reducible repeat (first | apply Kd.R_alloc | apply Kd.R_drewN | apply Kd.R_drew)); exact HO_6.out)) (by decide) hg); have n1_ := Aside0.mk (Kd.R_over' (by (with_reducible repeat (first | apply Kd.R_alloc | apply Kd.R_drewN | apply Kd.R_drew)); exact HO_18.out) (Kd.R_typed (by (with_reducible repeat (first | apply Kd.R_alloc | apply Kd.R_drewN | apply Kd.R_drew)); exact HO_6.out)) (by decide) hg); have n2_ := Aside0.mk (Kd.R_after (ok := (fun _ => True)) (by (with_reducible repeat (first | apply Kd.R_alloc | apply Kd.R_drewN | apply Kd.R_drew)); exact HO118.out) hg hat); have n3_ := Aside0.mk (hb); have n4_ := Aside0.mk (ho); clear HO_7; clear HO_18; clear HO118; clear HB; clear HO_6; have HO_7 := n0_; have HO_18 := n1_; have HO118 := n2_; have HB := n3_; have HO121 := n4_; clear n0_ n1_ n2_ n3_ n4_; clear ho hb hg hat))
                      go_ret2
                      exact ⟨_, by first | rfl | (simp [errW_none, errW_some] <;> rfl) | (simp [*, errW_none, errW_some] <;> rfl), by (with_reducible repeat (first | apply Kd.R_alloc | apply Kd.R_drewN | apply Kd.R_drew)); exact Kd.R_mono HO121.out (fun _ hk => trivial), by repeat (first | (with_reducible first | exact HB.out | apply below_alloc | apply pw_below_drewN | apply below_drew1) | exact HB.out)⟩
                    · rw [if_neg c16] at H
                      exact absurd H (by simp)
                  · replace c14 := Bool.eq_false_iff.mpr c14
                    subst c14
                    have H1 : ((addr_hex.f (rdOf ByteArray.empty t109 x20_1)).bind fun bt122 => (if bt122.2 = true then (if x6_1.length < 17592186044416 then (addr_row.l0 kj9 a1 (x6_1 ++ [bt122.1]) t109 t109 (t109.length : Int) (wrap64 (x20_1 + 1))) else (none)) else (some (([] : List Int), false)))) = some (r1, r2) := by rw [if_neg (show ¬ (false = true) by decide)] at H; exact H
                    clear H
                    have H := H1
                    clear H1
                    replace H := Option.bind_eq_some_iff.mp H
                    obtain ⟨⟨t122, t123⟩, A220, H⟩ := H
                    replace H : (if t123 = true then (if x6_1.length < 17592186044416 then (addr_row.l0 kj9 a1 (x6_1 ++ [t122]) t109 t109 (t109.length : Int) (wrap64 (x20_1 + 1))) else (none)) else (some (([] : List Int), false))) = some (r1, r2) := H
                    have A22 := Aside0.mk A220
                    clear A220
                    by_cases c23 : t123 = true
                    · subst c23
                      have H1 : (if x6_1.length < 17592186044416 then (addr_row.l0 kj9 a1 (x6_1 ++ [t122]) t109 t109 (t109.length : Int) (wrap64 (x20_1 + 1))) else (none)) = some (r1, r2) := by rw [if_pos rfl] at H; exact H
                      clear H
                      have H := H1
                      clear H1
                      by_cases c24 : x6_1.length < 17592186044416
                      · rw [if_pos c24] at H
                        have LMc24 := Aside0.mk c24
                        clear c24
                        obtain ⟨y124, hy124⟩ : ∃ y_ : List Int, y_ = (x6_1 ++ [t122]) := ⟨_, rfl⟩
                        replace H : (addr_row.l0 kj9 a1 y124 t109 t109 (t109.length : Int) (wrap64 (x20_1 + 1))) = some (r1, r2) := by first | (rw [hy124]; with_reducible exact H) | (have H2_ := (Option.bind_some _ _).symm.trans H; rw [hy124]; with_reducible exact H2_) | (have H2_ := (Option.bind_some _ _).symm.trans H; with_reducible exact H2_) | with_reducible exact H | (rw [hy124]; exact H) | exact H
                        have Ny124 := Aside0.mk hy124
                        clear hy124
                        have H' := Aside0.mk H
                        clear H
                        go_wp2_with (first | ((with_reducible refine gate_callee (f := 83) rfl ?_); refine goesL_ (some 52) rfl rfl Tryd.func83 (by kernel_rfl) rfl #[.string (rdOf ByteArray.empty t109 x20_1)] rfl (by (try simp only [List.map_toArray, List.map_cons, List.map_nil]); first | done | rfl | (simp only [List.length_drop, List.length_take]; rfl)) ?_; (with_reducible refine (addr_hex.calls (rdOf ByteArray.empty t109 x20_1) t122 true _ ?side1 A22.out).mono ?_); (case side1 => first | exact hG | exact GoodW.below hG (by repeat (first | (with_reducible first | exact HB.out | apply below_alloc | apply pw_below_drewN | apply below_drew1) | exact HB.out)) | (repeat (first | exact hG | apply GoodW.drewN | apply GoodW.drew))); rintro e w25 ⟨rfl, hb⟩; refine ⟨_, rfl, ?_⟩; have n0_ := Aside0.mk (Kd.R_below (by (with_reducible repeat (first | apply Kd.R_alloc | apply Kd.R_drewN | apply Kd.R_drew)); exact HO_6.out) hb); have n1_ := Aside0.mk (Kd.R_below (by (with_reducible repeat (first | apply Kd.R_alloc | apply Kd.R_drewN | apply Kd.R_drew)); exact HO_7.out) hb); have n2_ := Aside0.mk (Kd.R_below (by (with_reducible repeat (first | apply Kd.R_alloc | apply Kd.R_drewN | apply Kd.R_drew)); exact HO_18.out) hb); have n3_ := Aside0.mk (below_step (by repeat (first | (with_reducible first | exact HB.out | apply below_alloc | apply pw_below_drewN | apply below_drew1) | exact HB.out)) hb); clear HO_6; clear HO_7; clear HO_18; clear HB; have HO_6 := n0_; have HO_7 := n1_; have HO_18 := n2_; have HB := n3_; clear n0_ n1_ n2_ n3_; (try clear hb); (try clear hb2); (try clear hk); (try clear hi)) | ((with_reducible refine gate_builtin (b := .append) (xs := #[.tmp 57, .tmp 59]) rfl ?_); (try (refine gate_guard (by rfl) ?_; dsimp only)); at_builtin; refine Kd.R_append (Kd.int .u64) (w0 := w) w.heap.size rfl (.tmp 57) (.tmp 59) 83 27 (.int .u64 0) 8 rfl Tryd.underlying83 info27 rfl (by decide) (by omega) u6 x6_1 t122 [.int .u64 t122] (fun _ => True) (fun _ => False) rfl rfl ?aP (fun _ hk => hk.elim) ?aF ?aO ?aB ?aS ?aL ?_; (case aP => exact rfl); (case aB => exact (by repeat (first | (with_reducible first | exact HB.out | apply below_alloc | apply pw_below_drewN | apply below_drew1) | exact HB.out))); (case aF => exact (fun _ _ => trivial)); (case aO => exact (by (with_reducible repeat (first | apply Kd.R_alloc | apply Kd.R_drewN | apply Kd.R_drew)); exact HO_6.out)); (case aS => exact (below_size (by repeat (first | (with_reducible first | exact HB.out | apply below_alloc | apply pw_below_drewN | apply below_drew1) | exact HB.out)))); (case aL => have := LMc24.out; omega); intro v125 w26 ho hb hg hat; rw [← Ny124.out] at ho; have n0_ := Aside0.mk (Kd.R_over' (by (with_reducible repeat (first | apply Kd.R_alloc | apply Kd.R_drewN | apply Kd.R_drew)); exact HO_7.out) (Kd.R_typed (by (with_reducible repeat (first | apply Kd.R_alloc | apply Kd.R_drewN | apply Kd.R_drew)); exact HO_6.out)) (by decide) hg); have n1_ := Aside0.mk (Kd.R_over' (by (with_reducible repeat (first | apply Kd.R_alloc | apply Kd.R_drewN | apply Kd.R_drew)); exact HO_18.out) (Kd.R_typed (by (with_reducible repeat (first | apply Kd.R_alloc | apply Kd.R_drewN | apply Kd.R_drew)); exact HO_6.out)) (by decide) hg); have n2_ := Aside0.mk (hb); have n3_ := Aside0.mk (ho); clear HO_7; clear HO_18; clear HB; clear HO_6; have HO_7 := n0_; have HO_18 := n1_; have HB := n2_; have HO126 := n3_; clear n0_ n1_ n2_ n3_; clear ho hb hg hat))
                        go_roundg kj9
                        case measure => have := HK1.out; have := HJ9.out; omega
                        case rel => exact ⟨(y124), (wrap64 (x20_1 + 1)), (by first | rfl | (simp; done) | (simp [*]; done)), H', ⟨by have := HK1.out; have := HJ9.out; omega⟩, ⟨by (with_reducible repeat (first | apply Kd.R_alloc | apply Kd.R_drewN | apply Kd.R_drew)); exact HO126.out⟩, ⟨by (with_reducible repeat (first | apply Kd.R_alloc | apply Kd.R_drewN | apply Kd.R_drew)); exact HO_7.out⟩, ⟨by (with_reducible repeat (first | apply Kd.R_alloc | apply Kd.R_drewN | apply Kd.R_drew)); exact HO_18.out⟩, ⟨by repeat (first | (with_reducible first | exact HB.out | apply below_alloc | apply pw_below_drewN | apply below_drew1) | exact HB.out)⟩⟩
                      · rw [if_neg c24] at H
                        exact absurd H (by simp)
                    · replace c23 := Bool.eq_false_iff.mpr c23
                      subst c23
                      have H1 : (some (([] : List Int), false)) = some (r1, r2) := by rw [if_neg (show ¬ (false = true) by decide)] at H; exact H
                      clear H
                      have H := H1
                      clear H1
                      simp only [Option.some.injEq, Prod.mk.injEq] at H
                      obtain ⟨rfl, rfl⟩ := H
                      go_wp2_with (first | ((with_reducible refine gate_callee (f := 83) rfl ?_); refine goesL_ (some 52) rfl rfl Tryd.func83 (by kernel_rfl) rfl #[.string (rdOf ByteArray.empty t109 x20_1)] rfl (by (try simp only [List.map_toArray, List.map_cons, List.map_nil]); first | done | rfl | (simp only [List.length_drop, List.length_take]; rfl)) ?_; (with_reducible refine (addr_hex.calls (rdOf ByteArray.empty t109 x20_1) t122 false _ ?side1 A22.out).mono ?_); (case side1 => first | exact hG | exact GoodW.below hG (by repeat (first | (with_reducible first | exact HB.out | apply below_alloc | apply pw_below_drewN | apply below_drew1) | exact HB.out)) | (repeat (first | exact hG | apply GoodW.drewN | apply GoodW.drew))); rintro e w27 ⟨rfl, hb⟩; refine ⟨_, rfl, ?_⟩; have n0_ := Aside0.mk (Kd.R_below (by (with_reducible repeat (first | apply Kd.R_alloc | apply Kd.R_drewN | apply Kd.R_drew)); exact HO_6.out) hb); have n1_ := Aside0.mk (Kd.R_below (by (with_reducible repeat (first | apply Kd.R_alloc | apply Kd.R_drewN | apply Kd.R_drew)); exact HO_7.out) hb); have n2_ := Aside0.mk (Kd.R_below (by (with_reducible repeat (first | apply Kd.R_alloc | apply Kd.R_drewN | apply Kd.R_drew)); exact HO_18.out) hb); have n3_ := Aside0.mk (below_step (by repeat (first | (with_reducible first | exact HB.out | apply below_alloc | apply pw_below_drewN | apply below_drew1) | exact HB.out)) hb); clear HO_6; clear HO_7; clear HO_18; clear HB; have HO_6 := n0_; have HO_7 := n1_; have HO_18 := n2_; have HB := n3_; clear n0_ n1_ n2_ n3_; (try clear hb); (try clear hb2); (try clear hk); (try clear hi)))
                      go_ret2
                      exact ⟨_, by first | rfl | (simp [errW_none, errW_some] <;> rfl) | (simp [*, errW_none, errW_some] <;> rfl), by first | exact Kd.R_nil _ _ _ _ _ | exact Kd.N_nil _ _ _ _ _ | exact Kd.V_nil _ _ _ _ _ | exact Kd.Q_nil _ _ _ _ _ | exact Kd.S_nil _ _ _ _ _, by repeat (first | (with_reducible first | exact HB.out | apply below_alloc | apply pw_below_drewN | apply below_drew1) | exact HB.out)⟩
            · rw [if_neg c9] at H
              exact absurd H (by simp)
          · rw [if_neg c8] at H
            exact absurd H (by simp)
        · rw [if_neg c7] at H
          have c7b0 : decide (x20_1 < (t109.length : Int)) = false := decide_eq_false c7
          clear c7
          simp only [Option.some.injEq, Prod.mk.injEq] at H
          obtain ⟨rfl, rfl⟩ := H
          go_wp2
          go_ret2
          exact ⟨_, by first | rfl | (simp [errW_none, errW_some] <;> rfl) | (simp [*, errW_none, errW_some] <;> rfl), by (with_reducible repeat (first | apply Kd.R_alloc | apply Kd.R_drewN | apply Kd.R_drew)); exact HO_6.out, by repeat (first | (with_reducible first | exact HB.out | apply below_alloc | apply pw_below_drewN | apply below_drew1) | exact HB.out)⟩
mutual
def addr_zeros.l0 : Nat → List Int → Int → Int → Int → Int → Option (Int × Int)
  | 0, _, _, _, _, _ => none
  | k + 1, x0, x4, x5, x9, x10 => if x10 < x9 then (addr_zeros.l1 k x0 x4 x5 x10 x10 x9 x10) else (some (x4, x5))
def addr_zeros.l1 : Nat → List Int → Int → Int → Int → Int → Int → Int → Option (Int × Int)
  | 0, _, _, _, _, _, _, _ => none
  | k + 1, x0, x4, x5, x6, x7, x9, x10 => if x7 < (x0.length : Int) then (if 0 ≤ x7 then (if (rd x0 x7) = 0 then (addr_zeros.l1 k x0 x4 x5 x6 (wrap64 (x7 + 1)) x9 x10) else (if (wrap64 (x7 - x6)) > (wrap64 (x5 - x4)) then (if (wrap64 (x7 - x6)) > 1 then (addr_zeros.l0 k x0 x6 x7 x9 (wrap64 (x10 + 1))) else (addr_zeros.l0 k x0 x4 x5 x9 (wrap64 (x10 + 1)))) else (addr_zeros.l0 k x0 x4 x5 x9 (wrap64 (x10 + 1))))) else (none)) else (if (wrap64 (x7 - x6)) > (wrap64 (x5 - x4)) then (if (wrap64 (x7 - x6)) > 1 then (addr_zeros.l0 k x0 x6 x7 x9 (wrap64 (x10 + 1))) else (addr_zeros.l0 k x0 x4 x5 x9 (wrap64 (x10 + 1)))) else (addr_zeros.l0 k x0 x4 x5 x9 (wrap64 (x10 + 1))))
end
def addr_zeros.f (k : Nat) (l0 : List Int) : Option (Int × Int) := addr_zeros.l0 k l0 0 0 (l0.length : Int) 0
set_option maxHeartbeats 8000000 in
set_option maxRecDepth 100000 in
theorem addr_zeros.calls (k : Nat) (A0 : Option Addr) (c0 : Nat) (l0 : List Int) (r1 : Int) (r2 : Int) (w : World) (hr0 : Kd.C (Kd.int .u64) w A0 l0.length l0) (hc0 : l0.length ≤ c0) (hG : GoodW w) (h : addr_zeros.f k l0 = some (r1, r2)) :
    Calls Tryd.prog 57 #[.slice A0 l0.length c0] w fun e w' => e = .returned (.tuple #[.int .i64 r1, .int .i64 r2]) ∧ Drawn0 w w' := by
  have HR0 := Aside0.mk hr0
  have HC0 := Aside0.mk hc0
  clear hr0 hc0
  have H : (addr_zeros.l0 k l0 0 0 (l0.length : Int) 0) = some (r1, r2) := h
  clear h
  have H' := Aside0.mk H
  clear H
  go_enter Tryd.func57, Tryd.ntmps57
  go_wp2
  go_loopg [4, 5, 10] k (fun kq v4 v5 v10 w' => ∃ (x4_1 : Int) (x5_1 : Int) (x10_1 : Int), v4 = .int .i64 x4_1 ∧ v5 = .int .i64 x5_1 ∧ v10 = .int .i64 x10_1 ∧ Aside0 (addr_zeros.l0 kq l0 x4_1 x5_1 (l0.length : Int) x10_1 = some (r1, r2)) ∧ Aside0 (kq ≤ k) ∧ Drawn0 w w')
  case atStart => exact ⟨(0), (0), (0), (by first | rfl | (simp; done) | (simp [*]; done)), (by first | rfl | (simp; done) | (simp [*]; done)), (by first | rfl | (simp; done) | (simp [*]; done)), H', ⟨Nat.le_refl _⟩, by repeat (first | exact Drawn0.refl _ | apply Drawn0.step)⟩
  case round =>
    clear H'
    obtain ⟨x4_1, x5_1, x10_1, rfl, rfl, rfl, HA, HK1, ⟨m1, rfl⟩⟩ := hrel
    cases gk with
    | zero => exact absurd HA.out (by simp [addr_zeros.l0])
    | succ k1 =>
      have H := HA.out
      clear HA
      simp only [addr_zeros.l0] at H
      by_cases c2 : x10_1 < (l0.length : Int)
      · rw [if_pos c2] at H
        have c2b0 : decide (x10_1 < (l0.length : Int)) = true := decide_eq_true c2
        clear c2
        have H' := Aside0.mk H
        clear H
        go_wp2
        go_loopg [7] k1 (fun kq v7 w' => ∃ (x7_2 : Int), v7 = .int .i64 x7_2 ∧ Aside0 (addr_zeros.l1 kq l0 x4_1 x5_1 x10_1 x7_2 (l0.length : Int) x10_1 = some (r1, r2)) ∧ Aside0 (kq ≤ k1) ∧ Drawn0 w w')
        case atStart => exact ⟨(x10_1), (by first | rfl | (simp; done) | (simp [*]; done)), H', ⟨Nat.le_refl _⟩, by repeat (first | exact Drawn0.refl _ | apply Drawn0.step)⟩
        case round =>
          clear H'
          try clear c2
          try clear c2b0
          try clear p2
          obtain ⟨x7_2, rfl, HA, HK2, ⟨m2, rfl⟩⟩ := hrel
          cases gk with
          | zero => exact absurd HA.out (by simp [addr_zeros.l1])
          | succ k2 =>
            have H := HA.out
            clear HA
            simp only [addr_zeros.l1] at H
            by_cases c3 : x7_2 < (l0.length : Int)
            · rw [if_pos c3] at H
              have c3b0 : decide (x7_2 < (l0.length : Int)) = true := decide_eq_true c3
              clear c3
              by_cases c4 : 0 ≤ x7_2
              · rw [if_pos c4] at H
                have c4b0 : decide (0 ≤ x7_2) = true := decide_eq_true c4
                clear c4
                by_cases c5 : (rd l0 x7_2) = 0
                · rw [if_pos c5] at H
                  have c5b0 : ((rd l0 x7_2) == 0) = true := beq_iff_eq.mpr c5
                  have c5b1 : ((rd l0 x7_2) != 0) = false := bne_eq_false_iff_eq.mpr c5
                  clear c5
                  have H' := Aside0.mk H
                  clear H
                  have p203 : 0 ≤ (x7_2 : Int) := of_decide_eq_true (by first | (with_reducible assumption) | assumption)
                  have q203 : x7_2 < (l0.length : Int) := of_decide_eq_true (by first | (with_reducible assumption) | assumption)
                  obtain ⟨ad203, e203, hx203_0⟩ := Kd.at_int HR0.out x7_2 p203 q203
                  cases e203
                  replace p203 := eq_true p203
                  replace q203 := eq_true q203
                  go_wp2
                  go_roundg k2
                  case measure => have := HK1.out; have := HK2.out; omega
                  case rel => exact ⟨(wrap64 (x7_2 + 1)), (by first | rfl | (simp; done) | (simp [*]; done)), H', ⟨by have := HK1.out; have := HK2.out; omega⟩, by repeat (first | exact Drawn0.refl _ | apply Drawn0.step)⟩
                · rw [if_neg c5] at H
                  have c5b0 : ((rd l0 x7_2) == 0) = false := beq_eq_false_iff_ne.mpr c5
                  have c5b1 : ((rd l0 x7_2) != 0) = true := bne_iff_ne.mpr c5
                  by_cases c6 : (wrap64 (x7_2 - x10_1)) > (wrap64 (x5_1 - x4_1))
                  · rw [if_pos c6] at H
                    have c6b0 : decide ((wrap64 (x5_1 - x4_1)) < (wrap64 (x7_2 - x10_1))) = true := decide_eq_true c6
                    clear c6
                    by_cases c7 : (wrap64 (x7_2 - x10_1)) > 1
                    · rw [if_pos c7] at H
                      have c7b0 : decide (1 < (wrap64 (x7_2 - x10_1))) = true := decide_eq_true c7
                      clear c7
                      have H' := Aside0.mk H
                      clear H
                      have p203 : 0 ≤ (x7_2 : Int) := of_decide_eq_true (by first | (with_reducible assumption) | assumption)
                      have q203 : x7_2 < (l0.length : Int) := of_decide_eq_true (by first | (with_reducible assumption) | assumption)
                      obtain ⟨ad203, e203, hx203_0⟩ := Kd.at_int HR0.out x7_2 p203 q203
                      cases e203
                      replace p203 := eq_true p203
                      replace q203 := eq_true q203
                      go_wp2
                      go_roundg k2
                      case measure => have := HK1.out; have := HK2.out; omega
                      case rel => exact ⟨(x10_1), (x7_2), (wrap64 (x10_1 + 1)), (by first | rfl | (simp; done) | (simp [*]; done)), (by first | rfl | (simp; done) | (simp [*]; done)), (by first | rfl | (simp; done) | (simp [*]; done)), H', ⟨by have := HK1.out; have := HK2.out; omega⟩, by repeat (first | exact Drawn0.refl _ | apply Drawn0.step)⟩
                    · rw [if_neg c7] at H
                      have c7b0 : decide (1 < (wrap64 (x7_2 - x10_1))) = false := decide_eq_false c7
                      clear c7
                      have H' := Aside0.mk H
                      clear H
                      have p203 : 0 ≤ (x7_2 : Int) := of_decide_eq_true (by first | (with_reducible assumption) | assumption)
                      have q203 : x7_2 < (l0.length : Int) := of_decide_eq_true (by first | (with_reducible assumption) | assumption)
                      obtain ⟨ad203, e203, hx203_0⟩ := Kd.at_int HR0.out x7_2 p203 q203
                      cases e203
                      replace p203 := eq_true p203
                      replace q203 := eq_true q203
                      go_wp2
                      go_roundg k2
                      case measure => have := HK1.out; have := HK2.out; omega
                      case rel => exact ⟨(x4_1), (x5_1), (wrap64 (x10_1 + 1)), (by first | rfl | (simp; done) | (simp [*]; done)), (by first | rfl | (simp; done) | (simp [*]; done)), (by first | rfl | (simp; done) | (simp [*]; done)), H', ⟨by have := HK1.out; have := HK2.out; omega⟩, by repeat (first | exact Drawn0.refl _ | apply Drawn0.step)⟩
                  · rw [if_neg c6] at H
                    have c6b0 : decide ((wrap64 (x5_1 - x4_1)) < (wrap64 (x7_2 - x10_1))) = false := decide_eq_false c6
                    clear c6
                    have H' := Aside0.mk H
                    clear H
                    have p203 : 0 ≤ (x7_2 : Int) := of_decide_eq_true (by first | (with_reducible assumption) | assumption)
                    have q203 : x7_2 < (l0.length : Int) := of_decide_eq_true (by first | (with_reducible assumption) | assumption)
                    obtain ⟨ad203, e203, hx203_0⟩ := Kd.at_int HR0.out x7_2 p203 q203
                    cases e203
                    replace p203 := eq_true p203
                    replace q203 := eq_true q203
                    go_wp2
                    go_roundg k2
                    case measure => have := HK1.out; have := HK2.out; omega
                    case rel => exact ⟨(x4_1), (x5_1), (wrap64 (x10_1 + 1)), (by first | rfl | (simp; done) | (simp [*]; done)), (by first | rfl | (simp; done) | (simp [*]; done)), (by first | rfl | (simp; done) | (simp [*]; done)), H', ⟨by have := HK1.out; have := HK2.out; omega⟩, by repeat (first | exact Drawn0.refl _ | apply Drawn0.step)⟩
              · rw [if_neg c4] at H
                exact absurd H (by simp)
            · rw [if_neg c3] at H
              have c3b0 : decide (x7_2 < (l0.length : Int)) = false := decide_eq_false c3
              clear c3
              by_cases c8 : (wrap64 (x7_2 - x10_1)) > (wrap64 (x5_1 - x4_1))
              · rw [if_pos c8] at H
                have c8b0 : decide ((wrap64 (x5_1 - x4_1)) < (wrap64 (x7_2 - x10_1))) = true := decide_eq_true c8
                clear c8
                by_cases c9 : (wrap64 (x7_2 - x10_1)) > 1
                · rw [if_pos c9] at H
                  have c9b0 : decide (1 < (wrap64 (x7_2 - x10_1))) = true := decide_eq_true c9
                  clear c9
                  have H' := Aside0.mk H
                  clear H
                  go_wp2
                  go_roundg k2
                  case measure => have := HK1.out; have := HK2.out; omega
                  case rel => exact ⟨(x10_1), (x7_2), (wrap64 (x10_1 + 1)), (by first | rfl | (simp; done) | (simp [*]; done)), (by first | rfl | (simp; done) | (simp [*]; done)), (by first | rfl | (simp; done) | (simp [*]; done)), H', ⟨by have := HK1.out; have := HK2.out; omega⟩, by repeat (first | exact Drawn0.refl _ | apply Drawn0.step)⟩
                · rw [if_neg c9] at H
                  have c9b0 : decide (1 < (wrap64 (x7_2 - x10_1))) = false := decide_eq_false c9
                  clear c9
                  have H' := Aside0.mk H
                  clear H
                  go_wp2
                  go_roundg k2
                  case measure => have := HK1.out; have := HK2.out; omega
                  case rel => exact ⟨(x4_1), (x5_1), (wrap64 (x10_1 + 1)), (by first | rfl | (simp; done) | (simp [*]; done)), (by first | rfl | (simp; done) | (simp [*]; done)), (by first | rfl | (simp; done) | (simp [*]; done)), H', ⟨by have := HK1.out; have := HK2.out; omega⟩, by repeat (first | exact Drawn0.refl _ | apply Drawn0.step)⟩
              · rw [if_neg c8] at H
                have c8b0 : decide ((wrap64 (x5_1 - x4_1)) < (wrap64 (x7_2 - x10_1))) = false := decide_eq_false c8
                clear c8
                have H' := Aside0.mk H
                clear H
                go_wp2
                go_roundg k2
                case measure => have := HK1.out; have := HK2.out; omega
                case rel => exact ⟨(x4_1), (x5_1), (wrap64 (x10_1 + 1)), (by first | rfl | (simp; done) | (simp [*]; done)), (by first | rfl | (simp; done) | (simp [*]; done)), (by first | rfl | (simp; done) | (simp [*]; done)), H', ⟨by have := HK1.out; have := HK2.out; omega⟩, by repeat (first | exact Drawn0.refl _ | apply Drawn0.step)⟩
      · rw [if_neg c2] at H
        have c2b0 : decide (x10_1 < (l0.length : Int)) = false := decide_eq_false c2
        clear c2
        simp only [Option.some.injEq, Prod.mk.injEq] at H
        obtain ⟨rfl, rfl⟩ := H
        go_wp2
        go_ret2
        exact ⟨by first | rfl | (simp; done) | (simp [*]; done), by repeat (first | exact Drawn0.refl _ | apply Drawn0.step)⟩
def strconv_FormatUint.f (a0 : Int) (a1 : Int) : Option (ByteArray) := fmtF a0 a1
theorem strconv_FormatUint.calls (a0 : Int) (a1 : Int) (r : ByteArray) (w : World) (hG : GoodW w) (h : strconv_FormatUint.f a0 a1 = some r) :
    Calls Tryd.prog 77 #[.int .u64 a0, .int .i64 a1] w fun e w' => e = .returned (.string r) ∧ Below w.heap.size w w' := by exact st_fmt hG h
def strings_Join.f (l0 : List ByteArray) (a1 : ByteArray) : Option (ByteArray) := if (joinB l0 a1).size ≤ 140737488355328 ∧ l0.length ≤ 140737488355328 then some (joinB l0 a1) else none
theorem strings_Join.calls (A0 : Option Addr) (c0 : Nat) (l0 : List ByteArray) (a1 : ByteArray) (r : ByteArray) (w : World) (hr0 : Kd.C Kd.string w A0 l0.length l0) (hc0 : l0.length ≤ c0) (hG : GoodW w) (h : strings_Join.f l0 a1 = some r) :
    Calls Tryd.prog 55 #[.slice A0 l0.length c0, .string a1] w fun e w' => e = .returned (.string r) ∧ Below w.heap.size w w' := st_join hr0 hc0 h
def addr_text.l0 : Nat → List ByteArray → List Int → Int → Int → Option (ByteArray)
  | 0, _, _, _, _ => none
  | k + 1, x3, x6, x7, x8 => if x8 < x7 then (if 0 ≤ x8 then (if x8 < (x6.length : Int) then ((strconv_FormatUint.f (rd x6 x8) 16).bind fun t205 => (if x3.length < 8796093022208 then (addr_text.l0 k (x3 ++ [t205]) x6 x7 (wrap64 (x8 + 1))) else (none))) else (none)) else (none)) else ((strings_Join.f x3 (⟨#[58]⟩ : ByteArray)).bind fun t209 => (some t209))
def addr_text.f (k : Nat) (l0 : List Int) : Option (ByteArray) := addr_text.l0 k ([] : List ByteArray) l0 (l0.length : Int) 0
set_option maxHeartbeats 8000000 in
set_option maxRecDepth 100000 in
theorem addr_text.calls (k : Nat) (A0 : Option Addr) (c0 : Nat) (l0 : List Int) (r : ByteArray) (w : World) (hr0 : Kd.C (Kd.int .u64) w A0 l0.length l0) (hc0 : l0.length ≤ c0) (hG : GoodW w) (h : addr_text.f k l0 = some r) :
    Calls Tryd.prog 58 #[.slice A0 l0.length c0] w fun e w' => e = .returned (.string r) ∧ Below w.heap.size w w' := by
  have HR0 := Aside0.mk hr0
  have HC0 := Aside0.mk hc0
  clear hr0 hc0
  have HB := Aside0.mk (Below.refl w.heap.size w)
  have H : (addr_text.l0 k ([] : List ByteArray) l0 (l0.length : Int) 0) = some r := h
  clear h
  have H' := Aside0.mk H
  clear H
  go_enter Tryd.func58, Tryd.ntmps58
  go_wp2
  go_loopg [3, 8] k (fun kq v3 v8 w' => ∃ (x3_1 : List ByteArray) (x8_1 : Int), v8 = .int .i64 x8_1 ∧ Aside0 (addr_text.l0 kq x3_1 l0 (l0.length : Int) x8_1 = some r) ∧ Aside0 (kq ≤ k) ∧ Aside0 (Kd.R Kd.string 9 w' w.heap.size (fun _ => True) v3 x3_1) ∧ Aside0 (Below w.heap.size w w'))
  case atStart => exact ⟨(([] : List ByteArray)), (0), (by first | rfl | (simp; done) | (simp [*]; done)), H', ⟨Nat.le_refl _⟩, ⟨by first | exact Kd.R_nil _ _ _ _ _ | exact Kd.N_nil _ _ _ _ _ | exact Kd.V_nil _ _ _ _ _ | exact Kd.Q_nil _ _ _ _ _ | exact Kd.S_nil _ _ _ _ _⟩, ⟨by repeat (first | (with_reducible first | exact HB.out | apply below_alloc | apply pw_below_drewN | apply below_drew1) | exact HB.out)⟩⟩
  case round =>
    clear H'
    obtain ⟨x3_1, x8_1, rfl, HA, HK1, HO_3, HB⟩ := hrel
    cases gk with
    | zero => exact absurd HA.out (by simp [addr_text.l0])
    | succ k1 =>
      have H := HA.out
      clear HA
      simp only [addr_text.l0] at H
      by_cases c2 : x8_1 < (l0.length : Int)
      · rw [if_pos c2] at H
        have c2b0 : decide (x8_1 < (l0.length : Int)) = true := decide_eq_true c2
        clear c2
        by_cases c3 : 0 ≤ x8_1
        · rw [if_pos c3] at H
          have c3b0 : decide (0 ≤ x8_1) = true := decide_eq_true c3
          clear c3
          by_cases c4 : x8_1 < (l0.length : Int)
          · rw [if_pos c4] at H
            have c4b0 : decide (x8_1 < (l0.length : Int)) = true := decide_eq_true c4
            clear c4
            replace H := Option.bind_eq_some_iff.mp H
            obtain ⟨t205, A50, H⟩ := H
            replace H : (if x3_1.length < 8796093022208 then (addr_text.l0 k1 (x3_1 ++ [t205]) l0 (l0.length : Int) (wrap64 (x8_1 + 1))) else (none)) = some r := H
            have A5 := Aside0.mk A50
            clear A50
            by_cases c6 : x3_1.length < 8796093022208
            · rw [if_pos c6] at H
              have LMc6 := Aside0.mk c6
              clear c6
              obtain ⟨y206, hy206⟩ : ∃ y_ : List ByteArray, y_ = (x3_1 ++ [t205]) := ⟨_, rfl⟩
              replace H : (addr_text.l0 k1 y206 l0 (l0.length : Int) (wrap64 (x8_1 + 1))) = some r := by first | (rw [hy206]; with_reducible exact H) | (have H2_ := (Option.bind_some _ _).symm.trans H; rw [hy206]; with_reducible exact H2_) | (have H2_ := (Option.bind_some _ _).symm.trans H; with_reducible exact H2_) | with_reducible exact H | (rw [hy206]; exact H) | exact H
              have Ny206 := Aside0.mk hy206
              clear hy206
              have H' := Aside0.mk H
              clear H
              have p204 : 0 ≤ (x8_1 : Int) := of_decide_eq_true (by first | (with_reducible assumption) | assumption)
              have q204 : x8_1 < (l0.length : Int) := of_decide_eq_true (by first | (with_reducible assumption) | assumption)
              obtain ⟨ad204, e204, hx204_0⟩ := Kd.at_int HR0.out x8_1 p204 q204
              cases e204
              replace hx204_0 := (HB.out.cell (World.block_lt_of_cell? w _ hx204_0)).trans hx204_0
              replace p204 := eq_true p204
              replace q204 := eq_true q204
              go_wp2_with (first | ((with_reducible refine gate_callee (f := 77) rfl ?_); refine goesL_ (some 14) rfl rfl Tryd.func77 (by kernel_rfl) rfl #[.int .u64 (rd l0 x8_1), .int .i64 16] rfl (by (try simp only [List.map_toArray, List.map_cons, List.map_nil]); first | done | rfl | (simp only [List.length_drop, List.length_take]; rfl)) ?_; (with_reducible refine (strconv_FormatUint.calls (rd l0 x8_1) 16 t205 _ ?side1 A5.out).mono ?_); (case side1 => first | exact hG | exact GoodW.below hG (by repeat (first | (with_reducible first | exact HB.out | apply below_alloc | apply pw_below_drewN | apply below_drew1) | exact HB.out)) | (repeat (first | exact hG | apply GoodW.drewN | apply GoodW.drew))); rintro e w7 ⟨rfl, hb⟩; refine ⟨_, rfl, ?_⟩; have n0_ := Aside0.mk (Kd.R_below (by (with_reducible repeat (first | apply Kd.R_alloc | apply Kd.R_drewN | apply Kd.R_drew)); exact HO_3.out) hb); have n1_ := Aside0.mk (below_step (by repeat (first | (with_reducible first | exact HB.out | apply below_alloc | apply pw_below_drewN | apply below_drew1) | exact HB.out)) hb); clear HO_3; clear HB; have HO_3 := n0_; have HB := n1_; clear n0_ n1_; (try clear hb); (try clear hb2); (try clear hk); (try clear hi)) | ((with_reducible refine gate_builtin (b := .append) (xs := #[.tmp 12, .tmp 15]) rfl ?_); at_builtin; refine Kd.R_append Kd.string (w0 := w) w.heap.size rfl (.tmp 12) (.tmp 15) 80 9 (.string ⟨#[]⟩) 16 rfl Tryd.underlying80 info9 rfl (by decide) (by omega) u3 x3_1 t205 [.string t205] (fun _ => True) (fun _ => False) rfl rfl ?aP (fun _ hk => hk.elim) ?aF ?aO ?aB ?aS ?aL ?_; (case aP => exact rfl); (case aB => exact (by repeat (first | (with_reducible first | exact HB.out | apply below_alloc | apply pw_below_drewN | apply below_drew1) | exact HB.out))); (case aF => exact (fun _ _ => trivial)); (case aO => exact (by (with_reducible repeat (first | apply Kd.R_alloc | apply Kd.R_drewN | apply Kd.R_drew)); exact HO_3.out)); (case aS => exact (below_size (by repeat (first | (with_reducible first | exact HB.out | apply below_alloc | apply pw_below_drewN | apply below_drew1) | exact HB.out)))); (case aL => have := LMc6.out; omega); intro v207 w8 ho hb hg hat; rw [← Ny206.out] at ho; have n0_ := Aside0.mk (hb); have n1_ := Aside0.mk (ho); clear HB; clear HO_3; have HB := n0_; have HO208 := n1_; clear n0_ n1_; clear ho hb hg hat))
              go_roundg k1
              case measure => have := HK1.out; omega
              case rel => exact ⟨(y206), (wrap64 (x8_1 + 1)), (by first | rfl | (simp; done) | (simp [*]; done)), H', ⟨by have := HK1.out; omega⟩, ⟨by (with_reducible repeat (first | apply Kd.R_alloc | apply Kd.R_drewN | apply Kd.R_drew)); exact HO208.out⟩, ⟨by repeat (first | (with_reducible first | exact HB.out | apply below_alloc | apply pw_below_drewN | apply below_drew1) | exact HB.out)⟩⟩
            · rw [if_neg c6] at H
              exact absurd H (by simp)
          · rw [if_neg c4] at H
            exact absurd H (by simp)
        · rw [if_neg c3] at H
          exact absurd H (by simp)
      · rw [if_neg c2] at H
        have c2b0 : decide (x8_1 < (l0.length : Int)) = false := decide_eq_false c2
        clear c2
        replace H := Option.bind_eq_some_iff.mp H
        obtain ⟨t209, A90, H⟩ := H
        replace H : (some t209) = some r := H
        have A9 := Aside0.mk A90
        clear A90
        obtain rfl := Option.some.inj H
        obtain ⟨Ao10, co10, eo10⟩ := Kd.R_slice HO_3.out
        subst eo10
        go_wp2_with (first | ((with_reducible refine gate_callee (f := 55) rfl ?_); refine goesL_ (some 19) rfl rfl Tryd.func55 (by kernel_rfl) rfl #[.slice Ao10 x3_1.length co10, .string (⟨#[58]⟩ : ByteArray)] rfl (by (try simp only [List.map_toArray, List.map_cons, List.map_nil]); first | done | rfl | (simp only [List.length_drop, List.length_take]; rfl)) ?_; (with_reducible refine (strings_Join.calls _ _ x3_1 (⟨#[58]⟩ : ByteArray) t209 _ ?side1 ?side2 ?side3 A9.out).mono ?_); (case side1 => repeat (first | exact (Kd.R_reads' HO_3.out).2.2 | (with_reducible refine Kd.C_alloc ?_ _) | (with_reducible refine Kd.C_drewN ?_ _) | (with_reducible refine Kd.C_drew ?_))); (case side2 => exact (Kd.R_reads' HO_3.out).2.1); (case side3 => first | exact hG | exact GoodW.below hG (by repeat (first | (with_reducible first | exact HB.out | apply below_alloc | apply pw_below_drewN | apply below_drew1) | exact HB.out)) | (repeat (first | exact hG | apply GoodW.drewN | apply GoodW.drew))); rintro e w11 ⟨rfl, hb⟩; refine ⟨_, rfl, ?_⟩; have n0_ := Aside0.mk (Kd.R_below (by (with_reducible repeat (first | apply Kd.R_alloc | apply Kd.R_drewN | apply Kd.R_drew)); exact HO_3.out) hb); have n1_ := Aside0.mk (below_step (by repeat (first | (with_reducible first | exact HB.out | apply below_alloc | apply pw_below_drewN | apply below_drew1) | exact HB.out)) hb); clear HO_3; clear HB; have HO_3 := n0_; have HB := n1_; clear n0_ n1_; (try clear hb); (try clear hb2); (try clear hk); (try clear hi)))
        go_ret
        exact ⟨by first | rfl | (simp [errW_none, errW_some] <;> rfl) | (simp [*, errW_none, errW_some] <;> rfl), by repeat (first | (with_reducible first | exact HB.out | apply below_alloc | apply pw_below_drewN | apply below_drew1) | exact HB.out)⟩
end Go.Proofs.YtfnacgojmdbjmaaDoor.PPH
end

section
/- Rows of groups: the printed functions (row, zeros, text), as contracts of calls in W. No conditions. -/
namespace Go.Det
def exN : Nat → (List Int → Prop) → Prop
  | 0, k => k []
  | n + 1, k => ∃ x : Int, exN n fun l => k (x :: l)
theorem exN_intro {k : List Int → Prop} : ∀ {n : Nat} {l : List Int}, l.length = n → k l → exN n k
  | 0, [], _, h => h
  | n + 1, x :: t, e, h => ⟨x, exN_intro (n := n) (l := t) (by simpa using e) h⟩
  | 0, _ :: _, e, _ => by simp at e
  | _ + 1, [], e, _ => by simp at e
theorem exN_some {k : List Int → Prop} : ∀ {n : Nat}, exN n k → ∃ l, l.length = n ∧ k l
  | 0, h => ⟨[], rfl, h⟩
  | n + 1, h => by
    obtain ⟨x, h⟩ := h
    obtain ⟨l, e, h⟩ := exN_some (n := n) h
    exact ⟨x :: l, by simp [e], h⟩
def oneOf {α : Type} : List α → (α → Prop) → Prop
  | [], _ => False
  | x :: t, k => k x ∨ oneOf t k
theorem oneOf_some {α : Type} {k : α → Prop} : ∀ {l : List α}, oneOf l k → ∃ x ∈ l, k x
  | [], h => h.elim
  | x :: t, h => by
    rcases h with h | h
    · exact ⟨x, List.mem_cons_self, h⟩
    · obtain ⟨y, h1, h2⟩ := oneOf_some h
      exact ⟨y, List.mem_cons_of_mem _ h1, h2⟩
theorem oneOf_intro {α : Type} {k : α → Prop} : ∀ {l : List α} {x : α}, x ∈ l → k x → oneOf l k
  | y :: t, x, h, hk => by
    rcases List.mem_cons.1 h with rfl | h
    · exact .inl hk
    · exact .inr (oneOf_intro h hk)
noncomputable def Con.readsS {β γ δ : Type} (shapes : List δ) (d : Value → Option β) (dr : List Value → Option γ) (F : List β → γ → Option δ) (enc : δ → Value) : Con where
  own := readD d dr F enc
  w := fun args s K => match args with
    | v :: rest => (match isSl v with
      | true => (match dr rest with
        | some g => (match lenD v with
          | some n => (match srcCells s 1 n v with
            | some x => (match decL d x.1 with
              | some l => oneOf shapes fun r => F l g = some r ∧ K (enc r) x.2
              | none => False)
            | none => False)
          | none => False)
        | none => False)
      | false => False)
    | [] => False
  ok := by
    intro args s K h
    unfold readD
    split at h
    case h_2 => exact h.elim
    split at h
    case h_2 => exact h.elim
    rename_i h1
    split at h
    case h_2 => exact h.elim
    rename_i g h2
    split at h
    case h_2 => exact h.elim
    rename_i n h3
    split at h
    case h_2 => exact h.elim
    rename_i x h4
    split at h
    case h_2 => exact h.elim
    rename_i l h5
    obtain ⟨r, hm, hr, hk⟩ := oneOf_some h
    exact ⟨enc r, x.2, by simp only [h1, h2, h3, h4, h5, hr], hk, fun K' k => oneOf_intro hm ⟨hr, k⟩⟩
  mono := by
    intro args s K K' k h
    split at h
    case h_2 => exact h.elim
    split at h
    case h_2 => exact h.elim
    rename_i h1
    split at h
    case h_2 => exact h.elim
    rename_i g h2
    split at h
    case h_2 => exact h.elim
    rename_i n h3
    split at h
    case h_2 => exact h.elim
    rename_i x h4
    split at h
    case h_2 => exact h.elim
    rename_i l h5
    obtain ⟨r, hm, hr, hk⟩ := oneOf_some h
    first | exact oneOf_intro hm ⟨hr, k _ _ hk⟩ | (simp only [*]; exact oneOf_intro hm ⟨hr, k _ _ hk⟩)
noncomputable def decSL : List Value → Option (ByteArray × Bool)
  | [.string t, .bool last] => some (t, last)
  | _ => none
theorem decSL_enc {args : List Value} {a : ByteArray × Bool} (h : decSL args = some a) : args = [.string a.1, .bool a.2] := by
  unfold decSL at h
  split at h
  case h_2 => cases h
  cases h; rfl
noncomputable def rowD (F : ByteArray × Bool → Option (List Int × Bool)) (e : TypeId) (args : List Value) (s : St) : Option (Value × St) :=
  match decSL args with
  | some a => (match F a with
    | some r => (match a.1.data.toList with
      | [] => some (.tuple #[.slice none 0 0, .bool r.2], s)
      | _ :: _ => (match r.1 with
        | [] => some (.tuple #[emp, .bool r.2], s)
        | _ :: _ => some (.tuple #[.slice (some ⟨s.next, 0, none⟩) r.1.length (capU + 1), .bool r.2], s.new (.cells (r.1.map (Value.int .u64)) (2 * e) false))))
    | none => none)
  | none => none
theorem rowD_tr (F : ByteArray × Bool → Option (List Int × Bool)) (e : TypeId) (args : List Value) : Tr (rowD F e args) := by
  cases h1 : decSL args with
  | none => exact pure_tr none fun s => by unfold rowD; simp only [h1]
  | some a =>
    cases h2 : F a with
    | none => exact pure_tr none fun s => by unfold rowD; simp only [h1, h2]
    | some r =>
      cases h3 : a.1.data.toList with
      | nil => exact pure_tr (some (.tuple #[.slice none 0 0, .bool r.2])) fun s => by unfold rowD; simp only [h1, h2, h3]
      | cons x t =>
        cases h4 : r.1 with
        | nil => exact pure_tr (some (.tuple #[emp, .bool r.2])) fun s => by unfold rowD; simp only [h1, h2, h3, h4]
        | cons y u => exact new_tr (some (Blk.cells (r.1.map (Value.int .u64)) (2 * e) false, fun k => .tuple #[.slice (some ⟨k, 0, none⟩) r.1.length (capU + 1), .bool r.2])) fun s => by unfold rowD; simp only [h1, h2, h3, h4]
noncomputable def Con.rowS (F : ByteArray × Bool → Option (List Int × Bool)) (e : TypeId) (h t : Nat) : Con where
  own := rowD F e
  w := fun args s K => match decSL args with
    | some a => (match (match a.2 with | true => t | false => h) with
      | 0 => a.1.data.toList = [] ∧ (F a = some ([], true) ∧ K (.tuple #[.slice none 0 0, .bool true]) s)
      | n + 1 => a.1.data.toList ≠ [] ∧ exN (n + 1) fun l => F a = some (l, true) ∧ K (.tuple #[.slice (some ⟨s.next, 0, none⟩) (n + 1) (capU + 1), .bool true]) (s.new (.cells (l.map (Value.int .u64)) (2 * e) false)))
    | none => False
  ok := by
    intro args s K h
    unfold rowD
    split at h
    case h_2 => exact h.elim
    rename_i a h1
    split at h
    · rename_i hn
      obtain ⟨h2, h3, hk⟩ := h
      exact ⟨_, _, by simp only [h1, h3, h2], hk, fun K' k => by (try simp only [h1, hn]); exact ⟨h2, h3, k⟩⟩
    · rename_i n hn
      obtain ⟨h2, h⟩ := h
      obtain ⟨l, hl, h3, hk⟩ := exN_some h
      cases hl2 : a.1.data.toList with
      | nil => exact absurd hl2 h2
      | cons x u =>
        cases l with
        | nil => simp at hl
        | cons y v =>
          refine ⟨_, _, by simp only [h1, h3, hl2]; rfl, by rw [hl]; exact hk, fun K' k => ?_⟩
          rw [hl] at k
          try simp only [h1, hn]
          exact ⟨by simp, exN_intro hl ⟨h3, k⟩⟩
  mono := by
    intro args s K K' k h
    split at h
    case h_2 => exact h.elim
    rename_i a h1
    split at h
    · rename_i hn
      try simp only [h1, hn]
      exact ⟨h.1, h.2.1, k _ _ h.2.2⟩
    · rename_i n hn
      obtain ⟨h2, h⟩ := h
      obtain ⟨l, hl, h3, hk⟩ := exN_some h
      try simp only [h1, hn]
      exact ⟨h2, exN_intro hl ⟨h3, k _ _ hk⟩⟩
noncomputable def Con.rowB (F : ByteArray × Bool → Option (List Int × Bool)) (e : TypeId) : Con where
  own := rowD F e
  w := fun args s K => match decSL args with
    | some a => ∃ r : List Int × Bool, F a = some r ∧ ((a.1.data.toList = [] ∧ K (.tuple #[.slice none 0 0, .bool r.2]) s) ∨ ((a.1.data.toList ≠ [] ∧ (r.1 = [] ∧ K (.tuple #[emp, .bool r.2]) s)) ∨ (a.1.data.toList ≠ [] ∧ (r.1 ≠ [] ∧ K (.tuple #[.slice (some ⟨s.next, 0, none⟩) r.1.length (capU + 1), .bool r.2]) (s.new (.cells (r.1.map (Value.int .u64)) (2 * e) false))))))
    | none => False
  ok := by
    intro args s K h
    unfold rowD
    split at h
    case h_2 => exact h.elim
    rename_i a h1
    obtain ⟨r, h2, h | h | h⟩ := h
    · exact ⟨_, _, by simp only [h1, h2, h.1], h.2, fun K' k => by (try simp only [h1]); exact ⟨r, h2, .inl ⟨h.1, k⟩⟩⟩
    · cases hl : a.1.data.toList with
      | nil => exact absurd hl h.1
      | cons x t => exact ⟨_, _, by simp only [h1, h2, hl, h.2.1], h.2.2, fun K' k => by (try simp only [h1]); exact ⟨r, h2, .inr (.inl ⟨by simp, h.2.1, k⟩)⟩⟩
    · cases hl : a.1.data.toList with
      | nil => exact absurd hl h.1
      | cons x t => cases hr : r.1 with
        | nil => exact absurd hr h.2.1
        | cons y u =>
          refine ⟨_, _, by simp only [h1, h2, hl, hr]; rfl, by rw [← hr]; exact h.2.2, fun K' k => ?_⟩
          rw [← hr] at k
          try simp only [h1]
          exact ⟨r, h2, .inr (.inr ⟨by simp, h.2.1, k⟩)⟩
  mono := by
    intro args s K K' k h
    split at h
    case h_2 => exact h.elim
    rename_i a h1
    obtain ⟨r, h2, h | h | h⟩ := h
    · (try simp only [h1]); exact ⟨r, h2, .inl ⟨h.1, k _ _ h.2⟩⟩
    · (try simp only [h1]); exact ⟨r, h2, .inr (.inl ⟨h.1, h.2.1, k _ _ h.2.2⟩)⟩
    · (try simp only [h1]); exact ⟨r, h2, .inr (.inr ⟨h.1, h.2.1, k _ _ h.2.2⟩)⟩
theorem own_rowD {P : Program} {W : World} {G : Nat} {Gd : World → Prop} {f : FuncId} {fn : Func} {c : Code} {F : ByteArray × Bool → Option (List Int × Bool)} {e : TypeId} {g : Own}
    (hW : ∀ w, Later W w → Gd w) (hf : P.funcs[f]? = some fn) (hb : fn.body = some c) (hnm : (fn.name == "runtime.NumGoroutine") = false)
    (hE : OwnAll P W G f g) (hg : ∀ last r s, F (⟨⟨[]⟩⟩, last) = some r → g [.string ⟨⟨[]⟩⟩, .bool last] s = some (.tuple #[.slice none 0 0, .bool r.2], s))
    (h : ∀ t last r, F (t, last) = some r → ∀ w, Gd w → Calls P f #[.string t, .bool last] w fun z w' => ∃ v, z = .returned (.tuple #[v, .bool r.2]) ∧ (w'.os = w.os ∧ w'.tape = w.tape ∧ w'.output = w.output ∧ w.heap.size ≤ w'.heap.size ∧ ∀ j, j < w.heap.size → w'.heap[j]? = w.heap[j]?) ∧ w'.ownsRow w.heap.size e 1 v r.1.length (r.1.map (Value.int .u64))) :
    OwnAll P W G f (rowD F e) := by
  refine ⟨rowD_tr F e, fun W1 k1 args s v s' ed φ w args' H hGl hA hfr hfull => ?_⟩
  unfold rowD at ed
  split at ed
  case h_2 => cases ed
  rename_i a h1
  obtain rfl := decSL_enc h1
  split at ed
  case h_2 => cases ed
  rename_i r h2
  obtain ⟨t, last⟩ := a
  split at ed
  · rename_i h3
    cases ed
    have ht : t = ⟨⟨[]⟩⟩ := by
      obtain ⟨⟨l⟩⟩ := t
      have : l = [] := h3
      rw [this]
    subst ht
    exact hE.2 W1 k1 _ _ _ _ (hg last r s h2) φ w args' H hGl hA hfr hfull
  · have kw : Later W w := k1.trans H.later
    rw [flat2L_inv (show flat2L [.string t, .bool last] = true from rfl) hA, callFunc_run hf hb hnm]
    have hc := h t last r h2 w (hW w kw)
    split at ed
    · rename_i h4
      cases ed
      refine Calls.mono hc ?_
      rintro z W' ⟨v, rfl, hB, hl, ho⟩
      refine ⟨_, φ, rfl, Ext.refl _ _ _, VR.tuple_of ⟨rfl, fun i => ?_⟩, H.keep ⟨hB.1, hB.2.2.1, hB.2.2.2.1, hB.2.2.2.2⟩ hB.2.1⟩
      match i with
      | 0 =>
        rw [h4] at ho
        rcases ho with ⟨rfl, _⟩ | ⟨g, cap, cur, rfl, _⟩
        · exact VR.emp none 0 (by intro x hx; cases hx)
        · exact VR.emp _ cap (by intro x hx; cases hx; rfl)
      | 1 => exact VR.bool _
      | n + 2 => exact VR.any _
    · rename_i x u h4
      cases ed
      refine Calls.mono hc ?_
      rintro z W' ⟨v, rfl, hB, hl, ho⟩
      rcases ho with ⟨_, ho⟩ | ⟨g, cap, cur, rfl, hg', hblk, hcap, _, hsz, hcur⟩
      · rw [h4] at ho; simp at ho
      have hnew : φ s.next = none := hfr s.next (Nat.le_refl _) (by show s.next < Nat.max s.hi (s.next + 1); exact Nat.lt_of_lt_of_le (Nat.lt_succ_self _) (Nat.le_max_right _ _))
      rw [Nat.mul_one] at hsz hl hcur
      refine ⟨_, upd φ s.next (g, 0, cur.size), rfl, Ext.upd hnew _, VR.tuple_of ⟨rfl, fun i => ?_⟩, ?_⟩
      · match i with
        | 0 => exact VR.sliceU (φ := upd φ s.next (g, 0, cur.size)) s.next 0 g 0 cur.size r.1.length cap 1 (upd_same _ _ _) (by decide) (by omega) hcap
        | 1 => exact VR.bool _
        | n + 2 => exact VR.any _
      · refine H.adopt (w' := W') hnew hB.1 hB.2.2.1 hB.2.1 hB.2.2.2.1 (fun j hj _ => hB.2.2.2.2 j hj) (Nat.le_trans H.size hg') (fz := (0, 0)) (c := cur) (by rw [half0]; exact hblk) (fun _ => rfl) ?_ rfl ?_ (fun i hi => ?_) (fun _ o _ => by simp) (fun O q => by rw [Array.getElem?_eq_none hg'] at q; cases q)
        · intro j cj ej rj bj sj zj _ a'
          have := H.dom _ _ _ _ a'
          omega
        · rw [hl, hsz]; omega
        · have hv : (r.1.map (Value.int .u64)).getD i und = cur.getD i und := by
            rw [← hcur, List.getD_eq_getElem?_getD, Array.getD_eq_getD_getElem?, List.getElem?_take, if_pos (by rw [← hl]; exact hi)]
            simp
          rw [Nat.zero_add, hv]
          refine flat_self ?_ _
          rw [← hv, List.getD_eq_getElem?_getD, List.getElem?_eq_getElem hi]
          have hm := List.getElem_mem hi
          obtain ⟨y, _, hy⟩ := List.mem_map.1 hm
          simp only [Option.getD_some]
          rw [← hy]; rfl
end Go.Det
end

section
/- Conditions, reckoned by the kernel. -/
namespace Go.Proofs.YtfnacgojmdbjmaaDoor
open Go.Det Go.RowKit  Go.Proofs.YtfnacgojmdbjmaaDoorW.PrintWords
set_option maxRecDepth 100000
theorem vr0 (l : Bool) (Q : Value → Prop) : codeU Tryd.prog (cwC []) ox0 0 (bodyOf Tryd.f75) (inTab [.string ⟨⟨[]⟩⟩, .bool l] 8) (birth [] 64) (retW Tryd.prog Tryd.f75 fun v _ => Q v) = (bifW (cdec (Array.toList (ByteArray.data { data := { toList := [] } }) = Array.toList (ByteArray.data { data := #[] }))) (Q (Value.tuple #[Value.slice Option.none 0 0, Value.bool Bool.true])) (False)) := by kernel_rfl
end Go.Proofs.YtfnacgojmdbjmaaDoor
end

section
/- Rows of groups: row, zeros, text as contracts of calls in W. No conditions. -/
namespace Go.Proofs.YtfnacgojmdbjmaaDoor
open Go.Det Go.RowKit Go.Proofs.YtfnacgojmdbjmaaDoorW.PrintWords Go.Proofs.YtfnacgojmdbjmaaDoor.PPH
set_option maxRecDepth 100000
theorem reps_map {α : Type} {R : α → List Value → Prop} {enc : α → Value} (hR : ∀ p c, R p c → c = [enc p]) : ∀ {ps : List α} {cs : List Value}, Reps R 1 ps cs → cs = ps.map enc
  | [], cs, h => by
    have := h.1
    simp at this
    simpa using this
  | x :: t, cs, h => by
    have h0 := hR _ _ (h.2 0 x rfl)
    rw [Nat.zero_mul, List.drop_zero] at h0
    have ht : Reps R 1 t (cs.drop 1) := by
      refine ⟨by rw [List.length_drop, h.1, List.length_cons, Nat.succ_mul]; omega, fun j p hj => ?_⟩
      have := h.2 (j + 1) p (by simpa using hj)
      rw [List.drop_drop, show 1 + j * 1 = (j + 1) * 1 by omega]
      exact this
    rw [List.map_cons, ← reps_map hR ht]
    conv => lhs; rw [← List.take_append_drop 1 cs, h0]
    rfl
def rowF (x : ByteArray × Bool) : Option (List Int × Bool) := addr_row.f 1000 x.1 x.2
noncomputable def decE : List Value → Option Bool
  | [.string ⟨⟨[]⟩⟩, .bool l] => some l
  | _ => none
theorem decE_enc {args : List Value} {a : Bool} (h : decE args = some a) : args = [.string ⟨⟨[]⟩⟩, .bool a] := by
  unfold decE at h
  split at h
  case h_2 => cases h
  cases h; rfl
noncomputable def con75e : Con := Con.flat decE (fun _ => true) fun _ => .tuple #[.slice none 0 0, .bool true]
theorem om75e {W : World} (hW : GoodW W) : OwnAll Tryd.prog W 6 75 con75e.own :=
  con_flat (fun l : Bool => [.string ⟨⟨[]⟩⟩, .bool l]) (Laying.empty hW.size) hW.size (by decide) dt_mixed (l := []) (ownsAll_nil W 6) Tryd.func75 (fn := Tryd.f75) (c := bodyOf Tryd.f75) (by kernel_rfl) (by kernel_rfl) (fun _ _ h => decE_enc h) (fun a => ⟨rfl, rfl, (by kernel_rfl)⟩) fun a _ =>
    codeU_codeW (cwC_mono _) ox0_ok (by kernel_rfl) ((vr0 a _).mpr (bifW_t rfl rfl))
theorem rowE {l : Bool} {r : List Int × Bool} (h : rowF (⟨⟨[]⟩⟩, l) = some r) : r = ([], true) := by
  unfold rowF addr_row.f at h
  rw [if_pos (show ByteArray.toList ⟨⟨[]⟩⟩ = [] by rw [ByteArray.toList_eq])] at h
  cases h; rfl
theorem om75 {W : World} (hW : GoodW W) : OwnAll Tryd.prog W 6 75 (rowD rowF 27) :=
  own_rowD (fn := Tryd.f75) (c := bodyOf Tryd.f75) (Gd := GoodW) (g := con75e.own) (fun w k => hW.later k.size k.old) Tryd.func75 (by kernel_rfl) (by kernel_rfl) (om75e hW)
    (fun last r s h => by cases rowE h; rfl)
    fun t last r h w hG => (addr_row.calls 1000 t last r.1 r.2 w hG h).mono (by
      rintro e w' ⟨v, rfl, hR, hB⟩
      obtain ⟨_, inner, ho, hreps⟩ := hR
      obtain rfl := reps_map (enc := Value.int .u64) (fun p c h => h) hreps
      exact ⟨v, rfl, ⟨hB.os, hB.tape, hB.output, hB.size, hB.block⟩, ho⟩)
noncomputable def con75 (h t : Nat) : Con := Con.rowS rowF 27 h t
noncomputable def con75b : Con := Con.rowB rowF 27
noncomputable def dU : Value → Option Int
  | .int .u64 n => some n
  | _ => none
noncomputable def dNo : List Value → Option Unit
  | [] => some ()
  | _ => none
theorem dU_enc {v : Value} {b : Int} (h : dU v = some b) : v = .int .u64 b := by
  unfold dU at h
  split at h
  · cases h; rfl
  · cases h
theorem dNo_enc {r : List Value} {g : Unit} (h : dNo r = some g) : r = [] := by
  unfold dNo at h
  split at h
  · rfl
  · cases h
theorem row_reads {w : World} {A : Option Addr} {l : List Int} (hl : l.length ≤ 9223372036854775807) (h : RowAt (Value.int .u64) w A l) : Kd.C (Kd.int .u64) w A l.length l := by
  refine ⟨rfl, hl, fun h0 => ?_⟩
  rcases h with rfl | ⟨b, o, rfl, h⟩
  · simp at h0
  refine ⟨_, rfl, fun j p hj => ⟨[.int .u64 p], rfl, rfl, fun i u hu => ?_⟩⟩
  match i, hu with
  | 0, hu =>
    cases hu
    have := h j p hj
    unfold Addr.add
    split
    · rename_i q
      have : j = 0 := by simpa [Kd.int, Kd.scalar] using q
      subst this; simpa using ‹w.cell? _ = _›
    · simpa [Kd.int, Kd.scalar] using this
  | i + 1, hu => simp at hu
def zerosF (l : List Int) (_ : Unit) : Option (Int × Int) := if l.length ≤ 8 then addr_zeros.f 300 l else none
def textF (l : List Int) (_ : Unit) : Option ByteArray := if l.length ≤ 8 then addr_text.f 300 l else none
noncomputable def enII (y : Int × Int) : Value := .tuple #[.int .i64 y.1, .int .i64 y.2]
noncomputable def enS (y : ByteArray) : Value := .string y
theorem om57 {W : World} (hW : GoodW W) : OwnAll Tryd.prog W 6 57 (readD dU dNo zerosF enII) :=
  own_reads (fn := Tryd.f57) (c := bodyOf Tryd.f57) (e := Value.int .u64) (er := fun _ => []) (Gd := GoodW) (fun w k => hW.later k.size k.old) Tryd.func57 (by kernel_rfl) (by kernel_rfl) (fun v b h => dU_enc h) (fun b => ⟨rfl, by intro h; cases h⟩) (fun r g h => dNo_enc h) (fun _ => rfl) fun l g r hF => ⟨rfl, (by intro h; cases h), fun w A c hG hc hR => by
    unfold zerosF at hF
    split at hF
    case isFalse => cases hF
    rename_i hl
    refine (addr_zeros.calls 300 A c l r.1 r.2 w (row_reads (by omega) hR) hc hG hF).mono ?_
    rintro e w' ⟨rfl, hB⟩
    have hB := hB.below
    exact ⟨rfl, hB.os, hB.tape, hB.output, hB.size, hB.block⟩⟩
theorem om58 {W : World} (hW : GoodW W) : OwnAll Tryd.prog W 6 58 (readD dU dNo textF enS) :=
  own_reads (fn := Tryd.f58) (c := bodyOf Tryd.f58) (e := Value.int .u64) (er := fun _ => []) (Gd := GoodW) (fun w k => hW.later k.size k.old) Tryd.func58 (by kernel_rfl) (by kernel_rfl) (fun v b h => dU_enc h) (fun b => ⟨rfl, by intro h; cases h⟩) (fun r g h => dNo_enc h) (fun _ => rfl) fun l g r hF => ⟨rfl, (by intro h; cases h), fun w A c hG hc hR => by
    unfold textF at hF
    split at hF
    case isFalse => cases hF
    rename_i hl
    refine (addr_text.calls 300 A c l r w (row_reads (by omega) hR) hc hG hF).mono ?_
    rintro e w' ⟨rfl, hB⟩
    exact ⟨rfl, hB.os, hB.tape, hB.output, hB.size, hB.block⟩⟩
def zpairs : List (Int × Int) := [(0, 0), (0, 2), (0, 3), (0, 4), (0, 5), (0, 6), (0, 7), (0, 8), (1, 3), (1, 4), (1, 5), (1, 6), (1, 7), (1, 8), (2, 4), (2, 5), (2, 6), (2, 7), (2, 8), (3, 5), (3, 6), (3, 7), (3, 8), (4, 6), (4, 7), (4, 8), (5, 7), (5, 8), (6, 8)]
noncomputable def con57 : Con := Con.readsS zpairs dU dNo zerosF enII
noncomputable def con58 : Con := Con.reads dU dNo textF enS
end Go.Proofs.YtfnacgojmdbjmaaDoor
end

section
/- addr.six: its words: the cut known to be there, or not. No conditions. -/
namespace Go.Proofs.YtfnacgojmdbjmaaDoor
open Go.Det Go.RowKit Go.Proofs.YtfnacgojmdbjmaaDoorW.PrintWords Go.Proofs.YtfnacgojmdbjmaaDoor.PPH
set_option maxRecDepth 100000
noncomputable def con60k (b : Bool) : Con where
  own := con60.own
  w := fun args s K => match decSS args with
    | some a => ∃ x y : ByteArray, cutF a.1 a.2 = some (x, y, b) ∧ K (.tuple #[.string x, .string y, .bool b]) s
    | none => False
  ok := by
    intro args s K h
    split at h
    · rename_i a ha
      obtain ⟨x, y, h, hk⟩ := h
      exact ⟨.tuple #[.string x, .string y, .bool b], s, by unfold con60 Con.opt pureD; simp only [ha, h], hk, fun K' k => ⟨x, y, h, k⟩⟩
    · exact h.elim
  mono := by
    intro args s K K' k h
    split at h
    · obtain ⟨x, y, h, hk⟩ := h
      exact ⟨x, y, h, k _ _ hk⟩
    · exact h.elim
noncomputable def LsixT (h t : Nat) : List (Nat × Con) := [(60, con60k true), (75, con75 h t)]
noncomputable def LsixB (b : Bool) : List (Nat × Con) := [(60, con60k b), (75, con75b)]
noncomputable def con75w : Con where
  own := rowD rowF 27
  w := fun args s K => match decSL args with
    | some a => (a.1.data.toList = [] ∧ (rowF a = some ([], true) ∧ K (.tuple #[.slice none 0 0, .bool true]) s)) ∨ (a.1.data.toList ≠ [] ∧ exN 8 fun l => rowF a = some (l, true) ∧ K (.tuple #[.slice (some ⟨s.next, 0, none⟩) 8 (capU + 1), .bool true]) (s.new (.cells (l.map (Value.int .u64)) (2 * 27) false)))
    | none => False
  ok := by
    intro args s K h
    split at h
    case h_2 => exact h.elim
    rename_i a ha
    rcases h with ⟨h2, h3, hk⟩ | ⟨h2, h⟩
    · refine ⟨_, _, by unfold rowD; simp only [ha, h3, h2], hk, fun K' k => .inl ⟨h2, h3, k⟩⟩
    · obtain ⟨l, hl, h3, hk⟩ := exN_some h
      cases hl2 : a.1.data.toList with
      | nil => exact absurd hl2 h2
      | cons x u =>
        cases l with
        | nil => simp at hl
        | cons y v =>
          refine ⟨_, _, by unfold rowD; simp only [ha, h3, hl2]; rfl, by rw [hl]; exact hk, fun K' k => ?_⟩
          rw [hl] at k
          exact .inr ⟨by simp, exN_intro hl ⟨h3, k⟩⟩
  mono := by
    intro args s K K' k h
    split at h
    case h_2 => exact h.elim
    rename_i a ha
    rcases h with ⟨h2, h3, hk⟩ | ⟨h2, h⟩
    · exact .inl ⟨h2, h3, k _ _ hk⟩
    · obtain ⟨l, hl, h3, hk⟩ := exN_some h
      exact .inr ⟨h2, exN_intro hl ⟨h3, k _ _ hk⟩⟩
noncomputable def LsixW : List (Nat × Con) := [(60, con60k false), (75, con75w)]
end Go.Proofs.YtfnacgojmdbjmaaDoor
end

section
/- Conditions, reckoned by the kernel. -/
namespace Go.Proofs.YtfnacgojmdbjmaaDoor
open Go.Det Go.RowKit  Go.Proofs.YtfnacgojmdbjmaaDoorW.PrintWords
set_option maxRecDepth 100000
abbrev z0 : Value := .tuple #[.agg #[.int .i64 0, .int .u64 0, .int .u64 0], .bool false]
abbrev zw (a b c d : Int) : Int := orI .u64 (shlI .u64 (orI .u64 (shlI .u64 (orI .u64 (shlI .u64 (orI .u64 (shlI .u64 0 16) a) 16) b) 16) c) 16) d
abbrev z6 (a b c d e f g h : Int) : Value := .tuple #[.agg #[.int .i64 6, .int .u64 (zw a b c d), .int .u64 (zw e f g h)], .bool true]
abbrev zt (p : Prop) : Prop := true = true ∧ (true = true ∧ (true = true ∧ p))
abbrev zr (p : Prop) : Prop := (((0 : Int) ≤ 16) ∧ ((((0 : Int) ≤ 0) ∧ (0 < (↑8 : Int))) ∧ (((0 : Int) ≤ 16) ∧ ((((0 : Int) ≤ 4) ∧ (4 < (↑8 : Int))) ∧ ((true = true) ∧ (((0 : Int) ≤ 16) ∧ ((((0 : Int) ≤ 1) ∧ (1 < (↑8 : Int))) ∧ (((0 : Int) ≤ 16) ∧ ((((0 : Int) ≤ 5) ∧ (5 < (↑8 : Int))) ∧ ((true = true) ∧ (((0 : Int) ≤ 16) ∧ ((((0 : Int) ≤ 2) ∧ (2 < (↑8 : Int))) ∧ (((0 : Int) ≤ 16) ∧ ((((0 : Int) ≤ 6) ∧ (6 < (↑8 : Int))) ∧ ((true = true) ∧ (((0 : Int) ≤ 16) ∧ ((((0 : Int) ≤ 3) ∧ (3 < (↑8 : Int))) ∧ (((0 : Int) ≤ 16) ∧ ((((0 : Int) ≤ 7) ∧ (7 < (↑8 : Int))) ∧ ((true = true) ∧ p))))))))))))))))))))
abbrev zb (s : ByteArray) (Q : Value → Prop) (p : Prop) : Prop := bifW (cdec (s.data.toList = Array.toList (ByteArray.data { data := #[] }))) (Q z0) p
abbrev zc (a b : Bool) (Q : Value → Prop) (p : Prop) : Prop := bifW (!a) (Q z0) (bifW (!b) (Q z0) p)
noncomputable abbrev zS (l : List (Nat × Con)) (s : ByteArray) (Q : Value → Prop) : Prop := codeU Tryd.prog (cwC l) (oxE [51, 59, 68, 76]) 9 (bodyOf Tryd.f52) (inTab [.string s] 8) (birth [] 64) (retW Tryd.prog Tryd.f52 fun v _ => Q v)
theorem vs01 (s : ByteArray) (Q : Value → Prop) : zS (LsixT 0 1) s Q = ((∃ x0 : ByteArray, (∃ x1 : ByteArray, ((cutF s { data := #[58, 58] } = some (x0, x1, true)) ∧ ((x0.data.toList = []) ∧ ((rowF (x0, !true) = some ([], true)) ∧ ((x1.data.toList ≠ []) ∧ (∃ x2 : Int, ((rowF (x1, true) = some ([x2], true)) ∧ zb s Q ((zt ((zt ((zt (((true = true) ∧ zr (Q (z6 0 0 0 0 0 0 0 x2))))))))))))))))))) := by kernel_rfl
theorem vs03 (s : ByteArray) (Q : Value → Prop) : zS (LsixT 0 3) s Q = ((∃ x0 : ByteArray, (∃ x1 : ByteArray, ((cutF s { data := #[58, 58] } = some (x0, x1, true)) ∧ ((x0.data.toList = []) ∧ ((rowF (x0, !true) = some ([], true)) ∧ ((x1.data.toList ≠ []) ∧ (∃ x2 : Int, (∃ x3 : Int, (∃ x4 : Int, ((rowF (x1, true) = some ([x2, x3, x4], true)) ∧ zb s Q ((zt ((zt (((true = true) ∧ ((true = true) ∧ zr (Q (z6 0 0 0 0 0 x2 x3 x4)))))))))))))))))))) := by kernel_rfl
theorem vs05 (s : ByteArray) (Q : Value → Prop) : zS (LsixT 0 5) s Q = ((∃ x0 : ByteArray, (∃ x1 : ByteArray, ((cutF s { data := #[58, 58] } = some (x0, x1, true)) ∧ ((x0.data.toList = []) ∧ ((rowF (x0, !true) = some ([], true)) ∧ ((x1.data.toList ≠ []) ∧ (∃ x2 : Int, (∃ x3 : Int, (∃ x4 : Int, (∃ x5 : Int, (∃ x6 : Int, ((rowF (x1, true) = some ([x2, x3, x4, x5, x6], true)) ∧ zb s Q ((zt ((zt (zr (Q (z6 0 0 0 x2 x3 x4 x5 x6)))))))))))))))))))) := by kernel_rfl
theorem vs07 (s : ByteArray) (Q : Value → Prop) : zS (LsixT 0 7) s Q = ((∃ x0 : ByteArray, (∃ x1 : ByteArray, ((cutF s { data := #[58, 58] } = some (x0, x1, true)) ∧ ((x0.data.toList = []) ∧ ((rowF (x0, !true) = some ([], true)) ∧ ((x1.data.toList ≠ []) ∧ (∃ x2 : Int, (∃ x3 : Int, (∃ x4 : Int, (∃ x5 : Int, (∃ x6 : Int, (∃ x7 : Int, (∃ x8 : Int, ((rowF (x1, true) = some ([x2, x3, x4, x5, x6, x7, x8], true)) ∧ zb s Q ((zt (((true = true) ∧ zr (Q (z6 0 x2 x3 x4 x5 x6 x7 x8))))))))))))))))))))) := by kernel_rfl
theorem vs11 (s : ByteArray) (Q : Value → Prop) : zS (LsixT 1 1) s Q = ((∃ x0 : ByteArray, (∃ x1 : ByteArray, ((cutF s { data := #[58, 58] } = some (x0, x1, true)) ∧ ((x0.data.toList ≠ []) ∧ (∃ x2 : Int, ((rowF (x0, !true) = some ([x2], true)) ∧ ((x1.data.toList ≠ []) ∧ (∃ x3 : Int, ((rowF (x1, true) = some ([x3], true)) ∧ zb s Q ((zt ((zt ((zt (zr (Q (z6 x2 0 0 0 0 0 0 x3))))))))))))))))))) := by kernel_rfl
theorem vs13 (s : ByteArray) (Q : Value → Prop) : zS (LsixT 1 3) s Q = ((∃ x0 : ByteArray, (∃ x1 : ByteArray, ((cutF s { data := #[58, 58] } = some (x0, x1, true)) ∧ ((x0.data.toList ≠ []) ∧ (∃ x2 : Int, ((rowF (x0, !true) = some ([x2], true)) ∧ ((x1.data.toList ≠ []) ∧ (∃ x3 : Int, (∃ x4 : Int, (∃ x5 : Int, ((rowF (x1, true) = some ([x3, x4, x5], true)) ∧ zb s Q ((zt ((zt (((true = true) ∧ zr (Q (z6 x2 0 0 0 0 x3 x4 x5)))))))))))))))))))) := by kernel_rfl
theorem vs15 (s : ByteArray) (Q : Value → Prop) : zS (LsixT 1 5) s Q = ((∃ x0 : ByteArray, (∃ x1 : ByteArray, ((cutF s { data := #[58, 58] } = some (x0, x1, true)) ∧ ((x0.data.toList ≠ []) ∧ (∃ x2 : Int, ((rowF (x0, !true) = some ([x2], true)) ∧ ((x1.data.toList ≠ []) ∧ (∃ x3 : Int, (∃ x4 : Int, (∃ x5 : Int, (∃ x6 : Int, (∃ x7 : Int, ((rowF (x1, true) = some ([x3, x4, x5, x6, x7], true)) ∧ zb s Q ((zt (((true = true) ∧ ((true = true) ∧ zr (Q (z6 x2 0 0 x3 x4 x5 x6 x7))))))))))))))))))))) := by kernel_rfl
theorem vs20 (s : ByteArray) (Q : Value → Prop) : zS (LsixT 2 0) s Q = ((∃ x0 : ByteArray, (∃ x1 : ByteArray, ((cutF s { data := #[58, 58] } = some (x0, x1, true)) ∧ ((x0.data.toList ≠ []) ∧ (∃ x2 : Int, (∃ x3 : Int, ((rowF (x0, !true) = some ([x2, x3], true)) ∧ ((x1.data.toList = []) ∧ ((rowF (x1, true) = some ([], true)) ∧ zb s Q ((zt ((zt ((zt (zr (Q (z6 x2 x3 0 0 0 0 0 0))))))))))))))))))) := by kernel_rfl
theorem vs22 (s : ByteArray) (Q : Value → Prop) : zS (LsixT 2 2) s Q = ((∃ x0 : ByteArray, (∃ x1 : ByteArray, ((cutF s { data := #[58, 58] } = some (x0, x1, true)) ∧ ((x0.data.toList ≠ []) ∧ (∃ x2 : Int, (∃ x3 : Int, ((rowF (x0, !true) = some ([x2, x3], true)) ∧ ((x1.data.toList ≠ []) ∧ (∃ x4 : Int, (∃ x5 : Int, ((rowF (x1, true) = some ([x4, x5], true)) ∧ zb s Q ((zt ((zt (((true = true) ∧ zr (Q (z6 x2 x3 0 0 0 0 x4 x5)))))))))))))))))))) := by kernel_rfl
theorem vs24 (s : ByteArray) (Q : Value → Prop) : zS (LsixT 2 4) s Q = ((∃ x0 : ByteArray, (∃ x1 : ByteArray, ((cutF s { data := #[58, 58] } = some (x0, x1, true)) ∧ ((x0.data.toList ≠ []) ∧ (∃ x2 : Int, (∃ x3 : Int, ((rowF (x0, !true) = some ([x2, x3], true)) ∧ ((x1.data.toList ≠ []) ∧ (∃ x4 : Int, (∃ x5 : Int, (∃ x6 : Int, (∃ x7 : Int, ((rowF (x1, true) = some ([x4, x5, x6, x7], true)) ∧ zb s Q ((zt (((true = true) ∧ ((true = true) ∧ zr (Q (z6 x2 x3 0 0 x4 x5 x6 x7))))))))))))))))))))) := by kernel_rfl
theorem vs30 (s : ByteArray) (Q : Value → Prop) : zS (LsixT 3 0) s Q = ((∃ x0 : ByteArray, (∃ x1 : ByteArray, ((cutF s { data := #[58, 58] } = some (x0, x1, true)) ∧ ((x0.data.toList ≠ []) ∧ (∃ x2 : Int, (∃ x3 : Int, (∃ x4 : Int, ((rowF (x0, !true) = some ([x2, x3, x4], true)) ∧ ((x1.data.toList = []) ∧ ((rowF (x1, true) = some ([], true)) ∧ zb s Q ((zt ((zt (((true = true) ∧ ((true = true) ∧ zr (Q (z6 x2 x3 x4 0 0 0 0 0)))))))))))))))))))) := by kernel_rfl
theorem vs32 (s : ByteArray) (Q : Value → Prop) : zS (LsixT 3 2) s Q = ((∃ x0 : ByteArray, (∃ x1 : ByteArray, ((cutF s { data := #[58, 58] } = some (x0, x1, true)) ∧ ((x0.data.toList ≠ []) ∧ (∃ x2 : Int, (∃ x3 : Int, (∃ x4 : Int, ((rowF (x0, !true) = some ([x2, x3, x4], true)) ∧ ((x1.data.toList ≠ []) ∧ (∃ x5 : Int, (∃ x6 : Int, ((rowF (x1, true) = some ([x5, x6], true)) ∧ zb s Q ((zt ((zt (zr (Q (z6 x2 x3 x4 0 0 0 x5 x6)))))))))))))))))))) := by kernel_rfl
theorem vs34 (s : ByteArray) (Q : Value → Prop) : zS (LsixT 3 4) s Q = ((∃ x0 : ByteArray, (∃ x1 : ByteArray, ((cutF s { data := #[58, 58] } = some (x0, x1, true)) ∧ ((x0.data.toList ≠ []) ∧ (∃ x2 : Int, (∃ x3 : Int, (∃ x4 : Int, ((rowF (x0, !true) = some ([x2, x3, x4], true)) ∧ ((x1.data.toList ≠ []) ∧ (∃ x5 : Int, (∃ x6 : Int, (∃ x7 : Int, (∃ x8 : Int, ((rowF (x1, true) = some ([x5, x6, x7, x8], true)) ∧ zb s Q ((zt (((true = true) ∧ zr (Q (z6 x2 x3 x4 0 x5 x6 x7 x8))))))))))))))))))))) := by kernel_rfl
theorem vs41 (s : ByteArray) (Q : Value → Prop) : zS (LsixT 4 1) s Q = ((∃ x0 : ByteArray, (∃ x1 : ByteArray, ((cutF s { data := #[58, 58] } = some (x0, x1, true)) ∧ ((x0.data.toList ≠ []) ∧ (∃ x2 : Int, (∃ x3 : Int, (∃ x4 : Int, (∃ x5 : Int, ((rowF (x0, !true) = some ([x2, x3, x4, x5], true)) ∧ ((x1.data.toList ≠ []) ∧ (∃ x6 : Int, ((rowF (x1, true) = some ([x6], true)) ∧ zb s Q ((zt ((zt (zr (Q (z6 x2 x3 x4 x5 0 0 0 x6)))))))))))))))))))) := by kernel_rfl
theorem vs43 (s : ByteArray) (Q : Value → Prop) : zS (LsixT 4 3) s Q = ((∃ x0 : ByteArray, (∃ x1 : ByteArray, ((cutF s { data := #[58, 58] } = some (x0, x1, true)) ∧ ((x0.data.toList ≠ []) ∧ (∃ x2 : Int, (∃ x3 : Int, (∃ x4 : Int, (∃ x5 : Int, ((rowF (x0, !true) = some ([x2, x3, x4, x5], true)) ∧ ((x1.data.toList ≠ []) ∧ (∃ x6 : Int, (∃ x7 : Int, (∃ x8 : Int, ((rowF (x1, true) = some ([x6, x7, x8], true)) ∧ zb s Q ((zt (((true = true) ∧ zr (Q (z6 x2 x3 x4 x5 0 x6 x7 x8))))))))))))))))))))) := by kernel_rfl
theorem vs51 (s : ByteArray) (Q : Value → Prop) : zS (LsixT 5 1) s Q = ((∃ x0 : ByteArray, (∃ x1 : ByteArray, ((cutF s { data := #[58, 58] } = some (x0, x1, true)) ∧ ((x0.data.toList ≠ []) ∧ (∃ x2 : Int, (∃ x3 : Int, (∃ x4 : Int, (∃ x5 : Int, (∃ x6 : Int, ((rowF (x0, !true) = some ([x2, x3, x4, x5, x6], true)) ∧ ((x1.data.toList ≠ []) ∧ (∃ x7 : Int, ((rowF (x1, true) = some ([x7], true)) ∧ zb s Q ((zt (((true = true) ∧ ((true = true) ∧ zr (Q (z6 x2 x3 x4 x5 x6 0 0 x7))))))))))))))))))))) := by kernel_rfl
theorem vs60 (s : ByteArray) (Q : Value → Prop) : zS (LsixT 6 0) s Q = ((∃ x0 : ByteArray, (∃ x1 : ByteArray, ((cutF s { data := #[58, 58] } = some (x0, x1, true)) ∧ ((x0.data.toList ≠ []) ∧ (∃ x2 : Int, (∃ x3 : Int, (∃ x4 : Int, (∃ x5 : Int, (∃ x6 : Int, (∃ x7 : Int, ((rowF (x0, !true) = some ([x2, x3, x4, x5, x6, x7], true)) ∧ ((x1.data.toList = []) ∧ ((rowF (x1, true) = some ([], true)) ∧ zb s Q ((zt (((true = true) ∧ ((true = true) ∧ zr (Q (z6 x2 x3 x4 x5 x6 x7 0 0))))))))))))))))))))) := by kernel_rfl
theorem vs70 (s : ByteArray) (Q : Value → Prop) : zS (LsixT 7 0) s Q = ((∃ x0 : ByteArray, (∃ x1 : ByteArray, ((cutF s { data := #[58, 58] } = some (x0, x1, true)) ∧ ((x0.data.toList ≠ []) ∧ (∃ x2 : Int, (∃ x3 : Int, (∃ x4 : Int, (∃ x5 : Int, (∃ x6 : Int, (∃ x7 : Int, (∃ x8 : Int, ((rowF (x0, !true) = some ([x2, x3, x4, x5, x6, x7, x8], true)) ∧ ((x1.data.toList = []) ∧ ((rowF (x1, true) = some ([], true)) ∧ zb s Q ((zt (((true = true) ∧ zr (Q (z6 x2 x3 x4 x5 x6 x7 x8 0))))))))))))))))))))) := by kernel_rfl
end Go.Proofs.YtfnacgojmdbjmaaDoor
end

section
/- Conditions, reckoned by the kernel. -/
namespace Go.Proofs.YtfnacgojmdbjmaaDoor
open Go.Det Go.RowKit  Go.Proofs.YtfnacgojmdbjmaaDoorW.PrintWords
set_option maxRecDepth 100000
theorem vs00 (s : ByteArray) (Q : Value → Prop) : zS (LsixT 0 0) s Q = ((∃ x0 : ByteArray, (∃ x1 : ByteArray, ((cutF s { data := #[58, 58] } = some (x0, x1, true)) ∧ ((x0.data.toList = []) ∧ ((rowF (x0, !true) = some ([], true)) ∧ ((x1.data.toList = []) ∧ ((rowF (x1, true) = some ([], true)) ∧ zb s Q ((zt ((zt ((zt (((true = true) ∧ ((true = true) ∧ zr (Q (z6 0 0 0 0 0 0 0 0))))))))))))))))))) := by kernel_rfl
theorem vs02 (s : ByteArray) (Q : Value → Prop) : zS (LsixT 0 2) s Q = ((∃ x0 : ByteArray, (∃ x1 : ByteArray, ((cutF s { data := #[58, 58] } = some (x0, x1, true)) ∧ ((x0.data.toList = []) ∧ ((rowF (x0, !true) = some ([], true)) ∧ ((x1.data.toList ≠ []) ∧ (∃ x2 : Int, (∃ x3 : Int, ((rowF (x1, true) = some ([x2, x3], true)) ∧ zb s Q ((zt ((zt ((zt (zr (Q (z6 0 0 0 0 0 0 x2 x3))))))))))))))))))) := by kernel_rfl
theorem vs04 (s : ByteArray) (Q : Value → Prop) : zS (LsixT 0 4) s Q = ((∃ x0 : ByteArray, (∃ x1 : ByteArray, ((cutF s { data := #[58, 58] } = some (x0, x1, true)) ∧ ((x0.data.toList = []) ∧ ((rowF (x0, !true) = some ([], true)) ∧ ((x1.data.toList ≠ []) ∧ (∃ x2 : Int, (∃ x3 : Int, (∃ x4 : Int, (∃ x5 : Int, ((rowF (x1, true) = some ([x2, x3, x4, x5], true)) ∧ zb s Q ((zt ((zt (((true = true) ∧ zr (Q (z6 0 0 0 0 x2 x3 x4 x5)))))))))))))))))))) := by kernel_rfl
theorem vs06 (s : ByteArray) (Q : Value → Prop) : zS (LsixT 0 6) s Q = ((∃ x0 : ByteArray, (∃ x1 : ByteArray, ((cutF s { data := #[58, 58] } = some (x0, x1, true)) ∧ ((x0.data.toList = []) ∧ ((rowF (x0, !true) = some ([], true)) ∧ ((x1.data.toList ≠ []) ∧ (∃ x2 : Int, (∃ x3 : Int, (∃ x4 : Int, (∃ x5 : Int, (∃ x6 : Int, (∃ x7 : Int, ((rowF (x1, true) = some ([x2, x3, x4, x5, x6, x7], true)) ∧ zb s Q ((zt (((true = true) ∧ ((true = true) ∧ zr (Q (z6 0 0 x2 x3 x4 x5 x6 x7))))))))))))))))))))) := by kernel_rfl
theorem vs10 (s : ByteArray) (Q : Value → Prop) : zS (LsixT 1 0) s Q = ((∃ x0 : ByteArray, (∃ x1 : ByteArray, ((cutF s { data := #[58, 58] } = some (x0, x1, true)) ∧ ((x0.data.toList ≠ []) ∧ (∃ x2 : Int, ((rowF (x0, !true) = some ([x2], true)) ∧ ((x1.data.toList = []) ∧ ((rowF (x1, true) = some ([], true)) ∧ zb s Q ((zt ((zt ((zt (((true = true) ∧ zr (Q (z6 x2 0 0 0 0 0 0 0))))))))))))))))))) := by kernel_rfl
theorem vs12 (s : ByteArray) (Q : Value → Prop) : zS (LsixT 1 2) s Q = ((∃ x0 : ByteArray, (∃ x1 : ByteArray, ((cutF s { data := #[58, 58] } = some (x0, x1, true)) ∧ ((x0.data.toList ≠ []) ∧ (∃ x2 : Int, ((rowF (x0, !true) = some ([x2], true)) ∧ ((x1.data.toList ≠ []) ∧ (∃ x3 : Int, (∃ x4 : Int, ((rowF (x1, true) = some ([x3, x4], true)) ∧ zb s Q ((zt ((zt (((true = true) ∧ ((true = true) ∧ zr (Q (z6 x2 0 0 0 0 0 x3 x4)))))))))))))))))))) := by kernel_rfl
theorem vs14 (s : ByteArray) (Q : Value → Prop) : zS (LsixT 1 4) s Q = ((∃ x0 : ByteArray, (∃ x1 : ByteArray, ((cutF s { data := #[58, 58] } = some (x0, x1, true)) ∧ ((x0.data.toList ≠ []) ∧ (∃ x2 : Int, ((rowF (x0, !true) = some ([x2], true)) ∧ ((x1.data.toList ≠ []) ∧ (∃ x3 : Int, (∃ x4 : Int, (∃ x5 : Int, (∃ x6 : Int, ((rowF (x1, true) = some ([x3, x4, x5, x6], true)) ∧ zb s Q ((zt ((zt (zr (Q (z6 x2 0 0 0 x3 x4 x5 x6)))))))))))))))))))) := by kernel_rfl
theorem vs16 (s : ByteArray) (Q : Value → Prop) : zS (LsixT 1 6) s Q = ((∃ x0 : ByteArray, (∃ x1 : ByteArray, ((cutF s { data := #[58, 58] } = some (x0, x1, true)) ∧ ((x0.data.toList ≠ []) ∧ (∃ x2 : Int, ((rowF (x0, !true) = some ([x2], true)) ∧ ((x1.data.toList ≠ []) ∧ (∃ x3 : Int, (∃ x4 : Int, (∃ x5 : Int, (∃ x6 : Int, (∃ x7 : Int, (∃ x8 : Int, ((rowF (x1, true) = some ([x3, x4, x5, x6, x7, x8], true)) ∧ zb s Q ((zt (((true = true) ∧ zr (Q (z6 x2 0 x3 x4 x5 x6 x7 x8))))))))))))))))))))) := by kernel_rfl
theorem vs21 (s : ByteArray) (Q : Value → Prop) : zS (LsixT 2 1) s Q = ((∃ x0 : ByteArray, (∃ x1 : ByteArray, ((cutF s { data := #[58, 58] } = some (x0, x1, true)) ∧ ((x0.data.toList ≠ []) ∧ (∃ x2 : Int, (∃ x3 : Int, ((rowF (x0, !true) = some ([x2, x3], true)) ∧ ((x1.data.toList ≠ []) ∧ (∃ x4 : Int, ((rowF (x1, true) = some ([x4], true)) ∧ zb s Q ((zt ((zt (((true = true) ∧ ((true = true) ∧ zr (Q (z6 x2 x3 0 0 0 0 0 x4)))))))))))))))))))) := by kernel_rfl
theorem vs23 (s : ByteArray) (Q : Value → Prop) : zS (LsixT 2 3) s Q = ((∃ x0 : ByteArray, (∃ x1 : ByteArray, ((cutF s { data := #[58, 58] } = some (x0, x1, true)) ∧ ((x0.data.toList ≠ []) ∧ (∃ x2 : Int, (∃ x3 : Int, ((rowF (x0, !true) = some ([x2, x3], true)) ∧ ((x1.data.toList ≠ []) ∧ (∃ x4 : Int, (∃ x5 : Int, (∃ x6 : Int, ((rowF (x1, true) = some ([x4, x5, x6], true)) ∧ zb s Q ((zt ((zt (zr (Q (z6 x2 x3 0 0 0 x4 x5 x6)))))))))))))))))))) := by kernel_rfl
theorem vs25 (s : ByteArray) (Q : Value → Prop) : zS (LsixT 2 5) s Q = ((∃ x0 : ByteArray, (∃ x1 : ByteArray, ((cutF s { data := #[58, 58] } = some (x0, x1, true)) ∧ ((x0.data.toList ≠ []) ∧ (∃ x2 : Int, (∃ x3 : Int, ((rowF (x0, !true) = some ([x2, x3], true)) ∧ ((x1.data.toList ≠ []) ∧ (∃ x4 : Int, (∃ x5 : Int, (∃ x6 : Int, (∃ x7 : Int, (∃ x8 : Int, ((rowF (x1, true) = some ([x4, x5, x6, x7, x8], true)) ∧ zb s Q ((zt (((true = true) ∧ zr (Q (z6 x2 x3 0 x4 x5 x6 x7 x8))))))))))))))))))))) := by kernel_rfl
theorem vs31 (s : ByteArray) (Q : Value → Prop) : zS (LsixT 3 1) s Q = ((∃ x0 : ByteArray, (∃ x1 : ByteArray, ((cutF s { data := #[58, 58] } = some (x0, x1, true)) ∧ ((x0.data.toList ≠ []) ∧ (∃ x2 : Int, (∃ x3 : Int, (∃ x4 : Int, ((rowF (x0, !true) = some ([x2, x3, x4], true)) ∧ ((x1.data.toList ≠ []) ∧ (∃ x5 : Int, ((rowF (x1, true) = some ([x5], true)) ∧ zb s Q ((zt ((zt (((true = true) ∧ zr (Q (z6 x2 x3 x4 0 0 0 0 x5)))))))))))))))))))) := by kernel_rfl
theorem vs33 (s : ByteArray) (Q : Value → Prop) : zS (LsixT 3 3) s Q = ((∃ x0 : ByteArray, (∃ x1 : ByteArray, ((cutF s { data := #[58, 58] } = some (x0, x1, true)) ∧ ((x0.data.toList ≠ []) ∧ (∃ x2 : Int, (∃ x3 : Int, (∃ x4 : Int, ((rowF (x0, !true) = some ([x2, x3, x4], true)) ∧ ((x1.data.toList ≠ []) ∧ (∃ x5 : Int, (∃ x6 : Int, (∃ x7 : Int, ((rowF (x1, true) = some ([x5, x6, x7], true)) ∧ zb s Q ((zt (((true = true) ∧ ((true = true) ∧ zr (Q (z6 x2 x3 x4 0 0 x5 x6 x7))))))))))))))))))))) := by kernel_rfl
theorem vs40 (s : ByteArray) (Q : Value → Prop) : zS (LsixT 4 0) s Q = ((∃ x0 : ByteArray, (∃ x1 : ByteArray, ((cutF s { data := #[58, 58] } = some (x0, x1, true)) ∧ ((x0.data.toList ≠ []) ∧ (∃ x2 : Int, (∃ x3 : Int, (∃ x4 : Int, (∃ x5 : Int, ((rowF (x0, !true) = some ([x2, x3, x4, x5], true)) ∧ ((x1.data.toList = []) ∧ ((rowF (x1, true) = some ([], true)) ∧ zb s Q ((zt ((zt (((true = true) ∧ zr (Q (z6 x2 x3 x4 x5 0 0 0 0)))))))))))))))))))) := by kernel_rfl
theorem vs42 (s : ByteArray) (Q : Value → Prop) : zS (LsixT 4 2) s Q = ((∃ x0 : ByteArray, (∃ x1 : ByteArray, ((cutF s { data := #[58, 58] } = some (x0, x1, true)) ∧ ((x0.data.toList ≠ []) ∧ (∃ x2 : Int, (∃ x3 : Int, (∃ x4 : Int, (∃ x5 : Int, ((rowF (x0, !true) = some ([x2, x3, x4, x5], true)) ∧ ((x1.data.toList ≠ []) ∧ (∃ x6 : Int, (∃ x7 : Int, ((rowF (x1, true) = some ([x6, x7], true)) ∧ zb s Q ((zt (((true = true) ∧ ((true = true) ∧ zr (Q (z6 x2 x3 x4 x5 0 0 x6 x7))))))))))))))))))))) := by kernel_rfl
theorem vs50 (s : ByteArray) (Q : Value → Prop) : zS (LsixT 5 0) s Q = ((∃ x0 : ByteArray, (∃ x1 : ByteArray, ((cutF s { data := #[58, 58] } = some (x0, x1, true)) ∧ ((x0.data.toList ≠ []) ∧ (∃ x2 : Int, (∃ x3 : Int, (∃ x4 : Int, (∃ x5 : Int, (∃ x6 : Int, ((rowF (x0, !true) = some ([x2, x3, x4, x5, x6], true)) ∧ ((x1.data.toList = []) ∧ ((rowF (x1, true) = some ([], true)) ∧ zb s Q ((zt ((zt (zr (Q (z6 x2 x3 x4 x5 x6 0 0 0)))))))))))))))))))) := by kernel_rfl
theorem vs52 (s : ByteArray) (Q : Value → Prop) : zS (LsixT 5 2) s Q = ((∃ x0 : ByteArray, (∃ x1 : ByteArray, ((cutF s { data := #[58, 58] } = some (x0, x1, true)) ∧ ((x0.data.toList ≠ []) ∧ (∃ x2 : Int, (∃ x3 : Int, (∃ x4 : Int, (∃ x5 : Int, (∃ x6 : Int, ((rowF (x0, !true) = some ([x2, x3, x4, x5, x6], true)) ∧ ((x1.data.toList ≠ []) ∧ (∃ x7 : Int, (∃ x8 : Int, ((rowF (x1, true) = some ([x7, x8], true)) ∧ zb s Q ((zt (((true = true) ∧ zr (Q (z6 x2 x3 x4 x5 x6 0 x7 x8))))))))))))))))))))) := by kernel_rfl
theorem vs61 (s : ByteArray) (Q : Value → Prop) : zS (LsixT 6 1) s Q = ((∃ x0 : ByteArray, (∃ x1 : ByteArray, ((cutF s { data := #[58, 58] } = some (x0, x1, true)) ∧ ((x0.data.toList ≠ []) ∧ (∃ x2 : Int, (∃ x3 : Int, (∃ x4 : Int, (∃ x5 : Int, (∃ x6 : Int, (∃ x7 : Int, ((rowF (x0, !true) = some ([x2, x3, x4, x5, x6, x7], true)) ∧ ((x1.data.toList ≠ []) ∧ (∃ x8 : Int, ((rowF (x1, true) = some ([x8], true)) ∧ zb s Q ((zt (((true = true) ∧ zr (Q (z6 x2 x3 x4 x5 x6 x7 0 x8))))))))))))))))))))) := by kernel_rfl
end Go.Proofs.YtfnacgojmdbjmaaDoor
end

section
/- Conditions, reckoned by the kernel. -/
namespace Go.Proofs.YtfnacgojmdbjmaaDoor
open Go.Det Go.RowKit  Go.Proofs.YtfnacgojmdbjmaaDoorW.PrintWords
set_option maxRecDepth 100000
theorem vsw (s : ByteArray) (Q : Value → Prop) : codeU Tryd.prog (cwC LsixW) (oxE [51, 59, 68, 76]) 9 (bodyOf Tryd.f52) (inTab [.string s] 8) (birth [] 64) (retW Tryd.prog Tryd.f52 fun v _ => Q v) = ((∃ x0 : ByteArray, (∃ x1 : ByteArray, ((cutF s { data := #[58, 58] } = some (x0, x1, false)) ∧ (((x0.data.toList = []) ∧ ((rowF (x0, !false) = some ([], true)) ∧ (((x1.data.toList = []) ∧ ((rowF (x1, true) = some ([], true)) ∧ zb s Q (((true = true) ∧ Q z0)))) ∨ ((x1.data.toList ≠ []) ∧ (∃ x2 : Int, (∃ x3 : Int, (∃ x4 : Int, (∃ x5 : Int, (∃ x6 : Int, (∃ x7 : Int, (∃ x8 : Int, (∃ x9 : Int, ((rowF (x1, true) = some ([x2, x3, x4, x5, x6, x7, x8, x9], true)) ∧ zb s Q ((zt (zr (Q (z6 x2 x3 x4 x5 x6 x7 x8 x9)))))))))))))))))) ∨ ((x0.data.toList ≠ []) ∧ (∃ x2 : Int, (∃ x3 : Int, (∃ x4 : Int, (∃ x5 : Int, (∃ x6 : Int, (∃ x7 : Int, (∃ x8 : Int, (∃ x9 : Int, ((rowF (x0, !false) = some ([x2, x3, x4, x5, x6, x7, x8, x9], true)) ∧ (((x1.data.toList = []) ∧ ((rowF (x1, true) = some ([], true)) ∧ zb s Q ((zt (zr (Q (z6 x2 x3 x4 x5 x6 x7 x8 x9))))))) ∨ ((x1.data.toList ≠ []) ∧ (∃ x10 : Int, (∃ x11 : Int, (∃ x12 : Int, (∃ x13 : Int, (∃ x14 : Int, (∃ x15 : Int, (∃ x16 : Int, (∃ x17 : Int, ((rowF (x1, true) = some ([x10, x11, x12, x13, x14, x15, x16, x17], true)) ∧ zb s Q (((true = true) ∧ Q z0)))))))))))))))))))))))))))) := by kernel_rfl
theorem vsB1 (s : ByteArray) (Q : Value → Prop) : codeU Tryd.prog (cwC (LsixB true)) (oxE []) 0 (bodyOf Tryd.f52) (inTab [.string s] 8) (birth [] 64) (retW Tryd.prog Tryd.f52 fun v _ => Q v) = ((∃ x0 : ByteArray, (∃ x1 : ByteArray, ((cutF s { data := #[58, 58] } = some (x0, x1, true)) ∧ (∃ x2 : List Int × Bool, ((rowF (x0, !true) = some x2) ∧ (((x0.data.toList = []) ∧ (∃ x3 : List Int × Bool, ((rowF (x1, true) = some x3) ∧ (((x1.data.toList = []) ∧ zc x2.2 x3.2 Q (zb s Q (bifW (cdec (8 ≤ IntKind.wrap .i64 ((↑0 : Int) + (↑0 : Int)))) (Q z0) (False)))) ∨ (((x1.data.toList ≠ []) ∧ ((x3.1 = []) ∧ zc x2.2 x3.2 Q (zb s Q (bifW (cdec (8 ≤ IntKind.wrap .i64 ((↑0 : Int) + (↑0 : Int)))) (Q z0) (False))))) ∨ ((x1.data.toList ≠ []) ∧ ((x3.1 ≠ []) ∧ zc x2.2 x3.2 Q (zb s Q (bifW (cdec (8 ≤ IntKind.wrap .i64 ((↑0 : Int) + (↑(List.length (x3.1)) : Int)))) (Q z0) (False)))))))))) ∨ (((x0.data.toList ≠ []) ∧ ((x2.1 = []) ∧ (∃ x3 : List Int × Bool, ((rowF (x1, true) = some x3) ∧ (((x1.data.toList = []) ∧ zc x2.2 x3.2 Q (zb s Q (bifW (cdec (8 ≤ IntKind.wrap .i64 ((↑0 : Int) + (↑0 : Int)))) (Q z0) (False)))) ∨ (((x1.data.toList ≠ []) ∧ ((x3.1 = []) ∧ zc x2.2 x3.2 Q (zb s Q (bifW (cdec (8 ≤ IntKind.wrap .i64 ((↑0 : Int) + (↑0 : Int)))) (Q z0) (False))))) ∨ ((x1.data.toList ≠ []) ∧ ((x3.1 ≠ []) ∧ zc x2.2 x3.2 Q (zb s Q (bifW (cdec (8 ≤ IntKind.wrap .i64 ((↑0 : Int) + (↑(List.length (x3.1)) : Int)))) (Q z0) (False))))))))))) ∨ ((x0.data.toList ≠ []) ∧ ((x2.1 ≠ []) ∧ (∃ x3 : List Int × Bool, ((rowF (x1, true) = some x3) ∧ (((x1.data.toList = []) ∧ zc x2.2 x3.2 Q (zb s Q (bifW (cdec (8 ≤ IntKind.wrap .i64 ((↑(List.length (x2.1)) : Int) + (↑0 : Int)))) (Q z0) (False)))) ∨ (((x1.data.toList ≠ []) ∧ ((x3.1 = []) ∧ zc x2.2 x3.2 Q (zb s Q (bifW (cdec (8 ≤ IntKind.wrap .i64 ((↑(List.length (x2.1)) : Int) + (↑0 : Int)))) (Q z0) (False))))) ∨ ((x1.data.toList ≠ []) ∧ ((x3.1 ≠ []) ∧ zc x2.2 x3.2 Q (zb s Q (bifW (cdec (8 ≤ IntKind.wrap .i64 ((↑(List.length (x2.1)) : Int) + (↑(List.length (x3.1)) : Int)))) (Q z0) (False))))))))))))))))))) := by kernel_rfl
theorem vsB0 (s : ByteArray) (Q : Value → Prop) : codeU Tryd.prog (cwC (LsixB false)) (oxE []) 0 (bodyOf Tryd.f52) (inTab [.string s] 8) (birth [] 64) (retW Tryd.prog Tryd.f52 fun v _ => Q v) = ((∃ x0 : ByteArray, (∃ x1 : ByteArray, ((cutF s { data := #[58, 58] } = some (x0, x1, false)) ∧ (∃ x2 : List Int × Bool, ((rowF (x0, !false) = some x2) ∧ (((x0.data.toList = []) ∧ (∃ x3 : List Int × Bool, ((rowF (x1, true) = some x3) ∧ (((x1.data.toList = []) ∧ zc x2.2 x3.2 Q (zb s Q (bifW (cdec (IntKind.wrap .i64 ((↑0 : Int) + (↑0 : Int)) ≠ 8)) (Q z0) (False)))) ∨ (((x1.data.toList ≠ []) ∧ ((x3.1 = []) ∧ zc x2.2 x3.2 Q (zb s Q (bifW (cdec (IntKind.wrap .i64 ((↑0 : Int) + (↑0 : Int)) ≠ 8)) (Q z0) (False))))) ∨ ((x1.data.toList ≠ []) ∧ ((x3.1 ≠ []) ∧ zc x2.2 x3.2 Q (zb s Q (bifW (cdec (IntKind.wrap .i64 ((↑0 : Int) + (↑(List.length (x3.1)) : Int)) ≠ 8)) (Q z0) (False)))))))))) ∨ (((x0.data.toList ≠ []) ∧ ((x2.1 = []) ∧ (∃ x3 : List Int × Bool, ((rowF (x1, true) = some x3) ∧ (((x1.data.toList = []) ∧ zc x2.2 x3.2 Q (zb s Q (bifW (cdec (IntKind.wrap .i64 ((↑0 : Int) + (↑0 : Int)) ≠ 8)) (Q z0) (False)))) ∨ (((x1.data.toList ≠ []) ∧ ((x3.1 = []) ∧ zc x2.2 x3.2 Q (zb s Q (bifW (cdec (IntKind.wrap .i64 ((↑0 : Int) + (↑0 : Int)) ≠ 8)) (Q z0) (False))))) ∨ ((x1.data.toList ≠ []) ∧ ((x3.1 ≠ []) ∧ zc x2.2 x3.2 Q (zb s Q (bifW (cdec (IntKind.wrap .i64 ((↑0 : Int) + (↑(List.length (x3.1)) : Int)) ≠ 8)) (Q z0) (False))))))))))) ∨ ((x0.data.toList ≠ []) ∧ ((x2.1 ≠ []) ∧ (∃ x3 : List Int × Bool, ((rowF (x1, true) = some x3) ∧ (((x1.data.toList = []) ∧ zc x2.2 x3.2 Q (zb s Q (bifW (cdec (IntKind.wrap .i64 ((↑(List.length (x2.1)) : Int) + (↑0 : Int)) ≠ 8)) (Q z0) (False)))) ∨ (((x1.data.toList ≠ []) ∧ ((x3.1 = []) ∧ zc x2.2 x3.2 Q (zb s Q (bifW (cdec (IntKind.wrap .i64 ((↑(List.length (x2.1)) : Int) + (↑0 : Int)) ≠ 8)) (Q z0) (False))))) ∨ ((x1.data.toList ≠ []) ∧ ((x3.1 ≠ []) ∧ zc x2.2 x3.2 Q (zb s Q (bifW (cdec (IntKind.wrap .i64 ((↑(List.length (x2.1)) : Int) + (↑(List.length (x3.1)) : Int)) ≠ 8)) (Q z0) (False))))))))))))))))))) := by kernel_rfl
end Go.Proofs.YtfnacgojmdbjmaaDoor
end

section
/- Rows of groups: what is true of what `row` answers, whatever the text. Plain. -/
namespace Go.Proofs.YtfnacgojmdbjmaaDoor
open Go.Det Go.RowKit Go.Proofs.YtfnacgojmdbjmaaDoorW.PrintWords Go.Proofs.YtfnacgojmdbjmaaDoor.PPH
set_option maxRecDepth 100000
theorem row_inv (k : Nat) :
    (∀ x1 x6 x7 x18 x19 x20 r b, addr_row.l0 k x1 x6 x7 x18 x19 x20 = some (r, b) → r.length ≤ x6.length + k + 2 ∧ (b = true → x6 ≠ [] ∨ x20 < x19 → r ≠ [])) ∧
    (∀ x1 x6 x7 x9 x18 x19 x20 x36 r b, addr_row.j1 k x1 x6 x7 x9 x18 x19 x20 x36 = some (r, b) → r.length ≤ x6.length + k + 2 ∧ (b = true → r ≠ [])) := by
  induction k with
  | zero => exact ⟨fun _ _ _ _ _ _ _ _ h => by simp [addr_row.l0] at h, fun _ _ _ _ _ _ _ _ _ _ h => by simp [addr_row.j1] at h⟩
  | succ k ih =>
    obtain ⟨i0, i1⟩ := ih
    refine ⟨fun x1 x6 x7 x18 x19 x20 r b h => ?_, fun x1 x6 x7 x9 x18 x19 x20 x36 r b h => ?_⟩
    · unfold addr_row.l0 at h
      split at h
      · split at h
        case isFalse => cases h
        split at h
        case isFalse => cases h
        split at h
        · split at h
          · obtain ⟨t, _, h⟩ := Option.bind_eq_some_iff.1 h
            have := i1 _ _ _ _ _ _ _ _ _ _ h
            exact ⟨by omega, fun hb _ => this.2 hb⟩
          · have := i1 _ _ _ _ _ _ _ _ _ _ h
            exact ⟨by omega, fun hb _ => this.2 hb⟩
        · have := i1 _ _ _ _ _ _ _ _ _ _ h
          exact ⟨by omega, fun hb _ => this.2 hb⟩
      · rename_i hn
        cases h
        exact ⟨by omega, fun _ q => by rcases q with q | q; exact q; exact absurd q hn⟩
    · unfold addr_row.j1 at h
      split at h
      · obtain ⟨t, _, h⟩ := Option.bind_eq_some_iff.1 h
        obtain ⟨u, hu, h⟩ := Option.bind_eq_some_iff.1 h
        cases hu
        split at h
        case isFalse => cases h
        cases h
        exact ⟨by (simp; try omega), fun _ => by simp⟩
      · obtain ⟨t, _, h⟩ := Option.bind_eq_some_iff.1 h
        split at h
        · split at h
          case isFalse => cases h
          have := i0 _ _ _ _ _ _ _ _ h
          exact ⟨by have := this.1; simp at this; omega, fun hb => this.2 hb (.inl (by simp))⟩
        · cases h
          exact ⟨by simp, fun hb => by cases hb⟩
theorem splitB_ne (sep : ByteArray) (k : Nat) (s : ByteArray) : Lib.splitB sep 0 k s ≠ [] := by
  cases k with
  | zero => simp [Lib.splitB]
  | succ k =>
    unfold Lib.splitB
    split <;> simp
theorem rowF_inv {s : ByteArray} {l : Bool} {r : List Int} {b : Bool} (h : rowF (s, l) = some (r, b)) : r.length ≤ 1002 ∧ (b = true → r = [] → s.data.toList = []) := by
  unfold rowF addr_row.f at h
  split at h
  · rename_i h0
    cases h
    simp only [ByteArray.toList_eq] at h0
    exact ⟨by simp, fun _ _ => h0⟩
  · obtain ⟨t, ht, h⟩ := Option.bind_eq_some_iff.1 h
    have q := (row_inv 1000).1 _ _ _ _ _ _ _ _ h
    refine ⟨by have := q.1; simp at this; omega, fun hb hr => ?_⟩
    refine absurd hr (q.2 hb (.inr ?_))
    unfold strings_Split.f at ht
    split at ht
    case isFalse => cases ht
    cases ht
    have := List.length_pos_iff.2 (splitB_ne ⟨#[58]⟩ (Lib.countB s ⟨#[58]⟩) s)
    simp only
    omega
end Go.Proofs.YtfnacgojmdbjmaaDoor
end

section
/- addr.six: what it answers, whatever the text. No conditions. -/
namespace Go.Det
variable {P : Program}
theorem own_flat2 {W : World} {G : Nat} {l : List (Nat × Own)} {h : Heap} {f : FuncId} {fn : Func} {c : Code} {F : List Value → Option Value} (L : Laying G W h) (hGW : G ≤ W.heap.size) (hG64 : G ≤ 64)
    (hm : P.follows .mixedOrders = true) (hl : OwnsAll P W G l) (hf : P.funcs[f]? = some fn) (hb : fn.body = some c) (hok : okFunc G fn = true)
    (hF : ∀ args v, F args = some v → flat2L args = true ∧ flat v = true ∧ Nat.ble args.length fn.ntmps = true ∧ ∃ cw, CwOk (ownCall l) cw ∧ codeW P cw c (inTab args 8) (birth h 64) (retW P fn fun v' _ => v' = v)) : OwnAll P W G f (pureD F) := by
  refine ⟨pureD_tr F, fun W1 k1 args s v s' e φ w args' H _ hA _ _ => ?_⟩
  unfold pureD at e
  split at e
  case h_2 => cases e
  rename_i r hr
  cases e
  obtain ⟨h1, h2, h3, cw, ho, h4⟩ := hF args v hr
  have hn : (fn.name == "runtime.NumGoroutine") = false := by
    unfold okFunc at hok
    rw [hb] at hok
    simp only [Bool.and_eq_true, Bool.not_eq_true'] at hok
    exact hok.2
  rw [flat2L_inv h1 hA, callFunc_run hf hb hn]
  have kw : Later W w := k1.trans H.later
  have Lw := L.move kw.size kw.old hGW
  refine (fnW_calls (P := P) (w0 := w) (φ0 := glob G w) (G := G) ho (ownCall_ok hl kw) (ownCall_tr hl) hm (glob_glob G w) (fun id q => glob_top G w hG64 id q) hf hb hok h3 Lw.hr (flat2L_self h1 _) (fun id q => glob_top G w hG64 id q) (fun id q => Lw.top id (Nat.le_trans hG64 q)) (Nat.le_refl 64) h4).mono ?_
  rintro e W' ⟨v1, v', s1, φ', rfl, rfl, hv, H', _, _⟩
  exact ⟨v', φ, rfl, Ext.refl _ _ _, flat_any h2 hv, H.keep H'.kept H'.tape⟩
end Go.Det
namespace Go.Proofs.YtfnacgojmdbjmaaDoor
open Go.Det Go.RowKit Go.Proofs.YtfnacgojmdbjmaaDoorW.PrintWords Go.Proofs.YtfnacgojmdbjmaaDoor.PPH
set_option maxRecDepth 100000
def comb4 (a b c d : Int) : Int := orI .u64 (shlI .u64 (orI .u64 (shlI .u64 (orI .u64 (shlI .u64 (orI .u64 (shlI .u64 0 16) a) 16) b) 16) c) 16) d
def comb8 : List Int → Int × Int
  | [a, b, c, d, e, f, g, h] => (comb4 a b c d, comb4 e f g h)
  | _ => (0, 0)
def sixB (s : ByteArray) (cut : Bool) (a b : List Int × Bool) : Bool :=
  !a.2 || (!b.2 || (decide (s.data.toList = []) || (match cut with | true => decide (8 ≤ a.1.length + b.1.length) | false => decide (a.1.length + b.1.length ≠ 8))))
def sixF (s : ByteArray) : Option (Int × Int × Int × Bool) :=
  (cutF s { data := #[58, 58] }).bind fun c => (rowF (c.1, !c.2.2)).bind fun a => (rowF (c.2.1, true)).bind fun b =>
    if sixB s c.2.2 a b = true then some (0, 0, 0, false) else some (6, (comb8 (a.1 ++ List.replicate (8 - (a.1.length + b.1.length)) 0 ++ b.1)).1, (comb8 (a.1 ++ List.replicate (8 - (a.1.length + b.1.length)) 0 ++ b.1)).2, true)
noncomputable def enAB (y : Int × Int × Int × Bool) : Value := .tuple #[.agg #[.int .i64 y.1, .int .u64 y.2.1, .int .u64 y.2.2.1], .bool y.2.2.2]
theorem wrap_i64 {x : Int} (h : 0 ≤ x ∧ x < 9223372036854775808) : IntKind.wrap .i64 x = x := by
  unfold IntKind.wrap
  simp [IntKind.signed, IntKind.bits]
  omega
theorem leafT {b2 b3 : Bool} {s t : List UInt8} {p q : Nat} {Q0 : Prop} (hQ : Q0) (hp : p ≤ 1002) (hq : q ≤ 1002) (H : b2 = false ∨ b3 = false ∨ s = t ∨ 8 ≤ p + q) :
    bifW (!b2) Q0 (bifW (!b3) Q0 (bifW (cdec (s = t)) Q0 (bifW (cdec (8 ≤ IntKind.wrap .i64 ((p : Int) + (q : Int)))) Q0 False))) := by
  rw [wrap_i64 ⟨by omega, by omega⟩]
  refine bifW_n (fun h2 => bifW_n (fun h3 => bifW_c (fun _ => hQ) fun h4 => bifW_c (fun _ => hQ) fun h5 => ?_) fun _ => hQ) fun _ => hQ
  rcases H with H | H | H | H
  · rw [H] at h2; cases h2
  · rw [H] at h3; cases h3
  · exact h4 H
  · omega
theorem leafF {b2 b3 : Bool} {s t : List UInt8} {p q : Nat} {Q0 : Prop} (hQ : Q0) (hp : p ≤ 1002) (hq : q ≤ 1002) (H : b2 = false ∨ b3 = false ∨ s = t ∨ p + q ≠ 8) :
    bifW (!b2) Q0 (bifW (!b3) Q0 (bifW (cdec (s = t)) Q0 (bifW (cdec (IntKind.wrap .i64 ((p : Int) + (q : Int)) ≠ 8)) Q0 False))) := by
  rw [wrap_i64 ⟨by omega, by omega⟩]
  refine bifW_n (fun h2 => bifW_n (fun h3 => bifW_c (fun _ => hQ) fun h4 => bifW_c (fun _ => hQ) fun h5 => ?_) fun _ => hQ) fun _ => hQ
  rcases H with H | H | H | H
  · rw [H] at h2; cases h2
  · rw [H] at h3; cases h3
  · exact h4 H
  · omega
theorem nil_of {x : ByteArray} {l : Bool} {r : List Int × Bool} (hx : x.data.toList = []) (h : rowF (x, l) = some r) : r = ([], true) := by
  obtain ⟨⟨t⟩⟩ := x
  have : t = [] := hx
  subst this
  exact rowE h
def SixG (cw : Cw) (s : ByteArray) (y : Int × Int × Int × Bool) : Prop := codeW Tryd.prog cw (bodyOf Tryd.f52) (inTab [.string s] 8) (birth [] 64) (retW Tryd.prog Tryd.f52 fun v' _ => v' = enAB y)
def sixY (a b : List Int) : Int × Int × Int × Bool := (6, (comb8 (a ++ List.replicate (8 - (a.length + b.length)) 0 ++ b)).1, (comb8 (a ++ List.replicate (8 - (a.length + b.length)) 0 ++ b)).2, true)
theorem sx_of {h t : Nat} {s : ByteArray} {y : Int × Int × Int × Bool} (k : codeU Tryd.prog (cwC (LsixT h t)) (oxE [51, 59, 68, 76]) 9 (bodyOf Tryd.f52) (inTab [.string s] 8) (birth [] 64) (retW Tryd.prog Tryd.f52 fun v' _ => v' = enAB y)) : SixG (cwC (LsixT h t)) s y := codeU_codeW (cwC_mono _) (oxE_ok _) (n := 9) (by kernel_rfl) k
structure SixH (s x0 x1 : ByteArray) (a b : List Int) : Prop where
  c : cutF s { data := #[58, 58] } = some (x0, x1, true)
  a : rowF (x0, !true) = some (a, true)
  b : rowF (x1, true) = some (b, true)
  s : ¬ s.data.toList = []
noncomputable def Lsix0 : List (Nat × Own) := [(60, con60.own), (75, rowD rowF 27)]
theorem six_zT {s x0 x1 : ByteArray} {a b : List Int × Bool} (hc : cutF s { data := #[58, 58] } = some (x0, x1, true)) (ha : rowF (x0, !true) = some a) (hb : rowF (x1, true) = some b) (H : sixB s true a b = true) :
    codeW Tryd.prog (cwC (LsixB true)) (bodyOf Tryd.f52) (inTab [.string s] 8) (birth [] 64) (retW Tryd.prog Tryd.f52 fun v' _ => v' = enAB (0, 0, 0, false)) := by
  refine codeU_codeW (cwC_mono _) (oxE_ok _) (n := 0) (by kernel_rfl) ((vsB1 s _).mpr ⟨x0, x1, hc, a, ha, ?_⟩)
  have la := (rowF_inv (r := a.1) (b := a.2) ha).1
  have lb := (rowF_inv (r := b.1) (b := b.2) hb).1
  have H : a.2 = false ∨ b.2 = false ∨ s.data.toList = [] ∨ 8 ≤ a.1.length + b.1.length := by
    unfold sixB at H
    simp only [Bool.or_eq_true, Bool.not_eq_true', decide_eq_true_eq] at H
    exact H
  by_cases h0 : x0.data.toList = []
  · have e0 := nil_of h0 ha
    refine .inl ⟨h0, b, hb, ?_⟩
    by_cases h1 : x1.data.toList = []
    · have e1 := nil_of h1 hb
      exact .inl ⟨h1, leafT (p := 0) (q := 0) rfl (by omega) (by omega) (by rw [e0, e1] at H ⊢; exact H)⟩
    · by_cases h2 : b.1 = []
      · exact .inr (.inl ⟨h1, h2, leafT (p := 0) (q := 0) rfl (by omega) (by omega) (by rw [h2, e0] at H; rw [e0]; exact H)⟩)
      · exact .inr (.inr ⟨h1, h2, leafT (p := 0) rfl (by omega) (by omega) (by rw [e0] at H ⊢; exact H)⟩)
  · by_cases h2 : a.1 = []
    · refine .inr (.inl ⟨h0, h2, b, hb, ?_⟩)
      by_cases h1 : x1.data.toList = []
      · have e1 := nil_of h1 hb
        exact .inl ⟨h1, leafT (p := 0) (q := 0) rfl (by omega) (by omega) (by rw [h2, e1] at H; rw [e1]; exact H)⟩
      · by_cases h3 : b.1 = []
        · exact .inr (.inl ⟨h1, h3, leafT (p := 0) (q := 0) rfl (by omega) (by omega) (by rw [h2, h3] at H; exact H)⟩)
        · exact .inr (.inr ⟨h1, h3, leafT (p := 0) rfl (by omega) (by omega) (by rw [h2] at H; exact H)⟩)
    · refine .inr (.inr ⟨h0, h2, b, hb, ?_⟩)
      by_cases h1 : x1.data.toList = []
      · have e1 := nil_of h1 hb
        exact .inl ⟨h1, leafT (q := 0) rfl (by omega) (by omega) (by rw [e1] at H ⊢; exact H)⟩
      · by_cases h3 : b.1 = []
        · exact .inr (.inl ⟨h1, h3, leafT (q := 0) rfl (by omega) (by omega) (by rw [h3] at H; exact H)⟩)
        · exact .inr (.inr ⟨h1, h3, leafT rfl (by omega) (by omega) H⟩)
theorem six_zF {s x0 x1 : ByteArray} {a b : List Int × Bool} (hc : cutF s { data := #[58, 58] } = some (x0, x1, false)) (ha : rowF (x0, !false) = some a) (hb : rowF (x1, true) = some b) (H : sixB s false a b = true) :
    codeW Tryd.prog (cwC (LsixB false)) (bodyOf Tryd.f52) (inTab [.string s] 8) (birth [] 64) (retW Tryd.prog Tryd.f52 fun v' _ => v' = enAB (0, 0, 0, false)) := by
  refine codeU_codeW (cwC_mono _) (oxE_ok _) (n := 0) (by kernel_rfl) ((vsB0 s _).mpr ⟨x0, x1, hc, a, ha, ?_⟩)
  have la := (rowF_inv (r := a.1) (b := a.2) ha).1
  have lb := (rowF_inv (r := b.1) (b := b.2) hb).1
  have H : a.2 = false ∨ b.2 = false ∨ s.data.toList = [] ∨ a.1.length + b.1.length ≠ 8 := by
    unfold sixB at H
    simp only [Bool.or_eq_true, Bool.not_eq_true', decide_eq_true_eq] at H
    exact H
  by_cases h0 : x0.data.toList = []
  · have e0 := nil_of h0 ha
    refine .inl ⟨h0, b, hb, ?_⟩
    by_cases h1 : x1.data.toList = []
    · have e1 := nil_of h1 hb
      exact .inl ⟨h1, leafF (p := 0) (q := 0) rfl (by omega) (by omega) (by rw [e0, e1] at H ⊢; exact H)⟩
    · by_cases h2 : b.1 = []
      · exact .inr (.inl ⟨h1, h2, leafF (p := 0) (q := 0) rfl (by omega) (by omega) (by rw [h2, e0] at H; rw [e0]; exact H)⟩)
      · exact .inr (.inr ⟨h1, h2, leafF (p := 0) rfl (by omega) (by omega) (by rw [e0] at H ⊢; exact H)⟩)
  · by_cases h2 : a.1 = []
    · refine .inr (.inl ⟨h0, h2, b, hb, ?_⟩)
      by_cases h1 : x1.data.toList = []
      · have e1 := nil_of h1 hb
        exact .inl ⟨h1, leafF (p := 0) (q := 0) rfl (by omega) (by omega) (by rw [h2, e1] at H; rw [e1]; exact H)⟩
      · by_cases h3 : b.1 = []
        · exact .inr (.inl ⟨h1, h3, leafF (p := 0) (q := 0) rfl (by omega) (by omega) (by rw [h2, h3] at H; exact H)⟩)
        · exact .inr (.inr ⟨h1, h3, leafF (p := 0) rfl (by omega) (by omega) (by rw [h2] at H; exact H)⟩)
    · refine .inr (.inr ⟨h0, h2, b, hb, ?_⟩)
      by_cases h1 : x1.data.toList = []
      · have e1 := nil_of h1 hb
        exact .inl ⟨h1, leafF (q := 0) rfl (by omega) (by omega) (by rw [e1] at H ⊢; exact H)⟩
      · by_cases h3 : b.1 = []
        · exact .inr (.inl ⟨h1, h3, leafF (q := 0) rfl (by omega) (by omega) (by rw [h3] at H; exact H)⟩)
        · exact .inr (.inr ⟨h1, h3, leafF rfl (by omega) (by omega) H⟩)
theorem ex0 {l : List Int} (h : l.length = 0) : l = [] := List.eq_nil_of_length_eq_zero h
theorem ex1 {l : List Int} (h : l.length = 1) : ∃ a0 : Int, l = [a0] := by
  match l, h with
  | [a0], _ => exact ⟨a0, rfl⟩
theorem ex2 {l : List Int} (h : l.length = 2) : ∃ a0 a1 : Int, l = [a0, a1] := by
  match l, h with
  | [a0, a1], _ => exact ⟨a0, a1, rfl⟩
theorem ex3 {l : List Int} (h : l.length = 3) : ∃ a0 a1 a2 : Int, l = [a0, a1, a2] := by
  match l, h with
  | [a0, a1, a2], _ => exact ⟨a0, a1, a2, rfl⟩
theorem ex4 {l : List Int} (h : l.length = 4) : ∃ a0 a1 a2 a3 : Int, l = [a0, a1, a2, a3] := by
  match l, h with
  | [a0, a1, a2, a3], _ => exact ⟨a0, a1, a2, a3, rfl⟩
theorem ex5 {l : List Int} (h : l.length = 5) : ∃ a0 a1 a2 a3 a4 : Int, l = [a0, a1, a2, a3, a4] := by
  match l, h with
  | [a0, a1, a2, a3, a4], _ => exact ⟨a0, a1, a2, a3, a4, rfl⟩
theorem ex6 {l : List Int} (h : l.length = 6) : ∃ a0 a1 a2 a3 a4 a5 : Int, l = [a0, a1, a2, a3, a4, a5] := by
  match l, h with
  | [a0, a1, a2, a3, a4, a5], _ => exact ⟨a0, a1, a2, a3, a4, a5, rfl⟩
theorem ex7 {l : List Int} (h : l.length = 7) : ∃ a0 a1 a2 a3 a4 a5 a6 : Int, l = [a0, a1, a2, a3, a4, a5, a6] := by
  match l, h with
  | [a0, a1, a2, a3, a4, a5, a6], _ => exact ⟨a0, a1, a2, a3, a4, a5, a6, rfl⟩
theorem ex8 {l : List Int} (h : l.length = 8) : ∃ a0 a1 a2 a3 a4 a5 a6 a7 : Int, l = [a0, a1, a2, a3, a4, a5, a6, a7] := by
  match l, h with
  | [a0, a1, a2, a3, a4, a5, a6, a7], _ => exact ⟨a0, a1, a2, a3, a4, a5, a6, a7, rfl⟩
end Go.Proofs.YtfnacgojmdbjmaaDoor
end

section
/- addr.six at rows of known lengths. No conditions but these. -/
namespace Go.Proofs.YtfnacgojmdbjmaaDoor
open Go.Det Go.RowKit Go.Proofs.YtfnacgojmdbjmaaDoorW.PrintWords Go.Proofs.YtfnacgojmdbjmaaDoor.PPH
set_option maxRecDepth 100000
theorem ne_of {x : ByteArray} {l b : Bool} {r : List Int} (hr : r ≠ []) (h : rowF (x, l) = some (r, b)) : x.data.toList ≠ [] := by
  intro hx
  have := nil_of hx h
  cases this
  exact hr rfl
theorem eq_of_nil {x : ByteArray} {l : Bool} (h : rowF (x, l) = some ([], true)) : x.data.toList = [] := (rowF_inv h).2 rfl rfl
variable {s x y : ByteArray}
theorem sx00 (k : SixH s x y [] []) : SixG (cwC (LsixT 0 0)) s (sixY [] []) := by
  refine sx_of ((vs00 s _).mpr ⟨x, y, k.c, eq_of_nil k.a, k.a, eq_of_nil k.b, k.b, bifW_f k.s ?_⟩)
  repeat' (first | rfl | decide | refine And.intro ?_ ?_)
theorem sx01 {b0 : Int} (k : SixH s x y [] [b0]) : SixG (cwC (LsixT 0 1)) s (sixY [] [b0]) := by
  refine sx_of ((vs01 s _).mpr ⟨x, y, k.c, eq_of_nil k.a, k.a, ne_of (by simp) k.b, b0, k.b, bifW_f k.s ?_⟩)
  repeat' (first | rfl | decide | refine And.intro ?_ ?_)
theorem sx02 {b0 b1 : Int} (k : SixH s x y [] [b0, b1]) : SixG (cwC (LsixT 0 2)) s (sixY [] [b0, b1]) := by
  refine sx_of ((vs02 s _).mpr ⟨x, y, k.c, eq_of_nil k.a, k.a, ne_of (by simp) k.b, b0, b1, k.b, bifW_f k.s ?_⟩)
  repeat' (first | rfl | decide | refine And.intro ?_ ?_)
theorem sx03 {b0 b1 b2 : Int} (k : SixH s x y [] [b0, b1, b2]) : SixG (cwC (LsixT 0 3)) s (sixY [] [b0, b1, b2]) := by
  refine sx_of ((vs03 s _).mpr ⟨x, y, k.c, eq_of_nil k.a, k.a, ne_of (by simp) k.b, b0, b1, b2, k.b, bifW_f k.s ?_⟩)
  repeat' (first | rfl | decide | refine And.intro ?_ ?_)
theorem sx04 {b0 b1 b2 b3 : Int} (k : SixH s x y [] [b0, b1, b2, b3]) : SixG (cwC (LsixT 0 4)) s (sixY [] [b0, b1, b2, b3]) := by
  refine sx_of ((vs04 s _).mpr ⟨x, y, k.c, eq_of_nil k.a, k.a, ne_of (by simp) k.b, b0, b1, b2, b3, k.b, bifW_f k.s ?_⟩)
  repeat' (first | rfl | decide | refine And.intro ?_ ?_)
theorem sx05 {b0 b1 b2 b3 b4 : Int} (k : SixH s x y [] [b0, b1, b2, b3, b4]) : SixG (cwC (LsixT 0 5)) s (sixY [] [b0, b1, b2, b3, b4]) := by
  refine sx_of ((vs05 s _).mpr ⟨x, y, k.c, eq_of_nil k.a, k.a, ne_of (by simp) k.b, b0, b1, b2, b3, b4, k.b, bifW_f k.s ?_⟩)
  repeat' (first | rfl | decide | refine And.intro ?_ ?_)
theorem sx06 {b0 b1 b2 b3 b4 b5 : Int} (k : SixH s x y [] [b0, b1, b2, b3, b4, b5]) : SixG (cwC (LsixT 0 6)) s (sixY [] [b0, b1, b2, b3, b4, b5]) := by
  refine sx_of ((vs06 s _).mpr ⟨x, y, k.c, eq_of_nil k.a, k.a, ne_of (by simp) k.b, b0, b1, b2, b3, b4, b5, k.b, bifW_f k.s ?_⟩)
  repeat' (first | rfl | decide | refine And.intro ?_ ?_)
theorem sx07 {b0 b1 b2 b3 b4 b5 b6 : Int} (k : SixH s x y [] [b0, b1, b2, b3, b4, b5, b6]) : SixG (cwC (LsixT 0 7)) s (sixY [] [b0, b1, b2, b3, b4, b5, b6]) := by
  refine sx_of ((vs07 s _).mpr ⟨x, y, k.c, eq_of_nil k.a, k.a, ne_of (by simp) k.b, b0, b1, b2, b3, b4, b5, b6, k.b, bifW_f k.s ?_⟩)
  repeat' (first | rfl | decide | refine And.intro ?_ ?_)
theorem sx10 {a0 : Int} (k : SixH s x y [a0] []) : SixG (cwC (LsixT 1 0)) s (sixY [a0] []) := by
  refine sx_of ((vs10 s _).mpr ⟨x, y, k.c, ne_of (by simp) k.a, a0, k.a, eq_of_nil k.b, k.b, bifW_f k.s ?_⟩)
  repeat' (first | rfl | decide | refine And.intro ?_ ?_)
theorem sx11 {a0 b0 : Int} (k : SixH s x y [a0] [b0]) : SixG (cwC (LsixT 1 1)) s (sixY [a0] [b0]) := by
  refine sx_of ((vs11 s _).mpr ⟨x, y, k.c, ne_of (by simp) k.a, a0, k.a, ne_of (by simp) k.b, b0, k.b, bifW_f k.s ?_⟩)
  repeat' (first | rfl | decide | refine And.intro ?_ ?_)
theorem sx12 {a0 b0 b1 : Int} (k : SixH s x y [a0] [b0, b1]) : SixG (cwC (LsixT 1 2)) s (sixY [a0] [b0, b1]) := by
  refine sx_of ((vs12 s _).mpr ⟨x, y, k.c, ne_of (by simp) k.a, a0, k.a, ne_of (by simp) k.b, b0, b1, k.b, bifW_f k.s ?_⟩)
  repeat' (first | rfl | decide | refine And.intro ?_ ?_)
theorem sx13 {a0 b0 b1 b2 : Int} (k : SixH s x y [a0] [b0, b1, b2]) : SixG (cwC (LsixT 1 3)) s (sixY [a0] [b0, b1, b2]) := by
  refine sx_of ((vs13 s _).mpr ⟨x, y, k.c, ne_of (by simp) k.a, a0, k.a, ne_of (by simp) k.b, b0, b1, b2, k.b, bifW_f k.s ?_⟩)
  repeat' (first | rfl | decide | refine And.intro ?_ ?_)
theorem sx14 {a0 b0 b1 b2 b3 : Int} (k : SixH s x y [a0] [b0, b1, b2, b3]) : SixG (cwC (LsixT 1 4)) s (sixY [a0] [b0, b1, b2, b3]) := by
  refine sx_of ((vs14 s _).mpr ⟨x, y, k.c, ne_of (by simp) k.a, a0, k.a, ne_of (by simp) k.b, b0, b1, b2, b3, k.b, bifW_f k.s ?_⟩)
  repeat' (first | rfl | decide | refine And.intro ?_ ?_)
theorem sx15 {a0 b0 b1 b2 b3 b4 : Int} (k : SixH s x y [a0] [b0, b1, b2, b3, b4]) : SixG (cwC (LsixT 1 5)) s (sixY [a0] [b0, b1, b2, b3, b4]) := by
  refine sx_of ((vs15 s _).mpr ⟨x, y, k.c, ne_of (by simp) k.a, a0, k.a, ne_of (by simp) k.b, b0, b1, b2, b3, b4, k.b, bifW_f k.s ?_⟩)
  repeat' (first | rfl | decide | refine And.intro ?_ ?_)
theorem sx16 {a0 b0 b1 b2 b3 b4 b5 : Int} (k : SixH s x y [a0] [b0, b1, b2, b3, b4, b5]) : SixG (cwC (LsixT 1 6)) s (sixY [a0] [b0, b1, b2, b3, b4, b5]) := by
  refine sx_of ((vs16 s _).mpr ⟨x, y, k.c, ne_of (by simp) k.a, a0, k.a, ne_of (by simp) k.b, b0, b1, b2, b3, b4, b5, k.b, bifW_f k.s ?_⟩)
  repeat' (first | rfl | decide | refine And.intro ?_ ?_)
theorem sx20 {a0 a1 : Int} (k : SixH s x y [a0, a1] []) : SixG (cwC (LsixT 2 0)) s (sixY [a0, a1] []) := by
  refine sx_of ((vs20 s _).mpr ⟨x, y, k.c, ne_of (by simp) k.a, a0, a1, k.a, eq_of_nil k.b, k.b, bifW_f k.s ?_⟩)
  repeat' (first | rfl | decide | refine And.intro ?_ ?_)
theorem sx21 {a0 a1 b0 : Int} (k : SixH s x y [a0, a1] [b0]) : SixG (cwC (LsixT 2 1)) s (sixY [a0, a1] [b0]) := by
  refine sx_of ((vs21 s _).mpr ⟨x, y, k.c, ne_of (by simp) k.a, a0, a1, k.a, ne_of (by simp) k.b, b0, k.b, bifW_f k.s ?_⟩)
  repeat' (first | rfl | decide | refine And.intro ?_ ?_)
theorem sx22 {a0 a1 b0 b1 : Int} (k : SixH s x y [a0, a1] [b0, b1]) : SixG (cwC (LsixT 2 2)) s (sixY [a0, a1] [b0, b1]) := by
  refine sx_of ((vs22 s _).mpr ⟨x, y, k.c, ne_of (by simp) k.a, a0, a1, k.a, ne_of (by simp) k.b, b0, b1, k.b, bifW_f k.s ?_⟩)
  repeat' (first | rfl | decide | refine And.intro ?_ ?_)
theorem sx23 {a0 a1 b0 b1 b2 : Int} (k : SixH s x y [a0, a1] [b0, b1, b2]) : SixG (cwC (LsixT 2 3)) s (sixY [a0, a1] [b0, b1, b2]) := by
  refine sx_of ((vs23 s _).mpr ⟨x, y, k.c, ne_of (by simp) k.a, a0, a1, k.a, ne_of (by simp) k.b, b0, b1, b2, k.b, bifW_f k.s ?_⟩)
  repeat' (first | rfl | decide | refine And.intro ?_ ?_)
theorem sx24 {a0 a1 b0 b1 b2 b3 : Int} (k : SixH s x y [a0, a1] [b0, b1, b2, b3]) : SixG (cwC (LsixT 2 4)) s (sixY [a0, a1] [b0, b1, b2, b3]) := by
  refine sx_of ((vs24 s _).mpr ⟨x, y, k.c, ne_of (by simp) k.a, a0, a1, k.a, ne_of (by simp) k.b, b0, b1, b2, b3, k.b, bifW_f k.s ?_⟩)
  repeat' (first | rfl | decide | refine And.intro ?_ ?_)
theorem sx25 {a0 a1 b0 b1 b2 b3 b4 : Int} (k : SixH s x y [a0, a1] [b0, b1, b2, b3, b4]) : SixG (cwC (LsixT 2 5)) s (sixY [a0, a1] [b0, b1, b2, b3, b4]) := by
  refine sx_of ((vs25 s _).mpr ⟨x, y, k.c, ne_of (by simp) k.a, a0, a1, k.a, ne_of (by simp) k.b, b0, b1, b2, b3, b4, k.b, bifW_f k.s ?_⟩)
  repeat' (first | rfl | decide | refine And.intro ?_ ?_)
theorem sx30 {a0 a1 a2 : Int} (k : SixH s x y [a0, a1, a2] []) : SixG (cwC (LsixT 3 0)) s (sixY [a0, a1, a2] []) := by
  refine sx_of ((vs30 s _).mpr ⟨x, y, k.c, ne_of (by simp) k.a, a0, a1, a2, k.a, eq_of_nil k.b, k.b, bifW_f k.s ?_⟩)
  repeat' (first | rfl | decide | refine And.intro ?_ ?_)
theorem sx31 {a0 a1 a2 b0 : Int} (k : SixH s x y [a0, a1, a2] [b0]) : SixG (cwC (LsixT 3 1)) s (sixY [a0, a1, a2] [b0]) := by
  refine sx_of ((vs31 s _).mpr ⟨x, y, k.c, ne_of (by simp) k.a, a0, a1, a2, k.a, ne_of (by simp) k.b, b0, k.b, bifW_f k.s ?_⟩)
  repeat' (first | rfl | decide | refine And.intro ?_ ?_)
theorem sx32 {a0 a1 a2 b0 b1 : Int} (k : SixH s x y [a0, a1, a2] [b0, b1]) : SixG (cwC (LsixT 3 2)) s (sixY [a0, a1, a2] [b0, b1]) := by
  refine sx_of ((vs32 s _).mpr ⟨x, y, k.c, ne_of (by simp) k.a, a0, a1, a2, k.a, ne_of (by simp) k.b, b0, b1, k.b, bifW_f k.s ?_⟩)
  repeat' (first | rfl | decide | refine And.intro ?_ ?_)
theorem sx33 {a0 a1 a2 b0 b1 b2 : Int} (k : SixH s x y [a0, a1, a2] [b0, b1, b2]) : SixG (cwC (LsixT 3 3)) s (sixY [a0, a1, a2] [b0, b1, b2]) := by
  refine sx_of ((vs33 s _).mpr ⟨x, y, k.c, ne_of (by simp) k.a, a0, a1, a2, k.a, ne_of (by simp) k.b, b0, b1, b2, k.b, bifW_f k.s ?_⟩)
  repeat' (first | rfl | decide | refine And.intro ?_ ?_)
theorem sx34 {a0 a1 a2 b0 b1 b2 b3 : Int} (k : SixH s x y [a0, a1, a2] [b0, b1, b2, b3]) : SixG (cwC (LsixT 3 4)) s (sixY [a0, a1, a2] [b0, b1, b2, b3]) := by
  refine sx_of ((vs34 s _).mpr ⟨x, y, k.c, ne_of (by simp) k.a, a0, a1, a2, k.a, ne_of (by simp) k.b, b0, b1, b2, b3, k.b, bifW_f k.s ?_⟩)
  repeat' (first | rfl | decide | refine And.intro ?_ ?_)
theorem sx40 {a0 a1 a2 a3 : Int} (k : SixH s x y [a0, a1, a2, a3] []) : SixG (cwC (LsixT 4 0)) s (sixY [a0, a1, a2, a3] []) := by
  refine sx_of ((vs40 s _).mpr ⟨x, y, k.c, ne_of (by simp) k.a, a0, a1, a2, a3, k.a, eq_of_nil k.b, k.b, bifW_f k.s ?_⟩)
  repeat' (first | rfl | decide | refine And.intro ?_ ?_)
theorem sx41 {a0 a1 a2 a3 b0 : Int} (k : SixH s x y [a0, a1, a2, a3] [b0]) : SixG (cwC (LsixT 4 1)) s (sixY [a0, a1, a2, a3] [b0]) := by
  refine sx_of ((vs41 s _).mpr ⟨x, y, k.c, ne_of (by simp) k.a, a0, a1, a2, a3, k.a, ne_of (by simp) k.b, b0, k.b, bifW_f k.s ?_⟩)
  repeat' (first | rfl | decide | refine And.intro ?_ ?_)
theorem sx42 {a0 a1 a2 a3 b0 b1 : Int} (k : SixH s x y [a0, a1, a2, a3] [b0, b1]) : SixG (cwC (LsixT 4 2)) s (sixY [a0, a1, a2, a3] [b0, b1]) := by
  refine sx_of ((vs42 s _).mpr ⟨x, y, k.c, ne_of (by simp) k.a, a0, a1, a2, a3, k.a, ne_of (by simp) k.b, b0, b1, k.b, bifW_f k.s ?_⟩)
  repeat' (first | rfl | decide | refine And.intro ?_ ?_)
theorem sx43 {a0 a1 a2 a3 b0 b1 b2 : Int} (k : SixH s x y [a0, a1, a2, a3] [b0, b1, b2]) : SixG (cwC (LsixT 4 3)) s (sixY [a0, a1, a2, a3] [b0, b1, b2]) := by
  refine sx_of ((vs43 s _).mpr ⟨x, y, k.c, ne_of (by simp) k.a, a0, a1, a2, a3, k.a, ne_of (by simp) k.b, b0, b1, b2, k.b, bifW_f k.s ?_⟩)
  repeat' (first | rfl | decide | refine And.intro ?_ ?_)
theorem sx50 {a0 a1 a2 a3 a4 : Int} (k : SixH s x y [a0, a1, a2, a3, a4] []) : SixG (cwC (LsixT 5 0)) s (sixY [a0, a1, a2, a3, a4] []) := by
  refine sx_of ((vs50 s _).mpr ⟨x, y, k.c, ne_of (by simp) k.a, a0, a1, a2, a3, a4, k.a, eq_of_nil k.b, k.b, bifW_f k.s ?_⟩)
  repeat' (first | rfl | decide | refine And.intro ?_ ?_)
theorem sx51 {a0 a1 a2 a3 a4 b0 : Int} (k : SixH s x y [a0, a1, a2, a3, a4] [b0]) : SixG (cwC (LsixT 5 1)) s (sixY [a0, a1, a2, a3, a4] [b0]) := by
  refine sx_of ((vs51 s _).mpr ⟨x, y, k.c, ne_of (by simp) k.a, a0, a1, a2, a3, a4, k.a, ne_of (by simp) k.b, b0, k.b, bifW_f k.s ?_⟩)
  repeat' (first | rfl | decide | refine And.intro ?_ ?_)
theorem sx52 {a0 a1 a2 a3 a4 b0 b1 : Int} (k : SixH s x y [a0, a1, a2, a3, a4] [b0, b1]) : SixG (cwC (LsixT 5 2)) s (sixY [a0, a1, a2, a3, a4] [b0, b1]) := by
  refine sx_of ((vs52 s _).mpr ⟨x, y, k.c, ne_of (by simp) k.a, a0, a1, a2, a3, a4, k.a, ne_of (by simp) k.b, b0, b1, k.b, bifW_f k.s ?_⟩)
  repeat' (first | rfl | decide | refine And.intro ?_ ?_)
theorem sx60 {a0 a1 a2 a3 a4 a5 : Int} (k : SixH s x y [a0, a1, a2, a3, a4, a5] []) : SixG (cwC (LsixT 6 0)) s (sixY [a0, a1, a2, a3, a4, a5] []) := by
  refine sx_of ((vs60 s _).mpr ⟨x, y, k.c, ne_of (by simp) k.a, a0, a1, a2, a3, a4, a5, k.a, eq_of_nil k.b, k.b, bifW_f k.s ?_⟩)
  repeat' (first | rfl | decide | refine And.intro ?_ ?_)
theorem sx61 {a0 a1 a2 a3 a4 a5 b0 : Int} (k : SixH s x y [a0, a1, a2, a3, a4, a5] [b0]) : SixG (cwC (LsixT 6 1)) s (sixY [a0, a1, a2, a3, a4, a5] [b0]) := by
  refine sx_of ((vs61 s _).mpr ⟨x, y, k.c, ne_of (by simp) k.a, a0, a1, a2, a3, a4, a5, k.a, ne_of (by simp) k.b, b0, k.b, bifW_f k.s ?_⟩)
  repeat' (first | rfl | decide | refine And.intro ?_ ?_)
theorem sx70 {a0 a1 a2 a3 a4 a5 a6 : Int} (k : SixH s x y [a0, a1, a2, a3, a4, a5, a6] []) : SixG (cwC (LsixT 7 0)) s (sixY [a0, a1, a2, a3, a4, a5, a6] []) := by
  refine sx_of ((vs70 s _).mpr ⟨x, y, k.c, ne_of (by simp) k.a, a0, a1, a2, a3, a4, a5, a6, k.a, eq_of_nil k.b, k.b, bifW_f k.s ?_⟩)
  repeat' (first | rfl | decide | refine And.intro ?_ ?_)
end Go.Proofs.YtfnacgojmdbjmaaDoor
end

section
/- addr.six: its contract. No conditions. -/
namespace Go.Proofs.YtfnacgojmdbjmaaDoor
open Go.Det Go.RowKit Go.Proofs.YtfnacgojmdbjmaaDoorW.PrintWords Go.Proofs.YtfnacgojmdbjmaaDoor.PPH
set_option maxRecDepth 100000
theorem cut_no {s x0 x1 : ByteArray} (hc : cutF s { data := #[58, 58] } = some (x0, x1, false)) : x1.data.toList = [] := by
  unfold cutF at hc
  split at hc
  case isFalse => cases hc
  unfold cutB Lib.cut at hc
  split at hc
  · cases hc
  · cases hc; rfl
theorem sx_all {s x0 x1 : ByteArray} {la lb : List Int} (hc : cutF s { data := #[58, 58] } = some (x0, x1, true)) (ha : rowF (x0, !true) = some (la, true)) (hb : rowF (x1, true) = some (lb, true)) (hl : la.length + lb.length ≤ 7) (hs : ¬ s.data.toList = []) :
    ∃ cw, CwOk (ownCall Lsix0) cw ∧ SixG cw s (sixY la lb) := by
  obtain hh | hh | hh | hh | hh | hh | hh | hh : la.length = 0 ∨ la.length = 1 ∨ la.length = 2 ∨ la.length = 3 ∨ la.length = 4 ∨ la.length = 5 ∨ la.length = 6 ∨ la.length = 7 := by omega
  · obtain rfl := ex0 hh
    obtain ht | ht | ht | ht | ht | ht | ht | ht : lb.length = 0 ∨ lb.length = 1 ∨ lb.length = 2 ∨ lb.length = 3 ∨ lb.length = 4 ∨ lb.length = 5 ∨ lb.length = 6 ∨ lb.length = 7 := by simp only [List.length_cons, List.length_nil] at hl; omega
    · obtain rfl := ex0 ht
      exact ⟨_, cwC_ok (LsixT 0 0), sx00 ⟨hc, ha, hb, hs⟩⟩
    · obtain ⟨b0, rfl⟩ := ex1 ht
      exact ⟨_, cwC_ok (LsixT 0 1), sx01 ⟨hc, ha, hb, hs⟩⟩
    · obtain ⟨b0, b1, rfl⟩ := ex2 ht
      exact ⟨_, cwC_ok (LsixT 0 2), sx02 ⟨hc, ha, hb, hs⟩⟩
    · obtain ⟨b0, b1, b2, rfl⟩ := ex3 ht
      exact ⟨_, cwC_ok (LsixT 0 3), sx03 ⟨hc, ha, hb, hs⟩⟩
    · obtain ⟨b0, b1, b2, b3, rfl⟩ := ex4 ht
      exact ⟨_, cwC_ok (LsixT 0 4), sx04 ⟨hc, ha, hb, hs⟩⟩
    · obtain ⟨b0, b1, b2, b3, b4, rfl⟩ := ex5 ht
      exact ⟨_, cwC_ok (LsixT 0 5), sx05 ⟨hc, ha, hb, hs⟩⟩
    · obtain ⟨b0, b1, b2, b3, b4, b5, rfl⟩ := ex6 ht
      exact ⟨_, cwC_ok (LsixT 0 6), sx06 ⟨hc, ha, hb, hs⟩⟩
    · obtain ⟨b0, b1, b2, b3, b4, b5, b6, rfl⟩ := ex7 ht
      exact ⟨_, cwC_ok (LsixT 0 7), sx07 ⟨hc, ha, hb, hs⟩⟩
  · obtain ⟨a0, rfl⟩ := ex1 hh
    obtain ht | ht | ht | ht | ht | ht | ht : lb.length = 0 ∨ lb.length = 1 ∨ lb.length = 2 ∨ lb.length = 3 ∨ lb.length = 4 ∨ lb.length = 5 ∨ lb.length = 6 := by simp only [List.length_cons, List.length_nil] at hl; omega
    · obtain rfl := ex0 ht
      exact ⟨_, cwC_ok (LsixT 1 0), sx10 ⟨hc, ha, hb, hs⟩⟩
    · obtain ⟨b0, rfl⟩ := ex1 ht
      exact ⟨_, cwC_ok (LsixT 1 1), sx11 ⟨hc, ha, hb, hs⟩⟩
    · obtain ⟨b0, b1, rfl⟩ := ex2 ht
      exact ⟨_, cwC_ok (LsixT 1 2), sx12 ⟨hc, ha, hb, hs⟩⟩
    · obtain ⟨b0, b1, b2, rfl⟩ := ex3 ht
      exact ⟨_, cwC_ok (LsixT 1 3), sx13 ⟨hc, ha, hb, hs⟩⟩
    · obtain ⟨b0, b1, b2, b3, rfl⟩ := ex4 ht
      exact ⟨_, cwC_ok (LsixT 1 4), sx14 ⟨hc, ha, hb, hs⟩⟩
    · obtain ⟨b0, b1, b2, b3, b4, rfl⟩ := ex5 ht
      exact ⟨_, cwC_ok (LsixT 1 5), sx15 ⟨hc, ha, hb, hs⟩⟩
    · obtain ⟨b0, b1, b2, b3, b4, b5, rfl⟩ := ex6 ht
      exact ⟨_, cwC_ok (LsixT 1 6), sx16 ⟨hc, ha, hb, hs⟩⟩
  · obtain ⟨a0, a1, rfl⟩ := ex2 hh
    obtain ht | ht | ht | ht | ht | ht : lb.length = 0 ∨ lb.length = 1 ∨ lb.length = 2 ∨ lb.length = 3 ∨ lb.length = 4 ∨ lb.length = 5 := by simp only [List.length_cons, List.length_nil] at hl; omega
    · obtain rfl := ex0 ht
      exact ⟨_, cwC_ok (LsixT 2 0), sx20 ⟨hc, ha, hb, hs⟩⟩
    · obtain ⟨b0, rfl⟩ := ex1 ht
      exact ⟨_, cwC_ok (LsixT 2 1), sx21 ⟨hc, ha, hb, hs⟩⟩
    · obtain ⟨b0, b1, rfl⟩ := ex2 ht
      exact ⟨_, cwC_ok (LsixT 2 2), sx22 ⟨hc, ha, hb, hs⟩⟩
    · obtain ⟨b0, b1, b2, rfl⟩ := ex3 ht
      exact ⟨_, cwC_ok (LsixT 2 3), sx23 ⟨hc, ha, hb, hs⟩⟩
    · obtain ⟨b0, b1, b2, b3, rfl⟩ := ex4 ht
      exact ⟨_, cwC_ok (LsixT 2 4), sx24 ⟨hc, ha, hb, hs⟩⟩
    · obtain ⟨b0, b1, b2, b3, b4, rfl⟩ := ex5 ht
      exact ⟨_, cwC_ok (LsixT 2 5), sx25 ⟨hc, ha, hb, hs⟩⟩
  · obtain ⟨a0, a1, a2, rfl⟩ := ex3 hh
    obtain ht | ht | ht | ht | ht : lb.length = 0 ∨ lb.length = 1 ∨ lb.length = 2 ∨ lb.length = 3 ∨ lb.length = 4 := by simp only [List.length_cons, List.length_nil] at hl; omega
    · obtain rfl := ex0 ht
      exact ⟨_, cwC_ok (LsixT 3 0), sx30 ⟨hc, ha, hb, hs⟩⟩
    · obtain ⟨b0, rfl⟩ := ex1 ht
      exact ⟨_, cwC_ok (LsixT 3 1), sx31 ⟨hc, ha, hb, hs⟩⟩
    · obtain ⟨b0, b1, rfl⟩ := ex2 ht
      exact ⟨_, cwC_ok (LsixT 3 2), sx32 ⟨hc, ha, hb, hs⟩⟩
    · obtain ⟨b0, b1, b2, rfl⟩ := ex3 ht
      exact ⟨_, cwC_ok (LsixT 3 3), sx33 ⟨hc, ha, hb, hs⟩⟩
    · obtain ⟨b0, b1, b2, b3, rfl⟩ := ex4 ht
      exact ⟨_, cwC_ok (LsixT 3 4), sx34 ⟨hc, ha, hb, hs⟩⟩
  · obtain ⟨a0, a1, a2, a3, rfl⟩ := ex4 hh
    obtain ht | ht | ht | ht : lb.length = 0 ∨ lb.length = 1 ∨ lb.length = 2 ∨ lb.length = 3 := by simp only [List.length_cons, List.length_nil] at hl; omega
    · obtain rfl := ex0 ht
      exact ⟨_, cwC_ok (LsixT 4 0), sx40 ⟨hc, ha, hb, hs⟩⟩
    · obtain ⟨b0, rfl⟩ := ex1 ht
      exact ⟨_, cwC_ok (LsixT 4 1), sx41 ⟨hc, ha, hb, hs⟩⟩
    · obtain ⟨b0, b1, rfl⟩ := ex2 ht
      exact ⟨_, cwC_ok (LsixT 4 2), sx42 ⟨hc, ha, hb, hs⟩⟩
    · obtain ⟨b0, b1, b2, rfl⟩ := ex3 ht
      exact ⟨_, cwC_ok (LsixT 4 3), sx43 ⟨hc, ha, hb, hs⟩⟩
  · obtain ⟨a0, a1, a2, a3, a4, rfl⟩ := ex5 hh
    obtain ht | ht | ht : lb.length = 0 ∨ lb.length = 1 ∨ lb.length = 2 := by simp only [List.length_cons, List.length_nil] at hl; omega
    · obtain rfl := ex0 ht
      exact ⟨_, cwC_ok (LsixT 5 0), sx50 ⟨hc, ha, hb, hs⟩⟩
    · obtain ⟨b0, rfl⟩ := ex1 ht
      exact ⟨_, cwC_ok (LsixT 5 1), sx51 ⟨hc, ha, hb, hs⟩⟩
    · obtain ⟨b0, b1, rfl⟩ := ex2 ht
      exact ⟨_, cwC_ok (LsixT 5 2), sx52 ⟨hc, ha, hb, hs⟩⟩
  · obtain ⟨a0, a1, a2, a3, a4, a5, rfl⟩ := ex6 hh
    obtain ht | ht : lb.length = 0 ∨ lb.length = 1 := by simp only [List.length_cons, List.length_nil] at hl; omega
    · obtain rfl := ex0 ht
      exact ⟨_, cwC_ok (LsixT 6 0), sx60 ⟨hc, ha, hb, hs⟩⟩
    · obtain ⟨b0, rfl⟩ := ex1 ht
      exact ⟨_, cwC_ok (LsixT 6 1), sx61 ⟨hc, ha, hb, hs⟩⟩
  · obtain ⟨a0, a1, a2, a3, a4, a5, a6, rfl⟩ := ex7 hh
    have ht : lb.length = 0 := by simp only [List.length_cons, List.length_nil] at hl; omega
    obtain rfl := ex0 ht
    exact ⟨_, cwC_ok (LsixT 7 0), sx70 ⟨hc, ha, hb, hs⟩⟩
theorem sxw {s x0 x1 : ByteArray} {a0 a1 a2 a3 a4 a5 a6 a7 : Int} (hc : cutF s { data := #[58, 58] } = some (x0, x1, false)) (ha : rowF (x0, !false) = some ([a0, a1, a2, a3, a4, a5, a6, a7], true)) (hb : rowF (x1, true) = some ([], true)) (hs : ¬ s.data.toList = []) :
    codeW Tryd.prog (cwC LsixW) (bodyOf Tryd.f52) (inTab [.string s] 8) (birth [] 64) (retW Tryd.prog Tryd.f52 fun v' _ => v' = enAB (6, (comb8 [a0, a1, a2, a3, a4, a5, a6, a7]).1, (comb8 [a0, a1, a2, a3, a4, a5, a6, a7]).2, true)) := by
  refine codeU_codeW (cwC_mono _) (oxE_ok _) (n := 9) (by kernel_rfl) ((vsw s _).mpr ⟨x0, x1, hc, .inr ⟨ne_of (by simp) ha, a0, a1, a2, a3, a4, a5, a6, a7, ha, .inl ⟨eq_of_nil hb, hb, bifW_f hs ?_⟩⟩⟩)
  repeat' (first | rfl | decide | refine And.intro ?_ ?_)
theorem w52 (s : ByteArray) (y : Int × Int × Int × Bool) (hx : sixF s = some y) : ∃ cw, CwOk (ownCall Lsix0) cw ∧ codeW Tryd.prog cw (bodyOf Tryd.f52) (inTab [.string s] 8) (birth [] 64) (retW Tryd.prog Tryd.f52 fun v' _ => v' = enAB y) := by
  unfold sixF at hx
  obtain ⟨⟨x0, x1, cut⟩, hc, hx⟩ := Option.bind_eq_some_iff.1 hx
  obtain ⟨⟨la, oa⟩, ha, hx⟩ := Option.bind_eq_some_iff.1 hx
  obtain ⟨⟨lb, ob⟩, hb, hx⟩ := Option.bind_eq_some_iff.1 hx
  simp only at ha hb hx
  split at hx
  · rename_i H
    cases hx
    cases cut with
    | true => exact ⟨_, cwC_ok (LsixB true), six_zT hc ha hb H⟩
    | false => exact ⟨_, cwC_ok (LsixB false), six_zF hc ha hb H⟩
  · rename_i H
    cases hx
    unfold sixB at H
    simp only [Bool.or_eq_true, Bool.not_eq_true', decide_eq_true_eq, not_or, Bool.not_eq_false] at H
    obtain ⟨rfl, rfl, hs, H⟩ := H
    cases cut with
    | true => exact sx_all hc ha hb (by simp only [decide_eq_true_eq] at H; omega) hs
    | false =>
      have e := nil_of (cut_no hc) hb
      cases e
      simp only [decide_eq_true_eq, List.length_nil, Nat.add_zero, ne_eq, Decidable.not_not] at H
      obtain ⟨a0, a1, a2, a3, a4, a5, a6, a7, rfl⟩ := ex8 H
      exact ⟨_, cwC_ok LsixW, sxw hc ha hb hs⟩
noncomputable def con52 : Con := Con.opt decB sixF enAB
theorem om52 {W : World} (hW : GoodW W) : OwnAll Tryd.prog W 6 52 con52.own := by
  refine own_flat2 (l := Lsix0) (Laying.empty hW.size) hW.size (by decide) dt_mixed (OwnsAll.cons (om60 hW) (OwnsAll.cons (om75 hW) (ownsAll_nil W 6))) Tryd.func52 (fn := Tryd.f52) (c := bodyOf Tryd.f52) (by kernel_rfl) (by kernel_rfl) fun args v hv => ?_
  split at hv
  case h_2 => cases hv
  rename_i a ha
  split at hv
  case h_2 => cases hv
  rename_i b hd
  cases hv
  obtain rfl := decB_enc ha
  exact ⟨rfl, rfl, by kernel_rfl, w52 a b hd⟩
end Go.Proofs.YtfnacgojmdbjmaaDoor
end

section
/- addr.Print: its words. No conditions. -/
namespace Go.Proofs.YtfnacgojmdbjmaaDoor
open Go.Det Go.RowKit Go.Proofs.YtfnacgojmdbjmaaDoorW.PrintWords Go.Proofs.YtfnacgojmdbjmaaDoor.PPH
set_option maxRecDepth 100000
def partsI (x : Int × Int) : Option (List Int) := some (partL x.1 ++ partL x.2)
noncomputable def con56n : Con where
  own := con56.own
  w := fun args s K => match decQ2 args with
    | some a => exN 8 fun l => partsI a = some l ∧ K (.slice (some ⟨s.next, 0, none⟩) 8 8) (s.new (.cells (l.map (Value.int .u64)) 55 false))
    | none => False
  ok := by
    intro args s K h
    split at h
    · rename_i a ha
      obtain ⟨l, hl, h, hk⟩ := exN_some h
      have e : partsF a = some (l.map (Value.int .u64)) := by cases h; rfl
      exact ⟨_, _, by unfold con56 Con.made; simp only [ha, e], hk, fun K' k => exN_intro hl ⟨h, k⟩⟩
    · exact h.elim
  mono := by
    intro args s K K' k h
    split at h
    · obtain ⟨l, hl, h, hk⟩ := exN_some h
      exact exN_intro hl ⟨h, k _ _ hk⟩
    · exact h.elim
noncomputable def decU1 : List Value → Option Int
  | [.int .u64 n] => some n
  | _ => none
theorem decU1_enc {args : List Value} {a : Int} (h : decU1 args = some a) : args = [.int .u64 a] := by
  unfold decU1 at h
  split at h
  case h_2 => cases h
  cases h; rfl
noncomputable def con54 : Con := Con.opt decU1 txtF enS
theorem om54 {W : World} (hW : GoodW W) : OwnAll Tryd.prog W 6 54 con54.own := by
  refine own_of_calls (fn := Tryd.f54) (c := bodyOf Tryd.f54) hW Tryd.func54 (by kernel_rfl) (by kernel_rfl) fun args v h => ?_
  split at h
  case h_2 => cases h
  rename_i a ha
  split at h
  case h_2 => cases h
  rename_i b hb
  cases h
  obtain rfl := decU1_enc ha
  exact ⟨rfl, rfl, fun w hG => st_txt hG hb⟩
noncomputable def decA : List Value → Option (Int × Int × Int)
  | [.agg ⟨[.int .i64 a, .int .u64 b, .int .u64 c]⟩] => some (a, b, c)
  | _ => none
theorem decA_enc {args : List Value} {a : Int × Int × Int} (h : decA args = some a) : args = [.agg #[.int .i64 a.1, .int .u64 a.2.1, .int .u64 a.2.2]] := by
  unfold decA at h
  split at h
  case h_2 => cases h
  cases h; rfl
def okF (v h l : Int) : Option Bool := if v = 6 then some true else if v = 4 then (if h = 0 then some (decide (l < 4294967296)) else some false) else some false
noncomputable def enB (y : Bool) : Value := .bool y
noncomputable def con31 : Con := Con.opt decA (fun x => okF x.1 x.2.1 x.2.2) enB
noncomputable def Lpr : List (Nat × Con) := [(31, con31), (54, con54), (55, con55), (56, con56n), (57, con57), (58, con58)]
end Go.Proofs.YtfnacgojmdbjmaaDoor
end
