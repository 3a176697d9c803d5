/- The functions without loops come to what they are told to be. No conditions. -/
import Derived.Test.YtfnacgojmdbjmaaGreatDoorRo28
namespace Go.Proofs.YtfnacgojmdbjmaaGreatDoor
open Go.Det Go.RowKit Go.Proofs.YtfnacgojmdbjmaaGreatDoor.PRD Go.Proofs.YtfnacgojmdbjmaaGreatDoorW.PrintWords
set_option maxRecDepth 100000

theorem w27 (x : Int × Int × Int × Int × Int × Int × Int) (y : Bool) (hx : gleberef1_Has.f x.1 x.2.1 x.2.2.1 x.2.2.2.1 x.2.2.2.2.1 x.2.2.2.2.2.1 x.2.2.2.2.2.2 = some y) : codeW Tryz.prog (cwC L27) (bodyOf Tryz.f27) (inTab (enc27 x) 8) (birth [] 64) (retW Tryz.prog Tryz.f27 fun v' _ => v' = enr27 y) := by
  obtain ⟨a, b, c, d, e, f, g⟩ := x
  refine (vc27 a b c d e f g _).mpr ?_
  unfold gleberef1_Has.f at hx
  try simp only [wrapE, andI_eq, orI_eq]
  repeat' first
    | (obtain ⟨y, hy, hx⟩ := Option.bind_eq_some_iff.1 hx; refine ⟨y, hy, ?_⟩)
    | ((refine bifW_c (fun hc => ?_) (fun hc => ?_)) <;> first | rw [if_pos hc] at hx | rw [if_neg hc] at hx | rw [if_pos (Decidable.not_not.1 hc)] at hx)
    | ((refine bifW_n (fun hc => ?_) (fun hc => ?_)) <;> first | rw [if_pos hc] at hx | rw [if_neg hc] at hx)
    | ((refine bifW_b (fun hc => ?_) (fun hc => ?_)) <;> first | rw [if_pos hc] at hx | rw [if_neg hc] at hx)
    | (split at hx <;> first | (cases hx; done) | (refine And.intro (by assumption) ?_))
    | (cases hx; rfl)
    | (cases hx; simp only [enr27, cdec_eq, cdec_beq, Bool.and_true])
theorem om27 {W : World} (hW : GoodW W) : OwnAll Tryz.prog W 6 27 con27.own :=
  con_opt enc27 (Laying.empty hW.size) hW.size (by decide) dt_mixed (OwnsAll.con (om16 hW) (OwnsAll.con (om44 hW) (OwnsAll.con (om65 hW) (OwnsAll.con (om55 hW) (ownsAll_nil W 6))))) Tryz.func27 (fn := Tryz.f27) (c := bodyOf Tryz.f27) (by kernel_rfl) (by kernel_rfl) (fun _ _ h => dec27_enc h) (fun a => ⟨rfl, (by kernel_rfl)⟩) (fun b => rfl) w27
theorem w36 (x : Int × Int × Int × Int) (y : Int × Int × Int × Int × Int × Int) (hx : glebelaw4_Rang.f x.1 x.2.1 x.2.2.1 x.2.2.2 = some y) : codeW Tryz.prog (cwC L36) (bodyOf Tryz.f36) (inTab (enc36 x) 8) (birth [] 64) (retW Tryz.prog Tryz.f36 fun v' _ => v' = enr36 y) := by
  obtain ⟨a, b, c, d⟩ := x
  refine (vc36 a b c d _).mpr ?_
  unfold glebelaw4_Rang.f at hx
  try simp only [wrapE, andI_eq, orI_eq]
  repeat' first
    | (obtain ⟨y, hy, hx⟩ := Option.bind_eq_some_iff.1 hx; refine ⟨y, hy, ?_⟩)
    | ((refine bifW_c (fun hc => ?_) (fun hc => ?_)) <;> first | rw [if_pos hc] at hx | rw [if_neg hc] at hx | rw [if_pos (Decidable.not_not.1 hc)] at hx)
    | ((refine bifW_n (fun hc => ?_) (fun hc => ?_)) <;> first | rw [if_pos hc] at hx | rw [if_neg hc] at hx)
    | ((refine bifW_b (fun hc => ?_) (fun hc => ?_)) <;> first | rw [if_pos hc] at hx | rw [if_neg hc] at hx)
    | (split at hx <;> first | (cases hx; done) | (refine And.intro (by assumption) ?_))
    | (cases hx; rfl)
    | (cases hx; simp only [enr36, cdec_eq, cdec_beq, Bool.and_true])
    | (refine And.intro (by decide) ?_)
    | (refine And.intro (wrap_within .u64 _).1 ?_)
theorem om36 {W : World} (hW : GoodW W) : OwnAll Tryz.prog W 6 36 con36.own :=
  con_opt enc36 (Laying.empty hW.size) hW.size (by decide) dt_mixed (OwnsAll.con (om42 hW) (OwnsAll.con (om43 hW) (OwnsAll.con (om44 hW) (ownsAll_nil W 6)))) Tryz.func36 (fn := Tryz.f36) (c := bodyOf Tryz.f36) (by kernel_rfl) (by kernel_rfl) (fun _ _ h => dec36_enc h) (fun a => ⟨rfl, (by kernel_rfl)⟩) (fun b => rfl) w36
theorem w38 (x : Int × Int × Int × Int) (y : Bool) (hx : gleberef1_Less.f x.1 x.2.1 x.2.2.1 x.2.2.2 = some y) : codeW Tryz.prog (cwC L38) (bodyOf Tryz.f38) (inTab (enc38 x) 8) (birth [] 64) (retW Tryz.prog Tryz.f38 fun v' _ => v' = enr38 y) := by
  obtain ⟨a, b, c, d⟩ := x
  refine (vc38 a b c d _).mpr ?_
  unfold gleberef1_Less.f at hx
  try simp only [wrapE, andI_eq, orI_eq]
  repeat' first
    | (obtain ⟨y, hy, hx⟩ := Option.bind_eq_some_iff.1 hx; refine ⟨y, hy, ?_⟩)
    | ((refine bifW_c (fun hc => ?_) (fun hc => ?_)) <;> first | rw [if_pos hc] at hx | rw [if_neg hc] at hx | rw [if_pos (Decidable.not_not.1 hc)] at hx)
    | ((refine bifW_n (fun hc => ?_) (fun hc => ?_)) <;> first | rw [if_pos hc] at hx | rw [if_neg hc] at hx)
    | ((refine bifW_b (fun hc => ?_) (fun hc => ?_)) <;> first | rw [if_pos hc] at hx | rw [if_neg hc] at hx)
    | (split at hx <;> first | (cases hx; done) | (refine And.intro (by assumption) ?_))
    | (cases hx; rfl)
    | (cases hx; simp only [enr38, cdec_eq, cdec_beq, Bool.and_true])
theorem om38 {W : World} (hW : GoodW W) : OwnAll Tryz.prog W 6 38 con38.own :=
  con_opt enc38 (Laying.empty hW.size) hW.size (by decide) dt_mixed (ownsAll_nil W 6) Tryz.func38 (fn := Tryz.f38) (c := bodyOf Tryz.f38) (by kernel_rfl) (by kernel_rfl) (fun _ _ h => dec38_enc h) (fun a => ⟨rfl, (by kernel_rfl)⟩) (fun b => rfl) w38
theorem w37 (x : Int × Int × Int × Int × Int × Int × Int × Int × Int) (y : Bool) (hx : glebelaw4_RangOver_S1.f x.1 x.2.1 x.2.2.1 x.2.2.2.1 x.2.2.2.2.1 x.2.2.2.2.2.1 x.2.2.2.2.2.2.1 x.2.2.2.2.2.2.2.1 x.2.2.2.2.2.2.2.2 = some y) : codeW Tryz.prog (cwC L37) (bodyOf Tryz.f37) (inTab (enc37 x) 8) (birth [] 64) (retW Tryz.prog Tryz.f37 fun v' _ => v' = enr37 y) := by
  obtain ⟨a, b, c, d, e, f, g, h, i⟩ := x
  refine (vc37 a b c d e f g h i _).mpr ?_
  unfold glebelaw4_RangOver_S1.f at hx
  try simp only [wrapE, andI_eq, orI_eq]
  repeat' first
    | (obtain ⟨y, hy, hx⟩ := Option.bind_eq_some_iff.1 hx; refine ⟨y, hy, ?_⟩)
    | ((refine bifW_c (fun hc => ?_) (fun hc => ?_)) <;> first | rw [if_pos hc] at hx | rw [if_neg hc] at hx | rw [if_pos (Decidable.not_not.1 hc)] at hx)
    | ((refine bifW_n (fun hc => ?_) (fun hc => ?_)) <;> first | rw [if_pos hc] at hx | rw [if_neg hc] at hx)
    | ((refine bifW_b (fun hc => ?_) (fun hc => ?_)) <;> first | rw [if_pos hc] at hx | rw [if_neg hc] at hx)
    | (split at hx <;> first | (cases hx; done) | (refine And.intro (by assumption) ?_))
    | (cases hx; rfl)
    | (cases hx; simp only [enr37, cdec_eq, cdec_beq, Bool.and_true])
theorem om37 {W : World} (hW : GoodW W) : OwnAll Tryz.prog W 6 37 con37.own :=
  con_opt enc37 (Laying.empty hW.size) hW.size (by decide) dt_mixed (OwnsAll.con (om38 hW) (ownsAll_nil W 6)) Tryz.func37 (fn := Tryz.f37) (c := bodyOf Tryz.f37) (by kernel_rfl) (by kernel_rfl) (fun _ _ h => dec37_enc h) (fun a => ⟨rfl, (by kernel_rfl)⟩) (fun b => rfl) w37
theorem w39 (x : Int × Int × Int × Int × Int × Int × Int × Int × Int × Int × Int × Int) (y : Bool) (hx : rang_Over.f x.1 x.2.1 x.2.2.1 x.2.2.2.1 x.2.2.2.2.1 x.2.2.2.2.2.1 x.2.2.2.2.2.2.1 x.2.2.2.2.2.2.2.1 x.2.2.2.2.2.2.2.2.1 x.2.2.2.2.2.2.2.2.2.1 x.2.2.2.2.2.2.2.2.2.2.1 x.2.2.2.2.2.2.2.2.2.2.2 = some y) : codeW Tryz.prog (cwC L39) (bodyOf Tryz.f39) (inTab (enc39 x) 8) (birth [] 64) (retW Tryz.prog Tryz.f39 fun v' _ => v' = enr39 y) := by
  obtain ⟨a, b, c, d, e, f, g, h, i, j, k, l⟩ := x
  refine (vc39 a b c d e f g h i j k l _).mpr ?_
  unfold rang_Over.f at hx
  try simp only [wrapE, andI_eq, orI_eq]
  repeat' first
    | (obtain ⟨y, hy, hx⟩ := Option.bind_eq_some_iff.1 hx; refine ⟨y, hy, ?_⟩)
    | ((refine bifW_c (fun hc => ?_) (fun hc => ?_)) <;> first | rw [if_pos hc] at hx | rw [if_neg hc] at hx | rw [if_pos (Decidable.not_not.1 hc)] at hx)
    | ((refine bifW_n (fun hc => ?_) (fun hc => ?_)) <;> first | rw [if_pos hc] at hx | rw [if_neg hc] at hx)
    | ((refine bifW_b (fun hc => ?_) (fun hc => ?_)) <;> first | rw [if_pos hc] at hx | rw [if_neg hc] at hx)
    | (split at hx <;> first | (cases hx; done) | (refine And.intro (by assumption) ?_))
    | (cases hx; rfl)
    | (cases hx; simp only [enr39, cdec_eq, cdec_beq, Bool.and_true])
theorem om39 {W : World} (hW : GoodW W) : OwnAll Tryz.prog W 6 39 con39.own :=
  con_opt enc39 (Laying.empty hW.size) hW.size (by decide) dt_mixed (OwnsAll.con (om48 hW) (OwnsAll.con (om75 hW) (ownsAll_nil W 6))) Tryz.func39 (fn := Tryz.f39) (c := bodyOf Tryz.f39) (by kernel_rfl) (by kernel_rfl) (fun _ _ h => dec39_enc h) (fun a => ⟨rfl, (by kernel_rfl)⟩) (fun b => rfl) w39
theorem w26 (x : Int × Int × Int × Int × Int × Int × Int) (y : Bool) (hx : pref_Has.f x.1 x.2.1 x.2.2.1 x.2.2.2.1 x.2.2.2.2.1 x.2.2.2.2.2.1 x.2.2.2.2.2.2 = some y) : codeW Tryz.prog (cwC L26) (bodyOf Tryz.f26) (inTab (enc26 x) 8) (birth [] 64) (retW Tryz.prog Tryz.f26 fun v' _ => v' = enr26 y) := by
  obtain ⟨a, b, c, d, e, f, g⟩ := x
  refine (vc26 a b c d e f g _).mpr ?_
  unfold pref_Has.f at hx
  try simp only [wrapE, andI_eq, orI_eq]
  repeat' first
    | (obtain ⟨y, hy, hx⟩ := Option.bind_eq_some_iff.1 hx; refine ⟨y, hy, ?_⟩)
    | ((refine bifW_c (fun hc => ?_) (fun hc => ?_)) <;> first | rw [if_pos hc] at hx | rw [if_neg hc] at hx | rw [if_pos (Decidable.not_not.1 hc)] at hx)
    | ((refine bifW_n (fun hc => ?_) (fun hc => ?_)) <;> first | rw [if_pos hc] at hx | rw [if_neg hc] at hx)
    | ((refine bifW_b (fun hc => ?_) (fun hc => ?_)) <;> first | rw [if_pos hc] at hx | rw [if_neg hc] at hx)
    | (split at hx <;> first | (cases hx; done) | (refine And.intro (by assumption) ?_))
    | (cases hx; rfl)
    | (cases hx; simp only [enr26, cdec_eq, cdec_beq, Bool.and_true])
theorem om26 {W : World} (hW : GoodW W) : OwnAll Tryz.prog W 6 26 con26.own :=
  con_opt enc26 (Laying.empty hW.size) hW.size (by decide) dt_mixed (OwnsAll.con (om22 hW) (OwnsAll.con (om68 hW) (OwnsAll.con (om67 hW) (OwnsAll.con (om66 hW) (ownsAll_nil W 6))))) Tryz.func26 (fn := Tryz.f26) (c := bodyOf Tryz.f26) (by kernel_rfl) (by kernel_rfl) (fun _ _ h => dec26_enc h) (fun a => ⟨rfl, (by kernel_rfl)⟩) (fun b => rfl) w26
theorem w40 (x : Int × Int × Int × Int × Int × Int × Int × Int × Int × Int) (y : Bool) (hx : rang_In.f x.1 x.2.1 x.2.2.1 x.2.2.2.1 x.2.2.2.2.1 x.2.2.2.2.2.1 x.2.2.2.2.2.2.1 x.2.2.2.2.2.2.2.1 x.2.2.2.2.2.2.2.2.1 x.2.2.2.2.2.2.2.2.2 = some y) : codeW Tryz.prog (cwC L40) (bodyOf Tryz.f40) (inTab (enc40 x) 8) (birth [] 64) (retW Tryz.prog Tryz.f40 fun v' _ => v' = enr40 y) := by
  obtain ⟨a, b, c, d, e, f, g, h, i, j⟩ := x
  refine (vc40 a b c d e f g h i j _).mpr ?_
  unfold rang_In.f at hx
  try simp only [wrapE, andI_eq, orI_eq]
  repeat' first
    | (obtain ⟨y, hy, hx⟩ := Option.bind_eq_some_iff.1 hx; refine ⟨y, hy, ?_⟩)
    | ((refine bifW_c (fun hc => ?_) (fun hc => ?_)) <;> first | rw [if_pos hc] at hx | rw [if_neg hc] at hx | rw [if_pos (Decidable.not_not.1 hc)] at hx)
    | ((refine bifW_n (fun hc => ?_) (fun hc => ?_)) <;> first | rw [if_pos hc] at hx | rw [if_neg hc] at hx)
    | ((refine bifW_b (fun hc => ?_) (fun hc => ?_)) <;> first | rw [if_pos hc] at hx | rw [if_neg hc] at hx)
    | (split at hx <;> first | (cases hx; done) | (refine And.intro (by assumption) ?_))
    | (cases hx; rfl)
    | (cases hx; simp only [enr40, cdec_eq, cdec_beq, Bool.and_true])
theorem om40 {W : World} (hW : GoodW W) : OwnAll Tryz.prog W 6 40 con40.own :=
  con_opt enc40 (Laying.empty hW.size) hW.size (by decide) dt_mixed (OwnsAll.con (om48 hW) (OwnsAll.con (om26 hW) (ownsAll_nil W 6))) Tryz.func40 (fn := Tryz.f40) (c := bodyOf Tryz.f40) (by kernel_rfl) (by kernel_rfl) (fun _ _ h => dec40_enc h) (fun a => ⟨rfl, (by kernel_rfl)⟩) (fun b => rfl) w40
theorem w41 (x : Int × Int × Int × Int × Int × Int × Int × Int × Int × Int × Int × Int) (y : Bool) (hx : rang_Less.f x.1 x.2.1 x.2.2.1 x.2.2.2.1 x.2.2.2.2.1 x.2.2.2.2.2.1 x.2.2.2.2.2.2.1 x.2.2.2.2.2.2.2.1 x.2.2.2.2.2.2.2.2.1 x.2.2.2.2.2.2.2.2.2.1 x.2.2.2.2.2.2.2.2.2.2.1 x.2.2.2.2.2.2.2.2.2.2.2 = some y) : codeW Tryz.prog (cwC L41) (bodyOf Tryz.f41) (inTab (enc41 x) 8) (birth [] 64) (retW Tryz.prog Tryz.f41 fun v' _ => v' = enr41 y) := by
  obtain ⟨a, b, c, d, e, f, g, h, i, j, k, l⟩ := x
  refine (vc41 a b c d e f g h i j k l _).mpr ?_
  unfold rang_Less.f at hx
  simp only [cdec_beq] at hx
  simp only [Bool.and_true]
  try simp only [wrapE, andI_eq, orI_eq]
  repeat' first
    | (obtain ⟨y, hy, hx⟩ := Option.bind_eq_some_iff.1 hx; refine ⟨y, hy, ?_⟩)
    | ((refine bifW_c (fun hc => ?_) (fun hc => ?_)) <;> first | rw [if_pos hc] at hx | rw [if_neg hc] at hx | rw [if_pos (Decidable.not_not.1 hc)] at hx)
    | ((refine bifW_n (fun hc => ?_) (fun hc => ?_)) <;> first | rw [if_pos hc] at hx | rw [if_neg hc] at hx)
    | ((refine bifW_b (fun hc => ?_) (fun hc => ?_)) <;> first | rw [if_pos hc] at hx | rw [if_neg hc] at hx)
    | (split at hx <;> first | (cases hx; done) | (refine And.intro (by assumption) ?_))
    | (cases hx; rfl)
    | (cases hx; simp only [enr41, cdec_eq, cdec_beq, Bool.and_true])
theorem om41 {W : World} (hW : GoodW W) : OwnAll Tryz.prog W 6 41 con41.own :=
  con_opt enc41 (Laying.empty hW.size) hW.size (by decide) dt_mixed (OwnsAll.con (om48 hW) (OwnsAll.con (om75 hW) (ownsAll_nil W 6))) Tryz.func41 (fn := Tryz.f41) (c := bodyOf Tryz.f41) (by kernel_rfl) (by kernel_rfl) (fun _ _ h => dec41_enc h) (fun a => ⟨rfl, (by kernel_rfl)⟩) (fun b => rfl) w41
end Go.Proofs.YtfnacgojmdbjmaaGreatDoor
namespace Go.Proofs.YtfnacgojmdbjmaaGreatDoor.PRD
open Go.Det Go.RowKit Go.Proofs.YtfnacgojmdbjmaaGreatDoor Go.Proofs.YtfnacgojmdbjmaaGreatDoorW.PrintWords
theorem gleberef1_Has.calls (a0_0 : Int) (a0_1 : Int) (a0_2 : Int) (a0_3 : Int) (a1_0 : Int) (a1_1 : Int) (a1_2 : Int) (r : Bool) (w : World) (hG : GoodW w) (h : gleberef1_Has.f a0_0 a0_1 a0_2 a0_3 a1_0 a1_1 a1_2 = some r) :
    Calls Tryz.prog 27 #[.agg #[.int .i64 a0_0, .int .u64 a0_1, .int .u64 a0_2, .int .i64 a0_3], .agg #[.int .i64 a1_0, .int .u64 a1_1, .int .u64 a1_2]] w fun e w' => e = .returned (.bool r) ∧ Below w.heap.size w w' :=
  calls_of_own (fn := Tryz.f27) (c := bodyOf Tryz.f27) (om27 hG) hG Tryz.func27 (by kernel_rfl) (by kernel_rfl) (args := enc27 (a0_0, a0_1, a0_2, a0_3, a1_0, a1_1, a1_2)) (v := .bool r) (opt_own (dec := dec27) (enc := enr27) (a := (a0_0, a0_1, a0_2, a0_3, a1_0, a1_1, a1_2)) (b := r) rfl h _) rfl rfl (by intro h; cases h)
theorem glebelaw4_Rang.calls (a0 : Int) (a1 : Int) (a2 : Int) (a3 : Int) (r1 : Int) (r2 : Int) (r3 : Int) (r4 : Int) (r5 : Int) (r6 : Int) (w : World) (hG : GoodW w) (h : glebelaw4_Rang.f a0 a1 a2 a3 = some (r1, r2, r3, r4, r5, r6)) :
    Calls Tryz.prog 36 #[.int .i64 a0, .int .u64 a1, .int .u64 a2, .int .u64 a3] w fun e w' => e = .returned (.agg #[.int .i64 r1, .int .u64 r2, .int .u64 r3, .int .i64 r4, .int .u64 r5, .int .u64 r6]) ∧ Below w.heap.size w w' :=
  calls_of_own (fn := Tryz.f36) (c := bodyOf Tryz.f36) (om36 hG) hG Tryz.func36 (by kernel_rfl) (by kernel_rfl) (args := enc36 (a0, a1, a2, a3)) (v := .agg #[.int .i64 r1, .int .u64 r2, .int .u64 r3, .int .i64 r4, .int .u64 r5, .int .u64 r6]) (opt_own (dec := dec36) (enc := enr36) (a := (a0, a1, a2, a3)) (b := (r1, r2, r3, r4, r5, r6)) rfl h _) rfl rfl (by intro h; cases h)
theorem gleberef1_Less.calls (a0_0 : Int) (a0_1 : Int) (a1_0 : Int) (a1_1 : Int) (r : Bool) (w : World) (hG : GoodW w) (h : gleberef1_Less.f a0_0 a0_1 a1_0 a1_1 = some r) :
    Calls Tryz.prog 38 #[.agg #[.int .u64 a0_0, .int .u64 a0_1], .agg #[.int .u64 a1_0, .int .u64 a1_1]] w fun e w' => e = .returned (.bool r) ∧ Below w.heap.size w w' :=
  calls_of_own (fn := Tryz.f38) (c := bodyOf Tryz.f38) (om38 hG) hG Tryz.func38 (by kernel_rfl) (by kernel_rfl) (args := enc38 (a0_0, a0_1, a1_0, a1_1)) (v := .bool r) (opt_own (dec := dec38) (enc := enr38) (a := (a0_0, a0_1, a1_0, a1_1)) (b := r) rfl h _) rfl rfl (by intro h; cases h)
theorem glebelaw4_RangOver_S1.calls (a0_0 : Int) (a0_1 : Int) (a0_2 : Int) (a0_3 : Int) (a0_4 : Int) (a0_5 : Int) (a1_0 : Int) (a1_1 : Int) (a1_2 : Int) (r : Bool) (w : World) (hG : GoodW w) (h : glebelaw4_RangOver_S1.f a0_0 a0_1 a0_2 a0_3 a0_4 a0_5 a1_0 a1_1 a1_2 = some r) :
    Calls Tryz.prog 37 #[.agg #[.int .i64 a0_0, .int .u64 a0_1, .int .u64 a0_2, .int .i64 a0_3, .int .u64 a0_4, .int .u64 a0_5], .agg #[.int .i64 a1_0, .int .u64 a1_1, .int .u64 a1_2]] w fun e w' => e = .returned (.bool r) ∧ Below w.heap.size w w' :=
  calls_of_own (fn := Tryz.f37) (c := bodyOf Tryz.f37) (om37 hG) hG Tryz.func37 (by kernel_rfl) (by kernel_rfl) (args := enc37 (a0_0, a0_1, a0_2, a0_3, a0_4, a0_5, a1_0, a1_1, a1_2)) (v := .bool r) (opt_own (dec := dec37) (enc := enr37) (a := (a0_0, a0_1, a0_2, a0_3, a0_4, a0_5, a1_0, a1_1, a1_2)) (b := r) rfl h _) rfl rfl (by intro h; cases h)
theorem rang_Over.calls (a0_0 : Int) (a0_1 : Int) (a0_2 : Int) (a0_3 : Int) (a0_4 : Int) (a0_5 : Int) (a1_0 : Int) (a1_1 : Int) (a1_2 : Int) (a1_3 : Int) (a1_4 : Int) (a1_5 : Int) (r : Bool) (w : World) (hG : GoodW w) (h : rang_Over.f a0_0 a0_1 a0_2 a0_3 a0_4 a0_5 a1_0 a1_1 a1_2 a1_3 a1_4 a1_5 = some r) :
    Calls Tryz.prog 39 #[.agg #[.int .i64 a0_0, .int .u64 a0_1, .int .u64 a0_2, .int .i64 a0_3, .int .u64 a0_4, .int .u64 a0_5], .agg #[.int .i64 a1_0, .int .u64 a1_1, .int .u64 a1_2, .int .i64 a1_3, .int .u64 a1_4, .int .u64 a1_5]] w fun e w' => e = .returned (.bool r) ∧ Below w.heap.size w w' :=
  calls_of_own (fn := Tryz.f39) (c := bodyOf Tryz.f39) (om39 hG) hG Tryz.func39 (by kernel_rfl) (by kernel_rfl) (args := enc39 (a0_0, a0_1, a0_2, a0_3, a0_4, a0_5, a1_0, a1_1, a1_2, a1_3, a1_4, a1_5)) (v := .bool r) (opt_own (dec := dec39) (enc := enr39) (a := (a0_0, a0_1, a0_2, a0_3, a0_4, a0_5, a1_0, a1_1, a1_2, a1_3, a1_4, a1_5)) (b := r) rfl h _) rfl rfl (by intro h; cases h)
theorem pref_Has.calls (a0_0 : Int) (a0_1 : Int) (a0_2 : Int) (a0_3 : Int) (a1_0 : Int) (a1_1 : Int) (a1_2 : Int) (r : Bool) (w : World) (hG : GoodW w) (h : pref_Has.f a0_0 a0_1 a0_2 a0_3 a1_0 a1_1 a1_2 = some r) :
    Calls Tryz.prog 26 #[.agg #[.int .i64 a0_0, .int .u64 a0_1, .int .u64 a0_2, .int .i64 a0_3], .agg #[.int .i64 a1_0, .int .u64 a1_1, .int .u64 a1_2]] w fun e w' => e = .returned (.bool r) ∧ Below w.heap.size w w' :=
  calls_of_own (fn := Tryz.f26) (c := bodyOf Tryz.f26) (om26 hG) hG Tryz.func26 (by kernel_rfl) (by kernel_rfl) (args := enc26 (a0_0, a0_1, a0_2, a0_3, a1_0, a1_1, a1_2)) (v := .bool r) (opt_own (dec := dec26) (enc := enr26) (a := (a0_0, a0_1, a0_2, a0_3, a1_0, a1_1, a1_2)) (b := r) rfl h _) rfl rfl (by intro h; cases h)
theorem rang_In.calls (a0_0 : Int) (a0_1 : Int) (a0_2 : Int) (a0_3 : Int) (a0_4 : Int) (a0_5 : Int) (a1_0 : Int) (a1_1 : Int) (a1_2 : Int) (a1_3 : Int) (r : Bool) (w : World) (hG : GoodW w) (h : rang_In.f a0_0 a0_1 a0_2 a0_3 a0_4 a0_5 a1_0 a1_1 a1_2 a1_3 = some r) :
    Calls Tryz.prog 40 #[.agg #[.int .i64 a0_0, .int .u64 a0_1, .int .u64 a0_2, .int .i64 a0_3, .int .u64 a0_4, .int .u64 a0_5], .agg #[.int .i64 a1_0, .int .u64 a1_1, .int .u64 a1_2, .int .i64 a1_3]] w fun e w' => e = .returned (.bool r) ∧ Below w.heap.size w w' :=
  calls_of_own (fn := Tryz.f40) (c := bodyOf Tryz.f40) (om40 hG) hG Tryz.func40 (by kernel_rfl) (by kernel_rfl) (args := enc40 (a0_0, a0_1, a0_2, a0_3, a0_4, a0_5, a1_0, a1_1, a1_2, a1_3)) (v := .bool r) (opt_own (dec := dec40) (enc := enr40) (a := (a0_0, a0_1, a0_2, a0_3, a0_4, a0_5, a1_0, a1_1, a1_2, a1_3)) (b := r) rfl h _) rfl rfl (by intro h; cases h)
theorem rang_Less.calls (a0_0 : Int) (a0_1 : Int) (a0_2 : Int) (a0_3 : Int) (a0_4 : Int) (a0_5 : Int) (a1_0 : Int) (a1_1 : Int) (a1_2 : Int) (a1_3 : Int) (a1_4 : Int) (a1_5 : Int) (r : Bool) (w : World) (hG : GoodW w) (h : rang_Less.f a0_0 a0_1 a0_2 a0_3 a0_4 a0_5 a1_0 a1_1 a1_2 a1_3 a1_4 a1_5 = some r) :
    Calls Tryz.prog 41 #[.agg #[.int .i64 a0_0, .int .u64 a0_1, .int .u64 a0_2, .int .i64 a0_3, .int .u64 a0_4, .int .u64 a0_5], .agg #[.int .i64 a1_0, .int .u64 a1_1, .int .u64 a1_2, .int .i64 a1_3, .int .u64 a1_4, .int .u64 a1_5]] w fun e w' => e = .returned (.bool r) ∧ Below w.heap.size w w' :=
  calls_of_own (fn := Tryz.f41) (c := bodyOf Tryz.f41) (om41 hG) hG Tryz.func41 (by kernel_rfl) (by kernel_rfl) (args := enc41 (a0_0, a0_1, a0_2, a0_3, a0_4, a0_5, a1_0, a1_1, a1_2, a1_3, a1_4, a1_5)) (v := .bool r) (opt_own (dec := dec41) (enc := enr41) (a := (a0_0, a0_1, a0_2, a0_3, a0_4, a0_5, a1_0, a1_1, a1_2, a1_3, a1_4, a1_5)) (b := r) rfl h _) rfl rfl (by intro h; cases h)
end Go.Proofs.YtfnacgojmdbjmaaGreatDoor.PRD
