/- The functions without loops come to what they are told to be. No conditions. -/
import Derived.Test.YtfnacgojmdbjmaaGreatDoorRo21
namespace Go.Proofs.YtfnacgojmdbjmaaGreatDoor
open Go.Det Go.RowKit Go.Proofs.YtfnacgojmdbjmaaGreatDoor.PRD Go.Proofs.YtfnacgojmdbjmaaGreatDoorW.PrintWords
set_option maxRecDepth 100000

theorem bifW_c {p : Prop} {A B : Prop} (h1 : p → A) (h2 : ¬ p → B) : bifW (cdec p) A B := bifW_intro (fun h => h1 (cdec_true.1 h)) (fun h => h2 (cdec_false.1 h))
theorem bifW_b {b : Bool} {A B : Prop} (h1 : b = true → A) (h2 : ¬ b = true → B) : bifW b A B := bifW_intro h1 (fun h => h2 (by rw [h]; decide))
theorem bifW_n {b : Bool} {A B : Prop} (h1 : b = true → B) (h2 : ¬ b = true → A) : bifW (!b) A B := by cases b; exact h2 (by decide); exact h1 rfl
theorem w45 (x : Int) (y : Int) (hx : gleberef1_Bits.f x = some y) : codeW Tryz.prog (cwC L45) (bodyOf Tryz.f45) (inTab (enc45 x) 8) (birth [] 64) (retW Tryz.prog Tryz.f45 fun v' _ => v' = enr45 y) := by
  refine (vc45 x _).mpr ?_
  unfold gleberef1_Bits.f at hx
  try simp only [wrapE, andI_eq, orI_eq]
  repeat' first
    | (obtain ⟨y, hy, hx⟩ := Option.bind_eq_some_iff.1 hx; refine ⟨y, hy, ?_⟩)
    | ((refine bifW_c (fun hc => ?_) (fun hc => ?_)) <;> first | rw [if_pos hc] at hx | rw [if_neg hc] at hx | rw [if_pos (Decidable.not_not.1 hc)] at hx)
    | ((refine bifW_n (fun hc => ?_) (fun hc => ?_)) <;> first | rw [if_pos hc] at hx | rw [if_neg hc] at hx)
    | ((refine bifW_b (fun hc => ?_) (fun hc => ?_)) <;> first | rw [if_pos hc] at hx | rw [if_neg hc] at hx)
    | (split at hx <;> first | (cases hx; done) | (refine And.intro (by assumption) ?_))
    | (cases hx; rfl)
    | (cases hx; simp only [enr45, cdec_eq, cdec_beq, Bool.and_true])
theorem om45 {W : World} (hW : GoodW W) : OwnAll Tryz.prog W 6 45 con45.own :=
  con_opt enc45 (Laying.empty hW.size) hW.size (by decide) dt_mixed (ownsAll_nil W 6) Tryz.func45 (fn := Tryz.f45) (c := bodyOf Tryz.f45) (by kernel_rfl) (by kernel_rfl) (fun _ _ h => dec45_enc h) (fun a => ⟨rfl, (by kernel_rfl)⟩) (fun b => rfl) w45
theorem w55 (x : Int × Int × Int × Int) (y : Int × Int) (hx : gleberef1_And.f x.1 x.2.1 x.2.2.1 x.2.2.2 = some y) : codeW Tryz.prog (cwC L55) (bodyOf Tryz.f55) (inTab (enc55 x) 8) (birth [] 64) (retW Tryz.prog Tryz.f55 fun v' _ => v' = enr55 y) := by
  obtain ⟨a, b, c, d⟩ := x
  refine (vc55 a b c d _).mpr ?_
  unfold gleberef1_And.f at hx
  try simp only [wrapE, andI_eq, orI_eq]
  repeat' first
    | (obtain ⟨y, hy, hx⟩ := Option.bind_eq_some_iff.1 hx; refine ⟨y, hy, ?_⟩)
    | ((refine bifW_c (fun hc => ?_) (fun hc => ?_)) <;> first | rw [if_pos hc] at hx | rw [if_neg hc] at hx | rw [if_pos (Decidable.not_not.1 hc)] at hx)
    | ((refine bifW_n (fun hc => ?_) (fun hc => ?_)) <;> first | rw [if_pos hc] at hx | rw [if_neg hc] at hx)
    | ((refine bifW_b (fun hc => ?_) (fun hc => ?_)) <;> first | rw [if_pos hc] at hx | rw [if_neg hc] at hx)
    | (split at hx <;> first | (cases hx; done) | (refine And.intro (by assumption) ?_))
    | (cases hx; rfl)
    | (cases hx; simp only [enr55, cdec_eq, cdec_beq, Bool.and_true])
theorem om55 {W : World} (hW : GoodW W) : OwnAll Tryz.prog W 6 55 con55.own :=
  con_opt enc55 (Laying.empty hW.size) hW.size (by decide) dt_mixed (ownsAll_nil W 6) Tryz.func55 (fn := Tryz.f55) (c := bodyOf Tryz.f55) (by kernel_rfl) (by kernel_rfl) (fun _ _ h => dec55_enc h) (fun a => ⟨rfl, (by kernel_rfl)⟩) (fun b => rfl) w55
theorem w57 (x : Int × Int) (y : Int × Int) (hx : gleberef1_Not.f x.1 x.2 = some y) : codeW Tryz.prog (cwC L57) (bodyOf Tryz.f57) (inTab (enc57 x) 8) (birth [] 64) (retW Tryz.prog Tryz.f57 fun v' _ => v' = enr57 y) := by
  obtain ⟨a, b⟩ := x
  refine (vc57 a b _).mpr ?_
  unfold gleberef1_Not.f at hx
  try simp only [wrapE, andI_eq, orI_eq]
  repeat' first
    | (obtain ⟨y, hy, hx⟩ := Option.bind_eq_some_iff.1 hx; refine ⟨y, hy, ?_⟩)
    | ((refine bifW_c (fun hc => ?_) (fun hc => ?_)) <;> first | rw [if_pos hc] at hx | rw [if_neg hc] at hx | rw [if_pos (Decidable.not_not.1 hc)] at hx)
    | ((refine bifW_n (fun hc => ?_) (fun hc => ?_)) <;> first | rw [if_pos hc] at hx | rw [if_neg hc] at hx)
    | ((refine bifW_b (fun hc => ?_) (fun hc => ?_)) <;> first | rw [if_pos hc] at hx | rw [if_neg hc] at hx)
    | (split at hx <;> first | (cases hx; done) | (refine And.intro (by assumption) ?_))
    | (cases hx; rfl)
    | (cases hx; simp only [enr57, cdec_eq, cdec_beq, Bool.and_true])
theorem om57 {W : World} (hW : GoodW W) : OwnAll Tryz.prog W 6 57 con57.own :=
  con_opt enc57 (Laying.empty hW.size) hW.size (by decide) dt_mixed (ownsAll_nil W 6) Tryz.func57 (fn := Tryz.f57) (c := bodyOf Tryz.f57) (by kernel_rfl) (by kernel_rfl) (fun _ _ h => dec57_enc h) (fun a => ⟨rfl, (by kernel_rfl)⟩) (fun b => rfl) w57
theorem w65 (x : Int × Int) (y : Int × Int) (hx : gleberef1_all.f x.1 x.2 = some y) : codeW Tryz.prog (cwC L65) (bodyOf Tryz.f65) (inTab (enc65 x) 8) (birth [] 64) (retW Tryz.prog Tryz.f65 fun v' _ => v' = enr65 y) := by
  obtain ⟨a, b⟩ := x
  refine (vc65 a b _).mpr ?_
  unfold gleberef1_all.f at hx
  try simp only [wrapE, andI_eq, orI_eq]
  repeat' first
    | (obtain ⟨y, hy, hx⟩ := Option.bind_eq_some_iff.1 hx; refine ⟨y, hy, ?_⟩)
    | ((refine bifW_c (fun hc => ?_) (fun hc => ?_)) <;> first | rw [if_pos hc] at hx | rw [if_neg hc] at hx | rw [if_pos (Decidable.not_not.1 hc)] at hx)
    | ((refine bifW_n (fun hc => ?_) (fun hc => ?_)) <;> first | rw [if_pos hc] at hx | rw [if_neg hc] at hx)
    | ((refine bifW_b (fun hc => ?_) (fun hc => ?_)) <;> first | rw [if_pos hc] at hx | rw [if_neg hc] at hx)
    | (split at hx <;> first | (cases hx; done) | (refine And.intro (by assumption) ?_))
    | (cases hx; rfl)
    | (cases hx; simp only [enr65, cdec_eq, cdec_beq, Bool.and_true])
theorem om65 {W : World} (hW : GoodW W) : OwnAll Tryz.prog W 6 65 con65.own :=
  con_opt enc65 (Laying.empty hW.size) hW.size (by decide) dt_mixed (OwnsAll.con (om45 hW) (OwnsAll.con (om56 hW) (OwnsAll.con (om57 hW) (OwnsAll.con (om55 hW) (ownsAll_nil W 6))))) Tryz.func65 (fn := Tryz.f65) (c := bodyOf Tryz.f65) (by kernel_rfl) (by kernel_rfl) (fun _ _ h => dec65_enc h) (fun a => ⟨rfl, (by kernel_rfl)⟩) (fun b => rfl) w65
theorem w44 (x : Int × Int × Int) (y : Bool) (hx : gleberef1_Ok.f x.1 x.2.1 x.2.2 = some y) : codeW Tryz.prog (cwC L44) (bodyOf Tryz.f44) (inTab (enc44 x) 8) (birth [] 64) (retW Tryz.prog Tryz.f44 fun v' _ => v' = enr44 y) := by
  obtain ⟨a, b, c⟩ := x
  refine (vc44 a b c _).mpr ?_
  unfold gleberef1_Ok.f at hx
  try simp only [wrapE, andI_eq, orI_eq]
  repeat' first
    | (obtain ⟨y, hy, hx⟩ := Option.bind_eq_some_iff.1 hx; refine ⟨y, hy, ?_⟩)
    | ((refine bifW_c (fun hc => ?_) (fun hc => ?_)) <;> first | rw [if_pos hc] at hx | rw [if_neg hc] at hx | rw [if_pos (Decidable.not_not.1 hc)] at hx)
    | ((refine bifW_n (fun hc => ?_) (fun hc => ?_)) <;> first | rw [if_pos hc] at hx | rw [if_neg hc] at hx)
    | ((refine bifW_b (fun hc => ?_) (fun hc => ?_)) <;> first | rw [if_pos hc] at hx | rw [if_neg hc] at hx)
    | (split at hx <;> first | (cases hx; done) | (refine And.intro (by assumption) ?_))
    | (cases hx; rfl)
    | (cases hx; simp only [enr44, cdec_eq, cdec_beq, Bool.and_true])
theorem om44 {W : World} (hW : GoodW W) : OwnAll Tryz.prog W 6 44 con44.own :=
  con_opt enc44 (Laying.empty hW.size) hW.size (by decide) dt_mixed (ownsAll_nil W 6) Tryz.func44 (fn := Tryz.f44) (c := bodyOf Tryz.f44) (by kernel_rfl) (by kernel_rfl) (fun _ _ h => dec44_enc h) (fun a => ⟨rfl, (by kernel_rfl)⟩) (fun b => rfl) w44
theorem w16 (x : Int × Int × Int × Int) (y : Bool) (hx : gleberef1_OkPrefix.f x.1 x.2.1 x.2.2.1 x.2.2.2 = some y) : codeW Tryz.prog (cwC L16) (bodyOf Tryz.f16) (inTab (enc16 x) 8) (birth [] 64) (retW Tryz.prog Tryz.f16 fun v' _ => v' = enr16 y) := by
  obtain ⟨a, b, c, d⟩ := x
  refine (vc16 a b c d _).mpr ?_
  unfold gleberef1_OkPrefix.f at hx
  try simp only [wrapE, andI_eq, orI_eq]
  repeat' first
    | (obtain ⟨y, hy, hx⟩ := Option.bind_eq_some_iff.1 hx; refine ⟨y, hy, ?_⟩)
    | ((refine bifW_c (fun hc => ?_) (fun hc => ?_)) <;> first | rw [if_pos hc] at hx | rw [if_neg hc] at hx | rw [if_pos (Decidable.not_not.1 hc)] at hx)
    | ((refine bifW_n (fun hc => ?_) (fun hc => ?_)) <;> first | rw [if_pos hc] at hx | rw [if_neg hc] at hx)
    | ((refine bifW_b (fun hc => ?_) (fun hc => ?_)) <;> first | rw [if_pos hc] at hx | rw [if_neg hc] at hx)
    | (split at hx <;> first | (cases hx; done) | (refine And.intro (by assumption) ?_))
    | (cases hx; rfl)
    | (cases hx; simp only [enr16, cdec_eq, cdec_beq, Bool.and_true])
theorem om16 {W : World} (hW : GoodW W) : OwnAll Tryz.prog W 6 16 con16.own :=
  con_opt enc16 (Laying.empty hW.size) hW.size (by decide) dt_mixed (OwnsAll.con (om44 hW) (OwnsAll.con (om45 hW) (OwnsAll.con (om65 hW) (OwnsAll.con (om55 hW) (ownsAll_nil W 6))))) Tryz.func16 (fn := Tryz.f16) (c := bodyOf Tryz.f16) (by kernel_rfl) (by kernel_rfl) (fun _ _ h => dec16_enc h) (fun a => ⟨rfl, (by kernel_rfl)⟩) (fun b => rfl) w16
theorem w25 (x : Int × Int × Int × Int) (y : Int × Int × Int) (hx : gleberef1_Last.f x.1 x.2.1 x.2.2.1 x.2.2.2 = some y) : codeW Tryz.prog (cwC L25) (bodyOf Tryz.f25) (inTab (enc25 x) 8) (birth [] 64) (retW Tryz.prog Tryz.f25 fun v' _ => v' = enr25 y) := by
  obtain ⟨a, b, c, d⟩ := x
  refine (vc25 a b c d _).mpr ?_
  unfold gleberef1_Last.f at hx
  try simp only [wrapE, andI_eq, orI_eq]
  repeat' first
    | (obtain ⟨y, hy, hx⟩ := Option.bind_eq_some_iff.1 hx; refine ⟨y, hy, ?_⟩)
    | ((refine bifW_c (fun hc => ?_) (fun hc => ?_)) <;> first | rw [if_pos hc] at hx | rw [if_neg hc] at hx | rw [if_pos (Decidable.not_not.1 hc)] at hx)
    | ((refine bifW_n (fun hc => ?_) (fun hc => ?_)) <;> first | rw [if_pos hc] at hx | rw [if_neg hc] at hx)
    | ((refine bifW_b (fun hc => ?_) (fun hc => ?_)) <;> first | rw [if_pos hc] at hx | rw [if_neg hc] at hx)
    | (split at hx <;> first | (cases hx; done) | (refine And.intro (by assumption) ?_))
    | (cases hx; rfl)
    | (cases hx; simp only [enr25, cdec_eq, cdec_beq, Bool.and_true])
theorem om25 {W : World} (hW : GoodW W) : OwnAll Tryz.prog W 6 25 con25.own :=
  con_opt enc25 (Laying.empty hW.size) hW.size (by decide) dt_mixed (OwnsAll.con (om16 hW) (OwnsAll.con (om65 hW) (OwnsAll.con (om57 hW) (OwnsAll.con (om45 hW) (OwnsAll.con (om56 hW) (OwnsAll.con (om55 hW) (ownsAll_nil W 6))))))) Tryz.func25 (fn := Tryz.f25) (c := bodyOf Tryz.f25) (by kernel_rfl) (by kernel_rfl) (fun _ _ h => dec25_enc h) (fun a => ⟨rfl, (by kernel_rfl)⟩) (fun b => rfl) w25
theorem w43 (x : Int × Int × Int × Int) (y : Int × Int × Bool) (hx : gleberef1_Add.f x.1 x.2.1 x.2.2.1 x.2.2.2 = some y) : codeW Tryz.prog (cwC L43) (bodyOf Tryz.f43) (inTab (enc43 x) 8) (birth [] 64) (retW Tryz.prog Tryz.f43 fun v' _ => v' = enr43 y) := by
  obtain ⟨a, b, c, d⟩ := x
  refine (vc43 a b c d _).mpr ?_
  unfold gleberef1_Add.f at hx
  try simp only [wrapE, andI_eq, orI_eq]
  repeat' first
    | (obtain ⟨y, hy, hx⟩ := Option.bind_eq_some_iff.1 hx; refine ⟨y, hy, ?_⟩)
    | ((refine bifW_c (fun hc => ?_) (fun hc => ?_)) <;> first | rw [if_pos hc] at hx | rw [if_neg hc] at hx | rw [if_pos (Decidable.not_not.1 hc)] at hx)
    | ((refine bifW_n (fun hc => ?_) (fun hc => ?_)) <;> first | rw [if_pos hc] at hx | rw [if_neg hc] at hx)
    | ((refine bifW_b (fun hc => ?_) (fun hc => ?_)) <;> first | rw [if_pos hc] at hx | rw [if_neg hc] at hx)
    | (split at hx <;> first | (cases hx; done) | (refine And.intro (by assumption) ?_))
    | (cases hx; rfl)
    | (cases hx; simp only [enr43, cdec_eq, cdec_beq, Bool.and_true])
theorem om43 {W : World} (hW : GoodW W) : OwnAll Tryz.prog W 6 43 con43.own :=
  con_opt enc43 (Laying.empty hW.size) hW.size (by decide) dt_mixed (ownsAll_nil W 6) Tryz.func43 (fn := Tryz.f43) (c := bodyOf Tryz.f43) (by kernel_rfl) (by kernel_rfl) (fun _ _ h => dec43_enc h) (fun a => ⟨rfl, (by kernel_rfl)⟩) (fun b => rfl) w43
theorem w10 (x : Int × Int × Int × Int) (y : Int × Int × Int × Int) (hx : glebelaw3_Pre.f x.1 x.2.1 x.2.2.1 x.2.2.2 = some y) : codeW Tryz.prog (cwC L10) (bodyOf Tryz.f10) (inTab (enc10 x) 8) (birth [] 64) (retW Tryz.prog Tryz.f10 fun v' _ => v' = enr10 y) := by
  obtain ⟨a, b, c, d⟩ := x
  refine (vc10 a b c d _).mpr ?_
  unfold glebelaw3_Pre.f at hx
  try simp only [wrapE, andI_eq, orI_eq]
  repeat' first
    | (obtain ⟨y, hy, hx⟩ := Option.bind_eq_some_iff.1 hx; refine ⟨y, hy, ?_⟩)
    | ((refine bifW_c (fun hc => ?_) (fun hc => ?_)) <;> first | rw [if_pos hc] at hx | rw [if_neg hc] at hx | rw [if_pos (Decidable.not_not.1 hc)] at hx)
    | ((refine bifW_n (fun hc => ?_) (fun hc => ?_)) <;> first | rw [if_pos hc] at hx | rw [if_neg hc] at hx)
    | ((refine bifW_b (fun hc => ?_) (fun hc => ?_)) <;> first | rw [if_pos hc] at hx | rw [if_neg hc] at hx)
    | (split at hx <;> first | (cases hx; done) | (refine And.intro (by assumption) ?_))
    | (cases hx; rfl)
    | (cases hx; simp only [enr10, cdec_eq, cdec_beq, Bool.and_true])
theorem om10 {W : World} (hW : GoodW W) : OwnAll Tryz.prog W 6 10 con10.own :=
  con_opt enc10 (Laying.empty hW.size) hW.size (by decide) dt_mixed (OwnsAll.con (om42 hW) (OwnsAll.con (om45 hW) (OwnsAll.con (om56 hW) (OwnsAll.con (om57 hW) (OwnsAll.con (om55 hW) (ownsAll_nil W 6)))))) Tryz.func10 (fn := Tryz.f10) (c := bodyOf Tryz.f10) (by kernel_rfl) (by kernel_rfl) (fun _ _ h => dec10_enc h) (fun a => ⟨rfl, (by kernel_rfl)⟩) (fun b => rfl) w10
theorem w66 (x : Int × Int × Int × Int) (y : Int × Int) (hx : quad_And.f x.1 x.2.1 x.2.2.1 x.2.2.2 = some y) : codeW Tryz.prog (cwC L66) (bodyOf Tryz.f66) (inTab (enc66 x) 8) (birth [] 64) (retW Tryz.prog Tryz.f66 fun v' _ => v' = enr66 y) := by
  obtain ⟨a, b, c, d⟩ := x
  refine (vc66 a b c d _).mpr ?_
  unfold quad_And.f at hx
  try simp only [wrapE, andI_eq, orI_eq]
  repeat' first
    | (obtain ⟨y, hy, hx⟩ := Option.bind_eq_some_iff.1 hx; refine ⟨y, hy, ?_⟩)
    | ((refine bifW_c (fun hc => ?_) (fun hc => ?_)) <;> first | rw [if_pos hc] at hx | rw [if_neg hc] at hx | rw [if_pos (Decidable.not_not.1 hc)] at hx)
    | ((refine bifW_n (fun hc => ?_) (fun hc => ?_)) <;> first | rw [if_pos hc] at hx | rw [if_neg hc] at hx)
    | ((refine bifW_b (fun hc => ?_) (fun hc => ?_)) <;> first | rw [if_pos hc] at hx | rw [if_neg hc] at hx)
    | (split at hx <;> first | (cases hx; done) | (refine And.intro (by assumption) ?_))
    | (cases hx; rfl)
    | (cases hx; simp only [enr66, cdec_eq, cdec_beq, Bool.and_true])
theorem om66 {W : World} (hW : GoodW W) : OwnAll Tryz.prog W 6 66 con66.own :=
  con_opt enc66 (Laying.empty hW.size) hW.size (by decide) dt_mixed (ownsAll_nil W 6) Tryz.func66 (fn := Tryz.f66) (c := bodyOf Tryz.f66) (by kernel_rfl) (by kernel_rfl) (fun _ _ h => dec66_enc h) (fun a => ⟨rfl, (by kernel_rfl)⟩) (fun b => rfl) w66
theorem w74 (x : Int × Int × Int × Int) (y : Int × Int) (hx : quad_Or.f x.1 x.2.1 x.2.2.1 x.2.2.2 = some y) : codeW Tryz.prog (cwC L74) (bodyOf Tryz.f74) (inTab (enc74 x) 8) (birth [] 64) (retW Tryz.prog Tryz.f74 fun v' _ => v' = enr74 y) := by
  obtain ⟨a, b, c, d⟩ := x
  refine (vc74 a b c d _).mpr ?_
  unfold quad_Or.f at hx
  try simp only [wrapE, andI_eq, orI_eq]
  repeat' first
    | (obtain ⟨y, hy, hx⟩ := Option.bind_eq_some_iff.1 hx; refine ⟨y, hy, ?_⟩)
    | ((refine bifW_c (fun hc => ?_) (fun hc => ?_)) <;> first | rw [if_pos hc] at hx | rw [if_neg hc] at hx | rw [if_pos (Decidable.not_not.1 hc)] at hx)
    | ((refine bifW_n (fun hc => ?_) (fun hc => ?_)) <;> first | rw [if_pos hc] at hx | rw [if_neg hc] at hx)
    | ((refine bifW_b (fun hc => ?_) (fun hc => ?_)) <;> first | rw [if_pos hc] at hx | rw [if_neg hc] at hx)
    | (split at hx <;> first | (cases hx; done) | (refine And.intro (by assumption) ?_))
    | (cases hx; rfl)
    | (cases hx; simp only [enr74, cdec_eq, cdec_beq, Bool.and_true])
theorem om74 {W : World} (hW : GoodW W) : OwnAll Tryz.prog W 6 74 con74.own :=
  con_opt enc74 (Laying.empty hW.size) hW.size (by decide) dt_mixed (ownsAll_nil W 6) Tryz.func74 (fn := Tryz.f74) (c := bodyOf Tryz.f74) (by kernel_rfl) (by kernel_rfl) (fun _ _ h => dec74_enc h) (fun a => ⟨rfl, (by kernel_rfl)⟩) (fun b => rfl) w74
theorem w72 (x : Int × Int) (y : Int × Int) (hx : quad_Not.f x.1 x.2 = some y) : codeW Tryz.prog (cwC L72) (bodyOf Tryz.f72) (inTab (enc72 x) 8) (birth [] 64) (retW Tryz.prog Tryz.f72 fun v' _ => v' = enr72 y) := by
  obtain ⟨a, b⟩ := x
  refine (vc72 a b _).mpr ?_
  unfold quad_Not.f at hx
  try simp only [wrapE, andI_eq, orI_eq]
  repeat' first
    | (obtain ⟨y, hy, hx⟩ := Option.bind_eq_some_iff.1 hx; refine ⟨y, hy, ?_⟩)
    | ((refine bifW_c (fun hc => ?_) (fun hc => ?_)) <;> first | rw [if_pos hc] at hx | rw [if_neg hc] at hx | rw [if_pos (Decidable.not_not.1 hc)] at hx)
    | ((refine bifW_n (fun hc => ?_) (fun hc => ?_)) <;> first | rw [if_pos hc] at hx | rw [if_neg hc] at hx)
    | ((refine bifW_b (fun hc => ?_) (fun hc => ?_)) <;> first | rw [if_pos hc] at hx | rw [if_neg hc] at hx)
    | (split at hx <;> first | (cases hx; done) | (refine And.intro (by assumption) ?_))
    | (cases hx; rfl)
    | (cases hx; simp only [enr72, cdec_eq, cdec_beq, Bool.and_true])
theorem om72 {W : World} (hW : GoodW W) : OwnAll Tryz.prog W 6 72 con72.own :=
  con_opt enc72 (Laying.empty hW.size) hW.size (by decide) dt_mixed (ownsAll_nil W 6) Tryz.func72 (fn := Tryz.f72) (c := bodyOf Tryz.f72) (by kernel_rfl) (by kernel_rfl) (fun _ _ h => dec72_enc h) (fun a => ⟨rfl, (by kernel_rfl)⟩) (fun b => rfl) w72
theorem w69 (x : Int) (y : Int) (hx : addr_Bits.f x = some y) : codeW Tryz.prog (cwC L69) (bodyOf Tryz.f69) (inTab (enc69 x) 8) (birth [] 64) (retW Tryz.prog Tryz.f69 fun v' _ => v' = enr69 y) := by
  refine (vc69 x _).mpr ?_
  unfold addr_Bits.f at hx
  try simp only [wrapE, andI_eq, orI_eq]
  repeat' first
    | (obtain ⟨y, hy, hx⟩ := Option.bind_eq_some_iff.1 hx; refine ⟨y, hy, ?_⟩)
    | ((refine bifW_c (fun hc => ?_) (fun hc => ?_)) <;> first | rw [if_pos hc] at hx | rw [if_neg hc] at hx | rw [if_pos (Decidable.not_not.1 hc)] at hx)
    | ((refine bifW_n (fun hc => ?_) (fun hc => ?_)) <;> first | rw [if_pos hc] at hx | rw [if_neg hc] at hx)
    | ((refine bifW_b (fun hc => ?_) (fun hc => ?_)) <;> first | rw [if_pos hc] at hx | rw [if_neg hc] at hx)
    | (split at hx <;> first | (cases hx; done) | (refine And.intro (by assumption) ?_))
    | (cases hx; rfl)
    | (cases hx; simp only [enr69, cdec_eq, cdec_beq, Bool.and_true])
theorem om69 {W : World} (hW : GoodW W) : OwnAll Tryz.prog W 6 69 con69.own :=
  con_opt enc69 (Laying.empty hW.size) hW.size (by decide) dt_mixed (ownsAll_nil W 6) Tryz.func69 (fn := Tryz.f69) (c := bodyOf Tryz.f69) (by kernel_rfl) (by kernel_rfl) (fun _ _ h => dec69_enc h) (fun a => ⟨rfl, (by kernel_rfl)⟩) (fun b => rfl) w69
theorem w73 (x : Int) (y : Int × Int) (hx : quad_Mask.f x = some y) : codeW Tryz.prog (cwC L73) (bodyOf Tryz.f73) (inTab (enc73 x) 8) (birth [] 64) (retW Tryz.prog Tryz.f73 fun v' _ => v' = enr73 y) := by
  refine (vc73 x _).mpr ?_
  unfold quad_Mask.f at hx
  try simp only [wrapE, andI_eq, orI_eq]
  repeat' first
    | (obtain ⟨y, hy, hx⟩ := Option.bind_eq_some_iff.1 hx; refine ⟨y, hy, ?_⟩)
    | ((refine bifW_c (fun hc => ?_) (fun hc => ?_)) <;> first | rw [if_pos hc] at hx | rw [if_neg hc] at hx | rw [if_pos (Decidable.not_not.1 hc)] at hx)
    | ((refine bifW_n (fun hc => ?_) (fun hc => ?_)) <;> first | rw [if_pos hc] at hx | rw [if_neg hc] at hx)
    | ((refine bifW_b (fun hc => ?_) (fun hc => ?_)) <;> first | rw [if_pos hc] at hx | rw [if_neg hc] at hx)
    | (split at hx <;> first | (cases hx; done) | (refine And.intro (by assumption) ?_))
    | (cases hx; rfl)
    | (cases hx; simp only [enr73, cdec_eq, cdec_beq, Bool.and_true])
theorem om73 {W : World} (hW : GoodW W) : OwnAll Tryz.prog W 6 73 con73.own :=
  con_opt enc73 (Laying.empty hW.size) hW.size (by decide) dt_mixed (OwnsAll.con (om95 hW) (ownsAll_nil W 6)) Tryz.func73 (fn := Tryz.f73) (c := bodyOf Tryz.f73) (by kernel_rfl) (by kernel_rfl) (fun _ _ h => dec73_enc h) (fun a => ⟨rfl, (by kernel_rfl)⟩) (fun b => rfl) w73
theorem w67 (x : Int × Int) (y : Int × Int) (hx : pref_mask.f x.1 x.2 = some y) : codeW Tryz.prog (cwC L67) (bodyOf Tryz.f67) (inTab (enc67 x) 8) (birth [] 64) (retW Tryz.prog Tryz.f67 fun v' _ => v' = enr67 y) := by
  obtain ⟨a, b⟩ := x
  refine (vc67 a b _).mpr ?_
  unfold pref_mask.f at hx
  try simp only [wrapE, andI_eq, orI_eq]
  repeat' first
    | (obtain ⟨y, hy, hx⟩ := Option.bind_eq_some_iff.1 hx; refine ⟨y, hy, ?_⟩)
    | ((refine bifW_c (fun hc => ?_) (fun hc => ?_)) <;> first | rw [if_pos hc] at hx | rw [if_neg hc] at hx | rw [if_pos (Decidable.not_not.1 hc)] at hx)
    | ((refine bifW_n (fun hc => ?_) (fun hc => ?_)) <;> first | rw [if_pos hc] at hx | rw [if_neg hc] at hx)
    | ((refine bifW_b (fun hc => ?_) (fun hc => ?_)) <;> first | rw [if_pos hc] at hx | rw [if_neg hc] at hx)
    | (split at hx <;> first | (cases hx; done) | (refine And.intro (by assumption) ?_))
    | (cases hx; rfl)
    | (cases hx; simp only [enr67, cdec_eq, cdec_beq, Bool.and_true])
theorem om67 {W : World} (hW : GoodW W) : OwnAll Tryz.prog W 6 67 con67.own :=
  con_opt enc67 (Laying.empty hW.size) hW.size (by decide) dt_mixed (OwnsAll.con (om69 hW) (OwnsAll.con (om73 hW) (ownsAll_nil W 6))) Tryz.func67 (fn := Tryz.f67) (c := bodyOf Tryz.f67) (by kernel_rfl) (by kernel_rfl) (fun _ _ h => dec67_enc h) (fun a => ⟨rfl, (by kernel_rfl)⟩) (fun b => rfl) w67
theorem w68 (x : Int × Int × Int) (y : Bool) (hx : addr_Ok.f x.1 x.2.1 x.2.2 = some y) : codeW Tryz.prog (cwC L68) (bodyOf Tryz.f68) (inTab (enc68 x) 8) (birth [] 64) (retW Tryz.prog Tryz.f68 fun v' _ => v' = enr68 y) := by
  obtain ⟨a, b, c⟩ := x
  refine (vc68 a b c _).mpr ?_
  unfold addr_Ok.f at hx
  try simp only [wrapE, andI_eq, orI_eq]
  repeat' first
    | (obtain ⟨y, hy, hx⟩ := Option.bind_eq_some_iff.1 hx; refine ⟨y, hy, ?_⟩)
    | ((refine bifW_c (fun hc => ?_) (fun hc => ?_)) <;> first | rw [if_pos hc] at hx | rw [if_neg hc] at hx | rw [if_pos (Decidable.not_not.1 hc)] at hx)
    | ((refine bifW_n (fun hc => ?_) (fun hc => ?_)) <;> first | rw [if_pos hc] at hx | rw [if_neg hc] at hx)
    | ((refine bifW_b (fun hc => ?_) (fun hc => ?_)) <;> first | rw [if_pos hc] at hx | rw [if_neg hc] at hx)
    | (split at hx <;> first | (cases hx; done) | (refine And.intro (by assumption) ?_))
    | (cases hx; rfl)
    | (cases hx; simp only [enr68, cdec_eq, cdec_beq, Bool.and_true])
theorem om68 {W : World} (hW : GoodW W) : OwnAll Tryz.prog W 6 68 con68.own :=
  con_opt enc68 (Laying.empty hW.size) hW.size (by decide) dt_mixed (ownsAll_nil W 6) Tryz.func68 (fn := Tryz.f68) (c := bodyOf Tryz.f68) (by kernel_rfl) (by kernel_rfl) (fun _ _ h => dec68_enc h) (fun a => ⟨rfl, (by kernel_rfl)⟩) (fun b => rfl) w68
theorem w22 (x : Int × Int × Int × Int) (y : Bool) (hx : pref_Ok.f x.1 x.2.1 x.2.2.1 x.2.2.2 = some y) : codeW Tryz.prog (cwC L22) (bodyOf Tryz.f22) (inTab (enc22 x) 8) (birth [] 64) (retW Tryz.prog Tryz.f22 fun v' _ => v' = enr22 y) := by
  obtain ⟨a, b, c, d⟩ := x
  refine (vc22 a b c d _).mpr ?_
  unfold pref_Ok.f at hx
  try simp only [wrapE, andI_eq, orI_eq]
  repeat' first
    | (obtain ⟨y, hy, hx⟩ := Option.bind_eq_some_iff.1 hx; refine ⟨y, hy, ?_⟩)
    | ((refine bifW_c (fun hc => ?_) (fun hc => ?_)) <;> first | rw [if_pos hc] at hx | rw [if_neg hc] at hx | rw [if_pos (Decidable.not_not.1 hc)] at hx)
    | ((refine bifW_n (fun hc => ?_) (fun hc => ?_)) <;> first | rw [if_pos hc] at hx | rw [if_neg hc] at hx)
    | ((refine bifW_b (fun hc => ?_) (fun hc => ?_)) <;> first | rw [if_pos hc] at hx | rw [if_neg hc] at hx)
    | (split at hx <;> first | (cases hx; done) | (refine And.intro (by assumption) ?_))
    | (cases hx; rfl)
    | (cases hx; simp only [enr22, cdec_eq, cdec_beq, Bool.and_true])
theorem om22 {W : World} (hW : GoodW W) : OwnAll Tryz.prog W 6 22 con22.own :=
  con_opt enc22 (Laying.empty hW.size) hW.size (by decide) dt_mixed (OwnsAll.con (om68 hW) (OwnsAll.con (om69 hW) (OwnsAll.con (om67 hW) (OwnsAll.con (om72 hW) (OwnsAll.con (om66 hW) (ownsAll_nil W 6)))))) Tryz.func22 (fn := Tryz.f22) (c := bodyOf Tryz.f22) (by kernel_rfl) (by kernel_rfl) (fun _ _ h => dec22_enc h) (fun a => ⟨rfl, (by kernel_rfl)⟩) (fun b => rfl) w22
theorem w24 (x : Int × Int × Int × Int) (y : Int × Int × Int) (hx : pref_Last.f x.1 x.2.1 x.2.2.1 x.2.2.2 = some y) : codeW Tryz.prog (cwC L24) (bodyOf Tryz.f24) (inTab (enc24 x) 8) (birth [] 64) (retW Tryz.prog Tryz.f24 fun v' _ => v' = enr24 y) := by
  obtain ⟨a, b, c, d⟩ := x
  refine (vc24 a b c d _).mpr ?_
  unfold pref_Last.f at hx
  try simp only [wrapE, andI_eq, orI_eq]
  repeat' first
    | (obtain ⟨y, hy, hx⟩ := Option.bind_eq_some_iff.1 hx; refine ⟨y, hy, ?_⟩)
    | ((refine bifW_c (fun hc => ?_) (fun hc => ?_)) <;> first | rw [if_pos hc] at hx | rw [if_neg hc] at hx | rw [if_pos (Decidable.not_not.1 hc)] at hx)
    | ((refine bifW_n (fun hc => ?_) (fun hc => ?_)) <;> first | rw [if_pos hc] at hx | rw [if_neg hc] at hx)
    | ((refine bifW_b (fun hc => ?_) (fun hc => ?_)) <;> first | rw [if_pos hc] at hx | rw [if_neg hc] at hx)
    | (split at hx <;> first | (cases hx; done) | (refine And.intro (by assumption) ?_))
    | (cases hx; rfl)
    | (cases hx; simp only [enr24, cdec_eq, cdec_beq, Bool.and_true])
theorem om24 {W : World} (hW : GoodW W) : OwnAll Tryz.prog W 6 24 con24.own :=
  con_opt enc24 (Laying.empty hW.size) hW.size (by decide) dt_mixed (OwnsAll.con (om22 hW) (OwnsAll.con (om69 hW) (OwnsAll.con (om73 hW) (OwnsAll.con (om67 hW) (OwnsAll.con (om72 hW) (OwnsAll.con (om66 hW) (OwnsAll.con (om74 hW) (ownsAll_nil W 6)))))))) Tryz.func24 (fn := Tryz.f24) (c := bodyOf Tryz.f24) (by kernel_rfl) (by kernel_rfl) (fun _ _ h => dec24_enc h) (fun a => ⟨rfl, (by kernel_rfl)⟩) (fun b => rfl) w24
theorem w96 (x : Int × Int × Int × Int) (y : Bool) (hx : quad_Less.f x.1 x.2.1 x.2.2.1 x.2.2.2 = some y) : codeW Tryz.prog (cwC L96) (bodyOf Tryz.f96) (inTab (enc96 x) 8) (birth [] 64) (retW Tryz.prog Tryz.f96 fun v' _ => v' = enr96 y) := by
  obtain ⟨a, b, c, d⟩ := x
  refine (vc96 a b c d _).mpr ?_
  unfold quad_Less.f at hx
  try simp only [wrapE, andI_eq, orI_eq]
  repeat' first
    | (obtain ⟨y, hy, hx⟩ := Option.bind_eq_some_iff.1 hx; refine ⟨y, hy, ?_⟩)
    | ((refine bifW_c (fun hc => ?_) (fun hc => ?_)) <;> first | rw [if_pos hc] at hx | rw [if_neg hc] at hx | rw [if_pos (Decidable.not_not.1 hc)] at hx)
    | ((refine bifW_n (fun hc => ?_) (fun hc => ?_)) <;> first | rw [if_pos hc] at hx | rw [if_neg hc] at hx)
    | ((refine bifW_b (fun hc => ?_) (fun hc => ?_)) <;> first | rw [if_pos hc] at hx | rw [if_neg hc] at hx)
    | (split at hx <;> first | (cases hx; done) | (refine And.intro (by assumption) ?_))
    | (cases hx; rfl)
    | (cases hx; simp only [enr96, cdec_eq, cdec_beq, Bool.and_true])
theorem om96 {W : World} (hW : GoodW W) : OwnAll Tryz.prog W 6 96 con96.own :=
  con_opt enc96 (Laying.empty hW.size) hW.size (by decide) dt_mixed (ownsAll_nil W 6) Tryz.func96 (fn := Tryz.f96) (c := bodyOf Tryz.f96) (by kernel_rfl) (by kernel_rfl) (fun _ _ h => dec96_enc h) (fun a => ⟨rfl, (by kernel_rfl)⟩) (fun b => rfl) w96
theorem w75 (x : Int × Int × Int × Int × Int × Int) (y : Bool) (hx : addr_Less.f x.1 x.2.1 x.2.2.1 x.2.2.2.1 x.2.2.2.2.1 x.2.2.2.2.2 = some y) : codeW Tryz.prog (cwC L75) (bodyOf Tryz.f75) (inTab (enc75 x) 8) (birth [] 64) (retW Tryz.prog Tryz.f75 fun v' _ => v' = enr75 y) := by
  obtain ⟨a, b, c, d, e, f⟩ := x
  refine (vc75 a b c d e f _).mpr ?_
  unfold addr_Less.f at hx
  try simp only [wrapE, andI_eq, orI_eq]
  repeat' first
    | (obtain ⟨y, hy, hx⟩ := Option.bind_eq_some_iff.1 hx; refine ⟨y, hy, ?_⟩)
    | ((refine bifW_c (fun hc => ?_) (fun hc => ?_)) <;> first | rw [if_pos hc] at hx | rw [if_neg hc] at hx | rw [if_pos (Decidable.not_not.1 hc)] at hx)
    | ((refine bifW_n (fun hc => ?_) (fun hc => ?_)) <;> first | rw [if_pos hc] at hx | rw [if_neg hc] at hx)
    | ((refine bifW_b (fun hc => ?_) (fun hc => ?_)) <;> first | rw [if_pos hc] at hx | rw [if_neg hc] at hx)
    | (split at hx <;> first | (cases hx; done) | (refine And.intro (by assumption) ?_))
    | (cases hx; rfl)
    | (cases hx; simp only [enr75, cdec_eq, cdec_beq, Bool.and_true])
theorem om75 {W : World} (hW : GoodW W) : OwnAll Tryz.prog W 6 75 con75.own :=
  con_opt enc75 (Laying.empty hW.size) hW.size (by decide) dt_mixed (OwnsAll.con (om96 hW) (ownsAll_nil W 6)) Tryz.func75 (fn := Tryz.f75) (c := bodyOf Tryz.f75) (by kernel_rfl) (by kernel_rfl) (fun _ _ h => dec75_enc h) (fun a => ⟨rfl, (by kernel_rfl)⟩) (fun b => rfl) w75
theorem w48 (x : Int × Int × Int × Int × Int × Int) (y : Bool) (hx : rang_Ok.f x.1 x.2.1 x.2.2.1 x.2.2.2.1 x.2.2.2.2.1 x.2.2.2.2.2 = some y) : codeW Tryz.prog (cwC L48) (bodyOf Tryz.f48) (inTab (enc48 x) 8) (birth [] 64) (retW Tryz.prog Tryz.f48 fun v' _ => v' = enr48 y) := by
  obtain ⟨a, b, c, d, e, f⟩ := x
  refine (vc48 a b c d e f _).mpr ?_
  unfold rang_Ok.f at hx
  try simp only [wrapE, andI_eq, orI_eq]
  repeat' first
    | (obtain ⟨y, hy, hx⟩ := Option.bind_eq_some_iff.1 hx; refine ⟨y, hy, ?_⟩)
    | ((refine bifW_c (fun hc => ?_) (fun hc => ?_)) <;> first | rw [if_pos hc] at hx | rw [if_neg hc] at hx | rw [if_pos (Decidable.not_not.1 hc)] at hx)
    | ((refine bifW_n (fun hc => ?_) (fun hc => ?_)) <;> first | rw [if_pos hc] at hx | rw [if_neg hc] at hx)
    | ((refine bifW_b (fun hc => ?_) (fun hc => ?_)) <;> first | rw [if_pos hc] at hx | rw [if_neg hc] at hx)
    | (split at hx <;> first | (cases hx; done) | (refine And.intro (by assumption) ?_))
    | (cases hx; rfl)
    | (cases hx; simp only [enr48, cdec_eq, cdec_beq, Bool.and_true])
theorem om48 {W : World} (hW : GoodW W) : OwnAll Tryz.prog W 6 48 con48.own :=
  con_opt enc48 (Laying.empty hW.size) hW.size (by decide) dt_mixed (OwnsAll.con (om68 hW) (OwnsAll.con (om75 hW) (ownsAll_nil W 6))) Tryz.func48 (fn := Tryz.f48) (c := bodyOf Tryz.f48) (by kernel_rfl) (by kernel_rfl) (fun _ _ h => dec48_enc h) (fun a => ⟨rfl, (by kernel_rfl)⟩) (fun b => rfl) w48
theorem w97 (x : Int × Int) (y : Int) (hx : quad_Low.f x.1 x.2 = some y) : codeW Tryz.prog (cwC L97) (bodyOf Tryz.f97) (inTab (enc97 x) 8) (birth [] 64) (retW Tryz.prog Tryz.f97 fun v' _ => v' = enr97 y) := by
  obtain ⟨a, b⟩ := x
  refine (vc97 a b _).mpr ?_
  unfold quad_Low.f at hx
  try simp only [wrapE, andI_eq, orI_eq]
  repeat' first
    | (obtain ⟨y, hy, hx⟩ := Option.bind_eq_some_iff.1 hx; refine ⟨y, hy, ?_⟩)
    | ((refine bifW_c (fun hc => ?_) (fun hc => ?_)) <;> first | rw [if_pos hc] at hx | rw [if_neg hc] at hx | rw [if_pos (Decidable.not_not.1 hc)] at hx)
    | ((refine bifW_n (fun hc => ?_) (fun hc => ?_)) <;> first | rw [if_pos hc] at hx | rw [if_neg hc] at hx)
    | ((refine bifW_b (fun hc => ?_) (fun hc => ?_)) <;> first | rw [if_pos hc] at hx | rw [if_neg hc] at hx)
    | (split at hx <;> first | (cases hx; done) | (refine And.intro (by assumption) ?_))
    | (cases hx; rfl)
    | (cases hx; simp only [enr97, cdec_eq, cdec_beq, Bool.and_true])
theorem om97 {W : World} (hW : GoodW W) : OwnAll Tryz.prog W 6 97 con97.own :=
  con_opt enc97 (Laying.empty hW.size) hW.size (by decide) dt_mixed (OwnsAll.con (om109 hW) (ownsAll_nil W 6)) Tryz.func97 (fn := Tryz.f97) (c := bodyOf Tryz.f97) (by kernel_rfl) (by kernel_rfl) (fun _ _ h => dec97_enc h) (fun a => ⟨rfl, (by kernel_rfl)⟩) (fun b => rfl) w97
theorem w78 (x : Int × Int × Int) (y : Int × Int × Int × Bool) (hx : addr_Next.f x.1 x.2.1 x.2.2 = some y) : codeW Tryz.prog (cwC L78) (bodyOf Tryz.f78) (inTab (enc78 x) 8) (birth [] 64) (retW Tryz.prog Tryz.f78 fun v' _ => v' = enr78 y) := by
  obtain ⟨a, b, c⟩ := x
  refine (vc78 a b c _).mpr ?_
  unfold addr_Next.f at hx
  try simp only [wrapE, andI_eq, orI_eq]
  repeat' first
    | (obtain ⟨y, hy, hx⟩ := Option.bind_eq_some_iff.1 hx; refine ⟨y, hy, ?_⟩)
    | ((refine bifW_c (fun hc => ?_) (fun hc => ?_)) <;> first | rw [if_pos hc] at hx | rw [if_neg hc] at hx | rw [if_pos (Decidable.not_not.1 hc)] at hx)
    | ((refine bifW_n (fun hc => ?_) (fun hc => ?_)) <;> first | rw [if_pos hc] at hx | rw [if_neg hc] at hx)
    | ((refine bifW_b (fun hc => ?_) (fun hc => ?_)) <;> first | rw [if_pos hc] at hx | rw [if_neg hc] at hx)
    | (split at hx <;> first | (cases hx; done) | (refine And.intro (by assumption) ?_))
    | (cases hx; rfl)
    | (cases hx; simp only [enr78, cdec_eq, cdec_beq, Bool.and_true])
theorem om78 {W : World} (hW : GoodW W) : OwnAll Tryz.prog W 6 78 con78.own :=
  con_opt enc78 (Laying.empty hW.size) hW.size (by decide) dt_mixed (OwnsAll.con (om99 hW) (OwnsAll.con (om98 hW) (OwnsAll.con (om68 hW) (ownsAll_nil W 6)))) Tryz.func78 (fn := Tryz.f78) (c := bodyOf Tryz.f78) (by kernel_rfl) (by kernel_rfl) (fun _ _ h => dec78_enc h) (fun a => ⟨rfl, (by kernel_rfl)⟩) (fun b => rfl) w78
end Go.Proofs.YtfnacgojmdbjmaaGreatDoor
namespace Go.Proofs.YtfnacgojmdbjmaaGreatDoor.PRD
open Go.Det Go.RowKit Go.Proofs.YtfnacgojmdbjmaaGreatDoor Go.Proofs.YtfnacgojmdbjmaaGreatDoorW.PrintWords
theorem gleberef1_Bits.calls (a0 : Int) (r : Int) (w : World) (hG : GoodW w) (h : gleberef1_Bits.f a0 = some r) :
    Calls Tryz.prog 45 #[.int .i64 a0] w fun e w' => e = .returned (.int .i64 r) ∧ Below w.heap.size w w' :=
  calls_of_own (fn := Tryz.f45) (c := bodyOf Tryz.f45) (om45 hG) hG Tryz.func45 (by kernel_rfl) (by kernel_rfl) (args := enc45 (a0)) (v := .int .i64 r) (opt_own (dec := dec45) (enc := enr45) (a := (a0)) (b := r) rfl h _) rfl rfl (by intro h; cases h)
theorem gleberef1_And.calls (a0_0 : Int) (a0_1 : Int) (a1_0 : Int) (a1_1 : Int) (r1 : Int) (r2 : Int) (w : World) (hG : GoodW w) (h : gleberef1_And.f a0_0 a0_1 a1_0 a1_1 = some (r1, r2)) :
    Calls Tryz.prog 55 #[.agg #[.int .u64 a0_0, .int .u64 a0_1], .agg #[.int .u64 a1_0, .int .u64 a1_1]] w fun e w' => e = .returned (.agg #[.int .u64 r1, .int .u64 r2]) ∧ Below w.heap.size w w' :=
  calls_of_own (fn := Tryz.f55) (c := bodyOf Tryz.f55) (om55 hG) hG Tryz.func55 (by kernel_rfl) (by kernel_rfl) (args := enc55 (a0_0, a0_1, a1_0, a1_1)) (v := .agg #[.int .u64 r1, .int .u64 r2]) (opt_own (dec := dec55) (enc := enr55) (a := (a0_0, a0_1, a1_0, a1_1)) (b := (r1, r2)) rfl h _) rfl rfl (by intro h; cases h)
theorem gleberef1_Not.calls (a0_0 : Int) (a0_1 : Int) (r1 : Int) (r2 : Int) (w : World) (hG : GoodW w) (h : gleberef1_Not.f a0_0 a0_1 = some (r1, r2)) :
    Calls Tryz.prog 57 #[.agg #[.int .u64 a0_0, .int .u64 a0_1]] w fun e w' => e = .returned (.agg #[.int .u64 r1, .int .u64 r2]) ∧ Below w.heap.size w w' :=
  calls_of_own (fn := Tryz.f57) (c := bodyOf Tryz.f57) (om57 hG) hG Tryz.func57 (by kernel_rfl) (by kernel_rfl) (args := enc57 (a0_0, a0_1)) (v := .agg #[.int .u64 r1, .int .u64 r2]) (opt_own (dec := dec57) (enc := enr57) (a := (a0_0, a0_1)) (b := (r1, r2)) rfl h _) rfl rfl (by intro h; cases h)
theorem gleberef1_all.calls (a0 : Int) (a1 : Int) (r1 : Int) (r2 : Int) (w : World) (hG : GoodW w) (h : gleberef1_all.f a0 a1 = some (r1, r2)) :
    Calls Tryz.prog 65 #[.int .i64 a0, .int .i64 a1] w fun e w' => e = .returned (.agg #[.int .u64 r1, .int .u64 r2]) ∧ Below w.heap.size w w' :=
  calls_of_own (fn := Tryz.f65) (c := bodyOf Tryz.f65) (om65 hG) hG Tryz.func65 (by kernel_rfl) (by kernel_rfl) (args := enc65 (a0, a1)) (v := .agg #[.int .u64 r1, .int .u64 r2]) (opt_own (dec := dec65) (enc := enr65) (a := (a0, a1)) (b := (r1, r2)) rfl h _) rfl rfl (by intro h; cases h)
theorem gleberef1_Ok.calls (a0_0 : Int) (a0_1 : Int) (a0_2 : Int) (r : Bool) (w : World) (hG : GoodW w) (h : gleberef1_Ok.f a0_0 a0_1 a0_2 = some r) :
    Calls Tryz.prog 44 #[.agg #[.int .i64 a0_0, .int .u64 a0_1, .int .u64 a0_2]] w fun e w' => e = .returned (.bool r) ∧ Below w.heap.size w w' :=
  calls_of_own (fn := Tryz.f44) (c := bodyOf Tryz.f44) (om44 hG) hG Tryz.func44 (by kernel_rfl) (by kernel_rfl) (args := enc44 (a0_0, a0_1, a0_2)) (v := .bool r) (opt_own (dec := dec44) (enc := enr44) (a := (a0_0, a0_1, a0_2)) (b := r) rfl h _) rfl rfl (by intro h; cases h)
theorem gleberef1_OkPrefix.calls (a0_0 : Int) (a0_1 : Int) (a0_2 : Int) (a0_3 : Int) (r : Bool) (w : World) (hG : GoodW w) (h : gleberef1_OkPrefix.f a0_0 a0_1 a0_2 a0_3 = some r) :
    Calls Tryz.prog 16 #[.agg #[.int .i64 a0_0, .int .u64 a0_1, .int .u64 a0_2, .int .i64 a0_3]] w fun e w' => e = .returned (.bool r) ∧ Below w.heap.size w w' :=
  calls_of_own (fn := Tryz.f16) (c := bodyOf Tryz.f16) (om16 hG) hG Tryz.func16 (by kernel_rfl) (by kernel_rfl) (args := enc16 (a0_0, a0_1, a0_2, a0_3)) (v := .bool r) (opt_own (dec := dec16) (enc := enr16) (a := (a0_0, a0_1, a0_2, a0_3)) (b := r) rfl h _) rfl rfl (by intro h; cases h)
theorem gleberef1_Last.calls (a0_0 : Int) (a0_1 : Int) (a0_2 : Int) (a0_3 : Int) (r1 : Int) (r2 : Int) (r3 : Int) (w : World) (hG : GoodW w) (h : gleberef1_Last.f a0_0 a0_1 a0_2 a0_3 = some (r1, r2, r3)) :
    Calls Tryz.prog 25 #[.agg #[.int .i64 a0_0, .int .u64 a0_1, .int .u64 a0_2, .int .i64 a0_3]] w fun e w' => e = .returned (.agg #[.int .i64 r1, .int .u64 r2, .int .u64 r3]) ∧ Below w.heap.size w w' :=
  calls_of_own (fn := Tryz.f25) (c := bodyOf Tryz.f25) (om25 hG) hG Tryz.func25 (by kernel_rfl) (by kernel_rfl) (args := enc25 (a0_0, a0_1, a0_2, a0_3)) (v := .agg #[.int .i64 r1, .int .u64 r2, .int .u64 r3]) (opt_own (dec := dec25) (enc := enr25) (a := (a0_0, a0_1, a0_2, a0_3)) (b := (r1, r2, r3)) rfl h _) rfl rfl (by intro h; cases h)
theorem gleberef1_Add.calls (a0_0 : Int) (a0_1 : Int) (a1_0 : Int) (a1_1 : Int) (r1 : Int) (r2 : Int) (r3 : Bool) (w : World) (hG : GoodW w) (h : gleberef1_Add.f a0_0 a0_1 a1_0 a1_1 = some (r1, r2, r3)) :
    Calls Tryz.prog 43 #[.agg #[.int .u64 a0_0, .int .u64 a0_1], .agg #[.int .u64 a1_0, .int .u64 a1_1]] w fun e w' => e = .returned (.tuple #[.agg #[.int .u64 r1, .int .u64 r2], .bool r3]) ∧ Below w.heap.size w w' :=
  calls_of_own (fn := Tryz.f43) (c := bodyOf Tryz.f43) (om43 hG) hG Tryz.func43 (by kernel_rfl) (by kernel_rfl) (args := enc43 (a0_0, a0_1, a1_0, a1_1)) (v := .tuple #[.agg #[.int .u64 r1, .int .u64 r2], .bool r3]) (opt_own (dec := dec43) (enc := enr43) (a := (a0_0, a0_1, a1_0, a1_1)) (b := (r1, r2, r3)) rfl h _) rfl rfl (by intro h; cases h)
theorem glebelaw3_Pre.calls (a0 : Int) (a1 : Int) (a2 : Int) (a3 : Int) (r1 : Int) (r2 : Int) (r3 : Int) (r4 : Int) (w : World) (hG : GoodW w) (h : glebelaw3_Pre.f a0 a1 a2 a3 = some (r1, r2, r3, r4)) :
    Calls Tryz.prog 10 #[.int .i64 a0, .int .u64 a1, .int .u64 a2, .int .i64 a3] w fun e w' => e = .returned (.agg #[.int .i64 r1, .int .u64 r2, .int .u64 r3, .int .i64 r4]) ∧ Below w.heap.size w w' :=
  calls_of_own (fn := Tryz.f10) (c := bodyOf Tryz.f10) (om10 hG) hG Tryz.func10 (by kernel_rfl) (by kernel_rfl) (args := enc10 (a0, a1, a2, a3)) (v := .agg #[.int .i64 r1, .int .u64 r2, .int .u64 r3, .int .i64 r4]) (opt_own (dec := dec10) (enc := enr10) (a := (a0, a1, a2, a3)) (b := (r1, r2, r3, r4)) rfl h _) rfl rfl (by intro h; cases h)
theorem quad_And.calls (a0_0 : Int) (a0_1 : Int) (a1_0 : Int) (a1_1 : Int) (r1 : Int) (r2 : Int) (w : World) (hG : GoodW w) (h : quad_And.f a0_0 a0_1 a1_0 a1_1 = some (r1, r2)) :
    Calls Tryz.prog 66 #[.agg #[.int .u64 a0_0, .int .u64 a0_1], .agg #[.int .u64 a1_0, .int .u64 a1_1]] w fun e w' => e = .returned (.agg #[.int .u64 r1, .int .u64 r2]) ∧ Below w.heap.size w w' :=
  calls_of_own (fn := Tryz.f66) (c := bodyOf Tryz.f66) (om66 hG) hG Tryz.func66 (by kernel_rfl) (by kernel_rfl) (args := enc66 (a0_0, a0_1, a1_0, a1_1)) (v := .agg #[.int .u64 r1, .int .u64 r2]) (opt_own (dec := dec66) (enc := enr66) (a := (a0_0, a0_1, a1_0, a1_1)) (b := (r1, r2)) rfl h _) rfl rfl (by intro h; cases h)
theorem quad_Or.calls (a0_0 : Int) (a0_1 : Int) (a1_0 : Int) (a1_1 : Int) (r1 : Int) (r2 : Int) (w : World) (hG : GoodW w) (h : quad_Or.f a0_0 a0_1 a1_0 a1_1 = some (r1, r2)) :
    Calls Tryz.prog 74 #[.agg #[.int .u64 a0_0, .int .u64 a0_1], .agg #[.int .u64 a1_0, .int .u64 a1_1]] w fun e w' => e = .returned (.agg #[.int .u64 r1, .int .u64 r2]) ∧ Below w.heap.size w w' :=
  calls_of_own (fn := Tryz.f74) (c := bodyOf Tryz.f74) (om74 hG) hG Tryz.func74 (by kernel_rfl) (by kernel_rfl) (args := enc74 (a0_0, a0_1, a1_0, a1_1)) (v := .agg #[.int .u64 r1, .int .u64 r2]) (opt_own (dec := dec74) (enc := enr74) (a := (a0_0, a0_1, a1_0, a1_1)) (b := (r1, r2)) rfl h _) rfl rfl (by intro h; cases h)
theorem quad_Not.calls (a0_0 : Int) (a0_1 : Int) (r1 : Int) (r2 : Int) (w : World) (hG : GoodW w) (h : quad_Not.f a0_0 a0_1 = some (r1, r2)) :
    Calls Tryz.prog 72 #[.agg #[.int .u64 a0_0, .int .u64 a0_1]] w fun e w' => e = .returned (.agg #[.int .u64 r1, .int .u64 r2]) ∧ Below w.heap.size w w' :=
  calls_of_own (fn := Tryz.f72) (c := bodyOf Tryz.f72) (om72 hG) hG Tryz.func72 (by kernel_rfl) (by kernel_rfl) (args := enc72 (a0_0, a0_1)) (v := .agg #[.int .u64 r1, .int .u64 r2]) (opt_own (dec := dec72) (enc := enr72) (a := (a0_0, a0_1)) (b := (r1, r2)) rfl h _) rfl rfl (by intro h; cases h)
theorem addr_Bits.calls (a0 : Int) (r : Int) (w : World) (hG : GoodW w) (h : addr_Bits.f a0 = some r) :
    Calls Tryz.prog 69 #[.int .i64 a0] w fun e w' => e = .returned (.int .i64 r) ∧ Below w.heap.size w w' :=
  calls_of_own (fn := Tryz.f69) (c := bodyOf Tryz.f69) (om69 hG) hG Tryz.func69 (by kernel_rfl) (by kernel_rfl) (args := enc69 (a0)) (v := .int .i64 r) (opt_own (dec := dec69) (enc := enr69) (a := (a0)) (b := r) rfl h _) rfl rfl (by intro h; cases h)
theorem quad_Mask.calls (a0 : Int) (r1 : Int) (r2 : Int) (w : World) (hG : GoodW w) (h : quad_Mask.f a0 = some (r1, r2)) :
    Calls Tryz.prog 73 #[.int .i64 a0] w fun e w' => e = .returned (.agg #[.int .u64 r1, .int .u64 r2]) ∧ Below w.heap.size w w' :=
  calls_of_own (fn := Tryz.f73) (c := bodyOf Tryz.f73) (om73 hG) hG Tryz.func73 (by kernel_rfl) (by kernel_rfl) (args := enc73 (a0)) (v := .agg #[.int .u64 r1, .int .u64 r2]) (opt_own (dec := dec73) (enc := enr73) (a := (a0)) (b := (r1, r2)) rfl h _) rfl rfl (by intro h; cases h)
theorem pref_mask.calls (a0 : Int) (a1 : Int) (r1 : Int) (r2 : Int) (w : World) (hG : GoodW w) (h : pref_mask.f a0 a1 = some (r1, r2)) :
    Calls Tryz.prog 67 #[.int .i64 a0, .int .i64 a1] w fun e w' => e = .returned (.agg #[.int .u64 r1, .int .u64 r2]) ∧ Below w.heap.size w w' :=
  calls_of_own (fn := Tryz.f67) (c := bodyOf Tryz.f67) (om67 hG) hG Tryz.func67 (by kernel_rfl) (by kernel_rfl) (args := enc67 (a0, a1)) (v := .agg #[.int .u64 r1, .int .u64 r2]) (opt_own (dec := dec67) (enc := enr67) (a := (a0, a1)) (b := (r1, r2)) rfl h _) rfl rfl (by intro h; cases h)
theorem addr_Ok.calls (a0_0 : Int) (a0_1 : Int) (a0_2 : Int) (r : Bool) (w : World) (hG : GoodW w) (h : addr_Ok.f a0_0 a0_1 a0_2 = some r) :
    Calls Tryz.prog 68 #[.agg #[.int .i64 a0_0, .int .u64 a0_1, .int .u64 a0_2]] w fun e w' => e = .returned (.bool r) ∧ Below w.heap.size w w' :=
  calls_of_own (fn := Tryz.f68) (c := bodyOf Tryz.f68) (om68 hG) hG Tryz.func68 (by kernel_rfl) (by kernel_rfl) (args := enc68 (a0_0, a0_1, a0_2)) (v := .bool r) (opt_own (dec := dec68) (enc := enr68) (a := (a0_0, a0_1, a0_2)) (b := r) rfl h _) rfl rfl (by intro h; cases h)
theorem pref_Ok.calls (a0_0 : Int) (a0_1 : Int) (a0_2 : Int) (a0_3 : Int) (r : Bool) (w : World) (hG : GoodW w) (h : pref_Ok.f a0_0 a0_1 a0_2 a0_3 = some r) :
    Calls Tryz.prog 22 #[.agg #[.int .i64 a0_0, .int .u64 a0_1, .int .u64 a0_2, .int .i64 a0_3]] w fun e w' => e = .returned (.bool r) ∧ Below w.heap.size w w' :=
  calls_of_own (fn := Tryz.f22) (c := bodyOf Tryz.f22) (om22 hG) hG Tryz.func22 (by kernel_rfl) (by kernel_rfl) (args := enc22 (a0_0, a0_1, a0_2, a0_3)) (v := .bool r) (opt_own (dec := dec22) (enc := enr22) (a := (a0_0, a0_1, a0_2, a0_3)) (b := r) rfl h _) rfl rfl (by intro h; cases h)
theorem pref_Last.calls (a0_0 : Int) (a0_1 : Int) (a0_2 : Int) (a0_3 : Int) (r1 : Int) (r2 : Int) (r3 : Int) (w : World) (hG : GoodW w) (h : pref_Last.f a0_0 a0_1 a0_2 a0_3 = some (r1, r2, r3)) :
    Calls Tryz.prog 24 #[.agg #[.int .i64 a0_0, .int .u64 a0_1, .int .u64 a0_2, .int .i64 a0_3]] w fun e w' => e = .returned (.agg #[.int .i64 r1, .int .u64 r2, .int .u64 r3]) ∧ Below w.heap.size w w' :=
  calls_of_own (fn := Tryz.f24) (c := bodyOf Tryz.f24) (om24 hG) hG Tryz.func24 (by kernel_rfl) (by kernel_rfl) (args := enc24 (a0_0, a0_1, a0_2, a0_3)) (v := .agg #[.int .i64 r1, .int .u64 r2, .int .u64 r3]) (opt_own (dec := dec24) (enc := enr24) (a := (a0_0, a0_1, a0_2, a0_3)) (b := (r1, r2, r3)) rfl h _) rfl rfl (by intro h; cases h)
theorem quad_Less.calls (a0_0 : Int) (a0_1 : Int) (a1_0 : Int) (a1_1 : Int) (r : Bool) (w : World) (hG : GoodW w) (h : quad_Less.f a0_0 a0_1 a1_0 a1_1 = some r) :
    Calls Tryz.prog 96 #[.agg #[.int .u64 a0_0, .int .u64 a0_1], .agg #[.int .u64 a1_0, .int .u64 a1_1]] w fun e w' => e = .returned (.bool r) ∧ Below w.heap.size w w' :=
  calls_of_own (fn := Tryz.f96) (c := bodyOf Tryz.f96) (om96 hG) hG Tryz.func96 (by kernel_rfl) (by kernel_rfl) (args := enc96 (a0_0, a0_1, a1_0, a1_1)) (v := .bool r) (opt_own (dec := dec96) (enc := enr96) (a := (a0_0, a0_1, a1_0, a1_1)) (b := r) rfl h _) rfl rfl (by intro h; cases h)
theorem addr_Less.calls (a0_0 : Int) (a0_1 : Int) (a0_2 : Int) (a1_0 : Int) (a1_1 : Int) (a1_2 : Int) (r : Bool) (w : World) (hG : GoodW w) (h : addr_Less.f a0_0 a0_1 a0_2 a1_0 a1_1 a1_2 = some r) :
    Calls Tryz.prog 75 #[.agg #[.int .i64 a0_0, .int .u64 a0_1, .int .u64 a0_2], .agg #[.int .i64 a1_0, .int .u64 a1_1, .int .u64 a1_2]] w fun e w' => e = .returned (.bool r) ∧ Below w.heap.size w w' :=
  calls_of_own (fn := Tryz.f75) (c := bodyOf Tryz.f75) (om75 hG) hG Tryz.func75 (by kernel_rfl) (by kernel_rfl) (args := enc75 (a0_0, a0_1, a0_2, a1_0, a1_1, a1_2)) (v := .bool r) (opt_own (dec := dec75) (enc := enr75) (a := (a0_0, a0_1, a0_2, a1_0, a1_1, a1_2)) (b := r) rfl h _) rfl rfl (by intro h; cases h)
theorem rang_Ok.calls (a0_0 : Int) (a0_1 : Int) (a0_2 : Int) (a0_3 : Int) (a0_4 : Int) (a0_5 : Int) (r : Bool) (w : World) (hG : GoodW w) (h : rang_Ok.f a0_0 a0_1 a0_2 a0_3 a0_4 a0_5 = some r) :
    Calls Tryz.prog 48 #[.agg #[.int .i64 a0_0, .int .u64 a0_1, .int .u64 a0_2, .int .i64 a0_3, .int .u64 a0_4, .int .u64 a0_5]] w fun e w' => e = .returned (.bool r) ∧ Below w.heap.size w w' :=
  calls_of_own (fn := Tryz.f48) (c := bodyOf Tryz.f48) (om48 hG) hG Tryz.func48 (by kernel_rfl) (by kernel_rfl) (args := enc48 (a0_0, a0_1, a0_2, a0_3, a0_4, a0_5)) (v := .bool r) (opt_own (dec := dec48) (enc := enr48) (a := (a0_0, a0_1, a0_2, a0_3, a0_4, a0_5)) (b := r) rfl h _) rfl rfl (by intro h; cases h)
theorem quad_Low.calls (a0_0 : Int) (a0_1 : Int) (r : Int) (w : World) (hG : GoodW w) (h : quad_Low.f a0_0 a0_1 = some r) :
    Calls Tryz.prog 97 #[.agg #[.int .u64 a0_0, .int .u64 a0_1]] w fun e w' => e = .returned (.int .i64 r) ∧ Below w.heap.size w w' :=
  calls_of_own (fn := Tryz.f97) (c := bodyOf Tryz.f97) (om97 hG) hG Tryz.func97 (by kernel_rfl) (by kernel_rfl) (args := enc97 (a0_0, a0_1)) (v := .int .i64 r) (opt_own (dec := dec97) (enc := enr97) (a := (a0_0, a0_1)) (b := r) rfl h _) rfl rfl (by intro h; cases h)
theorem addr_Next.calls (a0_0 : Int) (a0_1 : Int) (a0_2 : Int) (r1 : Int) (r2 : Int) (r3 : Int) (r4 : Bool) (w : World) (hG : GoodW w) (h : addr_Next.f a0_0 a0_1 a0_2 = some (r1, r2, r3, r4)) :
    Calls Tryz.prog 78 #[.agg #[.int .i64 a0_0, .int .u64 a0_1, .int .u64 a0_2]] w fun e w' => e = .returned (.tuple #[.agg #[.int .i64 r1, .int .u64 r2, .int .u64 r3], .bool r4]) ∧ Below w.heap.size w w' :=
  calls_of_own (fn := Tryz.f78) (c := bodyOf Tryz.f78) (om78 hG) hG Tryz.func78 (by kernel_rfl) (by kernel_rfl) (args := enc78 (a0_0, a0_1, a0_2)) (v := .tuple #[.agg #[.int .i64 r1, .int .u64 r2, .int .u64 r3], .bool r4]) (opt_own (dec := dec78) (enc := enr78) (a := (a0_0, a0_1, a0_2)) (b := (r1, r2, r3, r4)) rfl h _) rfl rfl (by intro h; cases h)
end Go.Proofs.YtfnacgojmdbjmaaGreatDoor.PRD
