/- Texts of a proof, joined: words of the print (those that are named here) and printed functions. -/
import Derived.Test.YtfnacgojmdbjmaaGreatDoorRv7
import Derived.Test.YtfnacgojmdbjmaaGreatDoorRv6
import Derived.Test.YtfnacgojmdbjmaaGreatDoorRv3
set_option linter.unusedSimpArgs false
set_option linter.unusedVariables false

section
/- The conditions of the functions without loops, reckoned by the kernel. -/
namespace Go.Proofs.YtfnacgojmdbjmaaGreatDoor
open Go.Det Go.RowKit Go.Proofs.YtfnacgojmdbjmaaGreatDoor.PRD Go.Proofs.YtfnacgojmdbjmaaGreatDoorW.PrintWords
set_option maxRecDepth 100000
theorem vc27 (a b c d e f g : Int) (Q : Value → Prop) : codeW Tryz.prog (cwC L27) (bodyOf Tryz.f27) (inTab [.agg #[.int .i64 a, .int .u64 b, .int .u64 c, .int .i64 d], .agg #[.int .i64 e, .int .u64 f, .int .u64 g]] 8) (birth [] 64) (retW Tryz.prog Tryz.f27 fun v _ => Q v) = ((∃ x0 : Bool, ((gleberef1_OkPrefix.f a b c d = Option.some x0) ∧ bifW (x0) ((∃ x1 : Bool, ((gleberef1_Ok.f e f g = Option.some x1) ∧ bifW (x1) (bifW (cdec (e = a)) ((∃ x2 : Int × Int, ((gleberef1_all.f e d = Option.some x2) ∧ (∃ x3 : Int × Int, ((gleberef1_And.f f g (Prod.fst x2) (Prod.snd x2) = Option.some x3) ∧ Q (Value.bool (cdec (Prod.fst x3 = b) && (cdec (Prod.snd x3 = c) && Bool.true)))))))) (Q (Value.bool Bool.false))) (Q (Value.bool Bool.false))))) (Q (Value.bool Bool.false))))) := by kernel_rfl
theorem vc36 (a b c d : Int) (Q : Value → Prop) : codeW Tryz.prog (cwC L36) (bodyOf Tryz.f36) (inTab [.int .i64 a, .int .u64 b, .int .u64 c, .int .u64 d] 8) (birth [] 64) (retW Tryz.prog Tryz.f36 fun v _ => Q v) = ((∃ x0 : Int × Int × Int, ((glebelaw2_Addr.f 300 a b c = Option.some x0) ∧ (((0 : Int) ≤ 9) ∧ ((0 ≤ IntKind.wrap IntKind.u64 (andI IntKind.i64 (shrI IntKind.i64 a 9) 63)) ∧ (∃ x1 : Int × Int × Bool, ((gleberef1_Add.f (Prod.fst (Prod.snd x0)) (Prod.snd (Prod.snd x0)) 0 (shrI IntKind.u64 d (IntKind.wrap IntKind.u64 (andI IntKind.i64 (shrI IntKind.i64 a 9) 63))) = Option.some x1) ∧ bifW (!Prod.snd (Prod.snd x1)) (Q (Value.agg #[Value.int IntKind.i64 (Prod.fst x0), Value.int IntKind.u64 (Prod.fst (Prod.snd x0)), Value.int IntKind.u64 (Prod.snd (Prod.snd x0)), Value.int IntKind.i64 (Prod.fst x0), Value.int IntKind.u64 (Prod.fst (Prod.snd x0)), Value.int IntKind.u64 (Prod.snd (Prod.snd x0))])) ((∃ x2 : Bool, ((gleberef1_Ok.f (Prod.fst x0) (Prod.fst x1) (Prod.fst (Prod.snd x1)) = Option.some x2) ∧ bifW (!x2) (Q (Value.agg #[Value.int IntKind.i64 (Prod.fst x0), Value.int IntKind.u64 (Prod.fst (Prod.snd x0)), Value.int IntKind.u64 (Prod.snd (Prod.snd x0)), Value.int IntKind.i64 (Prod.fst x0), Value.int IntKind.u64 (Prod.fst (Prod.snd x0)), Value.int IntKind.u64 (Prod.snd (Prod.snd x0))])) (Q (Value.agg #[Value.int IntKind.i64 (Prod.fst x0), Value.int IntKind.u64 (Prod.fst (Prod.snd x0)), Value.int IntKind.u64 (Prod.snd (Prod.snd x0)), Value.int IntKind.i64 (Prod.fst x0), Value.int IntKind.u64 (Prod.fst x1), Value.int IntKind.u64 (Prod.fst (Prod.snd x1))])))))))))))) := by kernel_rfl
theorem vc26 (a b c d e f g : Int) (Q : Value → Prop) : codeW Tryz.prog (cwC L26) (bodyOf Tryz.f26) (inTab [.agg #[.int .i64 a, .int .u64 b, .int .u64 c, .int .i64 d], .agg #[.int .i64 e, .int .u64 f, .int .u64 g]] 8) (birth [] 64) (retW Tryz.prog Tryz.f26 fun v _ => Q v) = ((∃ x0 : Bool, ((pref_Ok.f a b c d = Option.some x0) ∧ bifW (x0) ((∃ x1 : Bool, ((addr_Ok.f e f g = Option.some x1) ∧ bifW (x1) (bifW (cdec (e = a)) ((∃ x2 : Int × Int, ((pref_mask.f a d = Option.some x2) ∧ (∃ x3 : Int × Int, ((quad_And.f f g (Prod.fst x2) (Prod.snd x2) = Option.some x3) ∧ Q (Value.bool (cdec (Prod.fst x3 = b) && (cdec (Prod.snd x3 = c) && Bool.true)))))))) (Q (Value.bool Bool.false))) (Q (Value.bool Bool.false))))) (Q (Value.bool Bool.false))))) := by kernel_rfl
theorem vc40 (a b c d e f g h i j : Int) (Q : Value → Prop) : codeW Tryz.prog (cwC L40) (bodyOf Tryz.f40) (inTab [.agg #[.int .i64 a, .int .u64 b, .int .u64 c, .int .i64 d, .int .u64 e, .int .u64 f], .agg #[.int .i64 g, .int .u64 h, .int .u64 i, .int .i64 j]] 8) (birth [] 64) (retW Tryz.prog Tryz.f40 fun v _ => Q v) = ((∃ x0 : Bool, ((rang_Ok.f a b c d e f = Option.some x0) ∧ bifW (x0) ((∃ x1 : Bool, ((pref_Has.f g h i j a b c = Option.some x1) ∧ bifW (x1) ((∃ x2 : Bool, ((pref_Has.f g h i j d e f = Option.some x2) ∧ Q (Value.bool x2)))) (Q (Value.bool Bool.false))))) (Q (Value.bool Bool.false))))) := by kernel_rfl
theorem vc41 (a b c d e f g h i j k l : Int) (Q : Value → Prop) : codeW Tryz.prog (cwC L41) (bodyOf Tryz.f41) (inTab [.agg #[.int .i64 a, .int .u64 b, .int .u64 c, .int .i64 d, .int .u64 e, .int .u64 f], .agg #[.int .i64 g, .int .u64 h, .int .u64 i, .int .i64 j, .int .u64 k, .int .u64 l]] 8) (birth [] 64) (retW Tryz.prog Tryz.f41 fun v _ => Q v) = ((∃ x0 : Bool, ((rang_Ok.f a b c d e f = Option.some x0) ∧ bifW (!x0) (Q (Value.bool Bool.false)) ((∃ x1 : Bool, ((rang_Ok.f g h i j k l = Option.some x1) ∧ bifW (!x1) (Q (Value.bool Bool.false)) ((∃ x2 : Bool, ((addr_Less.f a b c g h i = Option.some x2) ∧ bifW (x2) (Q (Value.bool Bool.true)) (bifW (cdec (a = g) && (cdec (b = h) && (cdec (c = i) && Bool.true))) ((∃ x3 : Bool, ((addr_Less.f d e f j k l = Option.some x3) ∧ Q (Value.bool x3)))) (Q (Value.bool Bool.false)))))))))))) := by kernel_rfl
end Go.Proofs.YtfnacgojmdbjmaaGreatDoor
end

section
/- The functions without loops come to what they are told to be. No conditions. -/
namespace Go.Proofs.YtfnacgojmdbjmaaGreatDoor
open Go.Det Go.RowKit Go.Proofs.YtfnacgojmdbjmaaGreatDoor.PRD Go.Proofs.YtfnacgojmdbjmaaGreatDoorW.PrintWords
set_option maxRecDepth 100000
theorem w27 (x : Int × Int × Int × Int × Int × Int × Int) (y : Bool) (hx : gleberef1_Has.f x.1 x.2.1 x.2.2.1 x.2.2.2.1 x.2.2.2.2.1 x.2.2.2.2.2.1 x.2.2.2.2.2.2 = some y) : codeW Tryz.prog (cwC L27) (bodyOf Tryz.f27) (inTab (enc27 x) 8) (birth [] 64) (retW Tryz.prog Tryz.f27 fun v' _ => v' = enr27 y) := by
  obtain ⟨a, b, c, d, e, f, g⟩ := x
  refine (vc27 a b c d e f g _).mpr ?_
  unfold gleberef1_Has.f at hx
  try simp only [wrapE, andI_eq, orI_eq]
  repeat' first
    | (obtain ⟨y, hy, hx⟩ := Option.bind_eq_some_iff.1 hx; refine ⟨y, hy, ?_⟩)
    | ((refine bifW_c (fun hc => ?_) (fun hc => ?_)) <;> first | rw [if_pos hc] at hx | rw [if_neg hc] at hx | rw [if_pos (Decidable.not_not.1 hc)] at hx)
    | ((refine bifW_n (fun hc => ?_) (fun hc => ?_)) <;> first | rw [if_pos hc] at hx | rw [if_neg hc] at hx)
    | ((refine bifW_b (fun hc => ?_) (fun hc => ?_)) <;> first | rw [if_pos hc] at hx | rw [if_neg hc] at hx)
    | (split at hx <;> first | (cases hx; done) | (refine And.intro (by assumption) ?_))
    | (cases hx; rfl)
    | (cases hx; simp only [enr27, cdec_eq, cdec_beq, Bool.and_true])
theorem w36 (x : Int × Int × Int × Int) (y : Int × Int × Int × Int × Int × Int) (hx : glebelaw4_Rang.f x.1 x.2.1 x.2.2.1 x.2.2.2 = some y) : codeW Tryz.prog (cwC L36) (bodyOf Tryz.f36) (inTab (enc36 x) 8) (birth [] 64) (retW Tryz.prog Tryz.f36 fun v' _ => v' = enr36 y) := by
  obtain ⟨a, b, c, d⟩ := x
  refine (vc36 a b c d _).mpr ?_
  unfold glebelaw4_Rang.f at hx
  try simp only [wrapE, andI_eq, orI_eq]
  repeat' first
    | (obtain ⟨y, hy, hx⟩ := Option.bind_eq_some_iff.1 hx; refine ⟨y, hy, ?_⟩)
    | ((refine bifW_c (fun hc => ?_) (fun hc => ?_)) <;> first | rw [if_pos hc] at hx | rw [if_neg hc] at hx | rw [if_pos (Decidable.not_not.1 hc)] at hx)
    | ((refine bifW_n (fun hc => ?_) (fun hc => ?_)) <;> first | rw [if_pos hc] at hx | rw [if_neg hc] at hx)
    | ((refine bifW_b (fun hc => ?_) (fun hc => ?_)) <;> first | rw [if_pos hc] at hx | rw [if_neg hc] at hx)
    | (split at hx <;> first | (cases hx; done) | (refine And.intro (by assumption) ?_))
    | (cases hx; rfl)
    | (cases hx; simp only [enr36, cdec_eq, cdec_beq, Bool.and_true])
    | (refine And.intro (by decide) ?_)
    | (refine And.intro (wrap_within .u64 _).1 ?_)
theorem om36 {W : World} (hW : GoodW W) : OwnAll Tryz.prog W 6 36 con36.own :=
  con_opt enc36 (Laying.empty hW.size) hW.size (by decide) dt_mixed (OwnsAll.con (om42 hW) (OwnsAll.con (om43 hW) (OwnsAll.con (om44 hW) (ownsAll_nil W 6)))) Tryz.func36 (fn := Tryz.f36) (c := bodyOf Tryz.f36) (by kernel_rfl) (by kernel_rfl) (fun _ _ h => dec36_enc h) (fun a => ⟨rfl, (by kernel_rfl)⟩) (fun b => rfl) w36
theorem w26 (x : Int × Int × Int × Int × Int × Int × Int) (y : Bool) (hx : pref_Has.f x.1 x.2.1 x.2.2.1 x.2.2.2.1 x.2.2.2.2.1 x.2.2.2.2.2.1 x.2.2.2.2.2.2 = some y) : codeW Tryz.prog (cwC L26) (bodyOf Tryz.f26) (inTab (enc26 x) 8) (birth [] 64) (retW Tryz.prog Tryz.f26 fun v' _ => v' = enr26 y) := by
  obtain ⟨a, b, c, d, e, f, g⟩ := x
  refine (vc26 a b c d e f g _).mpr ?_
  unfold pref_Has.f at hx
  try simp only [wrapE, andI_eq, orI_eq]
  repeat' first
    | (obtain ⟨y, hy, hx⟩ := Option.bind_eq_some_iff.1 hx; refine ⟨y, hy, ?_⟩)
    | ((refine bifW_c (fun hc => ?_) (fun hc => ?_)) <;> first | rw [if_pos hc] at hx | rw [if_neg hc] at hx | rw [if_pos (Decidable.not_not.1 hc)] at hx)
    | ((refine bifW_n (fun hc => ?_) (fun hc => ?_)) <;> first | rw [if_pos hc] at hx | rw [if_neg hc] at hx)
    | ((refine bifW_b (fun hc => ?_) (fun hc => ?_)) <;> first | rw [if_pos hc] at hx | rw [if_neg hc] at hx)
    | (split at hx <;> first | (cases hx; done) | (refine And.intro (by assumption) ?_))
    | (cases hx; rfl)
    | (cases hx; simp only [enr26, cdec_eq, cdec_beq, Bool.and_true])
theorem w40 (x : Int × Int × Int × Int × Int × Int × Int × Int × Int × Int) (y : Bool) (hx : rang_In.f x.1 x.2.1 x.2.2.1 x.2.2.2.1 x.2.2.2.2.1 x.2.2.2.2.2.1 x.2.2.2.2.2.2.1 x.2.2.2.2.2.2.2.1 x.2.2.2.2.2.2.2.2.1 x.2.2.2.2.2.2.2.2.2 = some y) : codeW Tryz.prog (cwC L40) (bodyOf Tryz.f40) (inTab (enc40 x) 8) (birth [] 64) (retW Tryz.prog Tryz.f40 fun v' _ => v' = enr40 y) := by
  obtain ⟨a, b, c, d, e, f, g, h, i, j⟩ := x
  refine (vc40 a b c d e f g h i j _).mpr ?_
  unfold rang_In.f at hx
  try simp only [wrapE, andI_eq, orI_eq]
  repeat' first
    | (obtain ⟨y, hy, hx⟩ := Option.bind_eq_some_iff.1 hx; refine ⟨y, hy, ?_⟩)
    | ((refine bifW_c (fun hc => ?_) (fun hc => ?_)) <;> first | rw [if_pos hc] at hx | rw [if_neg hc] at hx | rw [if_pos (Decidable.not_not.1 hc)] at hx)
    | ((refine bifW_n (fun hc => ?_) (fun hc => ?_)) <;> first | rw [if_pos hc] at hx | rw [if_neg hc] at hx)
    | ((refine bifW_b (fun hc => ?_) (fun hc => ?_)) <;> first | rw [if_pos hc] at hx | rw [if_neg hc] at hx)
    | (split at hx <;> first | (cases hx; done) | (refine And.intro (by assumption) ?_))
    | (cases hx; rfl)
    | (cases hx; simp only [enr40, cdec_eq, cdec_beq, Bool.and_true])
theorem w41 (x : Int × Int × Int × Int × Int × Int × Int × Int × Int × Int × Int × Int) (y : Bool) (hx : rang_Less.f x.1 x.2.1 x.2.2.1 x.2.2.2.1 x.2.2.2.2.1 x.2.2.2.2.2.1 x.2.2.2.2.2.2.1 x.2.2.2.2.2.2.2.1 x.2.2.2.2.2.2.2.2.1 x.2.2.2.2.2.2.2.2.2.1 x.2.2.2.2.2.2.2.2.2.2.1 x.2.2.2.2.2.2.2.2.2.2.2 = some y) : codeW Tryz.prog (cwC L41) (bodyOf Tryz.f41) (inTab (enc41 x) 8) (birth [] 64) (retW Tryz.prog Tryz.f41 fun v' _ => v' = enr41 y) := by
  obtain ⟨a, b, c, d, e, f, g, h, i, j, k, l⟩ := x
  refine (vc41 a b c d e f g h i j k l _).mpr ?_
  unfold rang_Less.f at hx
  simp only [cdec_beq] at hx
  simp only [Bool.and_true]
  try simp only [wrapE, andI_eq, orI_eq]
  repeat' first
    | (obtain ⟨y, hy, hx⟩ := Option.bind_eq_some_iff.1 hx; refine ⟨y, hy, ?_⟩)
    | ((refine bifW_c (fun hc => ?_) (fun hc => ?_)) <;> first | rw [if_pos hc] at hx | rw [if_neg hc] at hx | rw [if_pos (Decidable.not_not.1 hc)] at hx)
    | ((refine bifW_n (fun hc => ?_) (fun hc => ?_)) <;> first | rw [if_pos hc] at hx | rw [if_neg hc] at hx)
    | ((refine bifW_b (fun hc => ?_) (fun hc => ?_)) <;> first | rw [if_pos hc] at hx | rw [if_neg hc] at hx)
    | (split at hx <;> first | (cases hx; done) | (refine And.intro (by assumption) ?_))
    | (cases hx; rfl)
    | (cases hx; simp only [enr41, cdec_eq, cdec_beq, Bool.and_true])
end Go.Proofs.YtfnacgojmdbjmaaGreatDoor
namespace Go.Proofs.YtfnacgojmdbjmaaGreatDoor.PRD
open Go.Det Go.RowKit Go.Proofs.YtfnacgojmdbjmaaGreatDoor Go.Proofs.YtfnacgojmdbjmaaGreatDoorW.PrintWords
end Go.Proofs.YtfnacgojmdbjmaaGreatDoor.PRD
end

section
/- Ranges read and printed: the functions on texts under this seat's numbers. No conditions. -/
namespace Go.Proofs.YtfnacgojmdbjmaaGreatDoor
open Go.Det Go.RowKit Go.Proofs.YtfnacgojmdbjmaaGreatDoorW.PrintWords
set_option maxRecDepth 100000
noncomputable abbrev con59 : Con := conD60
theorem om59 {W : World} (hW : GoodW W) : OwnAll Tryz.prog W 6 59 con59.own := omD60 hW
noncomputable abbrev con84 : Con := conD51
theorem om84 {W : World} (hW : GoodW W) : OwnAll Tryz.prog W 6 84 con84.own := omD51 hW
noncomputable abbrev con85 : Con := conD52
theorem om85 {W : World} (hW : GoodW W) : OwnAll Tryz.prog W 6 85 con85.own := omD52 hW
noncomputable abbrev con70 : Con := conD26
theorem om70 {W : World} (hW : GoodW W) : OwnAll Tryz.prog W 6 70 con70.own := omD26 hW
noncomputable def con86 : Con := Con.opt decB (fun s => PPH.addr_four.f 1000 s) enIB
theorem om86 {W : World} (hW : GoodW W) : OwnAll Tryz.prog W 6 86 con86.own := by
  refine own_of_calls (fn := Tryz.f86) (c := bodyOf Tryz.f86) hW Tryz.func86 (by kernel_rfl) (by kernel_rfl) fun args v h => ?_
  split at h
  case h_2 => cases h
  rename_i a ha
  split at h
  case h_2 => cases h
  rename_i b hb
  cases h
  obtain rfl := decB_enc ha
  exact ⟨rfl, rfl, fun w hG => (PPH.addr_four.calls 1000 a b.1 b.2 w hG hb).mono fun e w' h => ⟨h.1, h.2⟩⟩
end Go.Proofs.YtfnacgojmdbjmaaGreatDoor
end

section
/- Functions without loops, told as plain functions, and the contracts of these and of the printed ones. No conditions. -/
namespace Go.Proofs.YtfnacgojmdbjmaaGreatDoor.PRD
open Go.RowKit Go.Proofs.YtfnacgojmdbjmaaGreatDoorW.PrintWords Go.Proofs.YtfnacgojmdbjmaaGreatDoorW.PrintLast Go.Proofs.YtfnacgojmdbjmaaGreatDoorW.PrintMore
open Go.Det (inQ M64 M128 qn addN highN clampN)
def strings_Cut.f (a0 : ByteArray) (a1 : ByteArray) : Option (ByteArray × ByteArray × Bool) := cutF a0 a1
def addr_six.f (a0 : ByteArray) : Option (Int × Int × Int × Bool) := sixF a0
def addr_Print.f (a0_0 : Int) (a0_1 : Int) (a0_2 : Int) : Option (ByteArray) := prF a0_0 a0_1 a0_2
def gleberef1_Next.f (a0_0 : Int) (a0_1 : Int) (a0_2 : Int) : Option (Int × Int × Int × Bool) := (gleberef1_Add.f a0_1 a0_2 0 1).bind fun t1 => ((gleberef1_Ok.f a0_0 a0_1 a0_2).bind fun t2 => (if t2 = true then (if t1.2.2 = true then ((gleberef1_Ok.f a0_0 t1.1 t1.2.1).bind fun t3 => (if t3 = true then (some (a0_0, t1.1, t1.2.1, true)) else (some (0, 0, 0, false)))) else (some (0, 0, 0, false))) else (some (0, 0, 0, false))))
def addr_Parse.f (a0 : ByteArray) : Option (Int × Int × Int × Bool) := (PPH.strings_Contains.f a0 { data := #[58] }).bind fun t1 => (if t1 = true then ((addr_six.f a0).bind fun t2 => (some (t2.1, t2.2.1, t2.2.2.1, t2.2.2.2))) else ((PPH.addr_four.f 1000 a0).bind fun t3 => (if t3.2 = true then (some (4, 0, t3.1, true)) else (some (0, 0, 0, false)))))
def rang_Parse.f (a0 : ByteArray) : Option (Int × Int × Int × Int × Int × Int × Bool) := (strings_Cut.f a0 { data := #[45] }).bind fun c => ((addr_Parse.f c.1).bind fun a => ((addr_Parse.f c.2.1).bind fun b => (if c.2.2 = true then (if a.2.2.2 = true then (if b.2.2.2 = true then ((rang_Ok.f a.1 a.2.1 a.2.2.1 b.1 b.2.1 b.2.2.1).bind fun o => (if o = true then (some (a.1, a.2.1, a.2.2.1, b.1, b.2.1, b.2.2.1, true)) else (some (0, 0, 0, 0, 0, 0, false)))) else (some (0, 0, 0, 0, 0, 0, false))) else (some (0, 0, 0, 0, 0, 0, false))) else (some (0, 0, 0, 0, 0, 0, false)))))
def rang_Print.f (a0_0 : Int) (a0_1 : Int) (a0_2 : Int) (a0_3 : Int) (a0_4 : Int) (a0_5 : Int) : Option (ByteArray) := (rang_Ok.f a0_0 a0_1 a0_2 a0_3 a0_4 a0_5).bind fun t1 => (if t1 = true then ((addr_Print.f a0_0 a0_1 a0_2).bind fun s => (if s.size + ByteArray.size ({ data := #[45] } : ByteArray) ≤ 9223372036854775807 then ((addr_Print.f a0_3 a0_4 a0_5).bind fun u => (if (s ++ ({ data := #[45] } : ByteArray)).size + u.size ≤ 9223372036854775807 then (some (s ++ ({ data := #[45] } : ByteArray) ++ u)) else (none))) else (none))) else (some { data := #[] }))
end Go.Proofs.YtfnacgojmdbjmaaGreatDoor.PRD
namespace Go.Proofs.YtfnacgojmdbjmaaGreatDoor
open Go.Det Go.RowKit Go.Proofs.YtfnacgojmdbjmaaGreatDoor.PRD Go.Proofs.YtfnacgojmdbjmaaGreatDoorW.PrintWords
set_option maxRecDepth 100000
noncomputable def dec54 : List Value → Option (Int × Int × Int)
  | [.agg ⟨[.int .i64 a, .int .u64 b, .int .u64 c]⟩] => some (a, b, c)
  | _ => none
noncomputable def enc54 (x : Int × Int × Int) : List Value := [.agg #[.int .i64 x.1, .int .u64 x.2.1, .int .u64 x.2.2]]
theorem dec54_enc {args : List Value} {a : Int × Int × Int} (h : dec54 args = some a) : args = enc54 a := by
  unfold dec54 at h
  split at h
  case h_2 => cases h
  cases h; rfl
noncomputable def enr54 (y : Int × Int × Int × Bool) : Value := .tuple #[.agg #[.int .i64 y.1, .int .u64 y.2.1, .int .u64 y.2.2.1], .bool y.2.2.2]
noncomputable def con54 : Con := Con.opt dec54 (fun x => gleberef1_Next.f x.1 x.2.1 x.2.2) enr54
noncomputable def L54 : List (Nat × Con) := [(43, con43), (44, con44)]
noncomputable def dec60 : List Value → Option (ByteArray)
  | [.string a] => some (a)
  | _ => none
noncomputable def enc60 (x : ByteArray) : List Value := [.string x]
theorem dec60_enc {args : List Value} {a : ByteArray} (h : dec60 args = some a) : args = enc60 a := by
  unfold dec60 at h
  split at h
  case h_2 => cases h
  cases h; rfl
noncomputable def enr60 (y : Int × Int × Int × Bool) : Value := .tuple #[.agg #[.int .i64 y.1, .int .u64 y.2.1, .int .u64 y.2.2.1], .bool y.2.2.2]
noncomputable def con60 : Con := Con.opt dec60 (fun x => addr_Parse.f x) enr60
noncomputable def L60 : List (Nat × Con) := [(84, con84), (85, con85), (86, con86)]
noncomputable def dec32 : List Value → Option (ByteArray)
  | [.string a] => some (a)
  | _ => none
noncomputable def enc32 (x : ByteArray) : List Value := [.string x]
theorem dec32_enc {args : List Value} {a : ByteArray} (h : dec32 args = some a) : args = enc32 a := by
  unfold dec32 at h
  split at h
  case h_2 => cases h
  cases h; rfl
noncomputable def enr32 (y : Int × Int × Int × Int × Int × Int × Bool) : Value := .tuple #[.agg #[.int .i64 y.1, .int .u64 y.2.1, .int .u64 y.2.2.1, .int .i64 y.2.2.2.1, .int .u64 y.2.2.2.2.1, .int .u64 y.2.2.2.2.2.1], .bool y.2.2.2.2.2.2]
noncomputable def con32 : Con := Con.opt dec32 (fun x => rang_Parse.f x) enr32
noncomputable def L32 : List (Nat × Con) := [(59, con59), (60, con60), (48, con48)]
noncomputable def dec35 : List Value → Option (Int × Int × Int × Int × Int × Int)
  | [.agg ⟨[.int .i64 a, .int .u64 b, .int .u64 c, .int .i64 d, .int .u64 e, .int .u64 f]⟩] => some (a, b, c, d, e, f)
  | _ => none
noncomputable def enc35 (x : Int × Int × Int × Int × Int × Int) : List Value := [.agg #[.int .i64 x.1, .int .u64 x.2.1, .int .u64 x.2.2.1, .int .i64 x.2.2.2.1, .int .u64 x.2.2.2.2.1, .int .u64 x.2.2.2.2.2]]
theorem dec35_enc {args : List Value} {a : Int × Int × Int × Int × Int × Int} (h : dec35 args = some a) : args = enc35 a := by
  unfold dec35 at h
  split at h
  case h_2 => cases h
  cases h; rfl
noncomputable def enr35 (y : ByteArray) : Value := .string y
noncomputable def con35 : Con := Con.opt dec35 (fun x => rang_Print.f x.1 x.2.1 x.2.2.1 x.2.2.2.1 x.2.2.2.2.1 x.2.2.2.2.2) enr35
noncomputable def L35 : List (Nat × Con) := [(48, con48), (70, con70)]
end Go.Proofs.YtfnacgojmdbjmaaGreatDoor
end

section
/- The conditions of the functions without loops, reckoned by the kernel. -/
namespace Go.Proofs.YtfnacgojmdbjmaaGreatDoor
open Go.Det Go.RowKit Go.Proofs.YtfnacgojmdbjmaaGreatDoor.PRD Go.Proofs.YtfnacgojmdbjmaaGreatDoorW.PrintWords
set_option maxRecDepth 100000
theorem vg54 (a : Int) (b : Int) (c : Int) (Q : Value → Prop) : codeW Tryz.prog (cwC L54) (bodyOf Tryz.f54) (inTab [.agg #[.int .i64 a, .int .u64 b, .int .u64 c]] 8) (birth [] 64) (retW Tryz.prog Tryz.f54 fun v _ => Q v) = ((∃ x0 : Int × Int × Bool, ((gleberef1_Add.f b c 0 1 = some x0) ∧ (∃ x1 : Bool, ((gleberef1_Ok.f a b c = some x1) ∧ bifW (!x1) (Q (Value.tuple #[Value.agg #[Value.int .i64 0, Value.int .u64 0, Value.int .u64 0], Value.bool false])) (bifW (!Prod.snd (x0.2)) (Q (Value.tuple #[Value.agg #[Value.int .i64 0, Value.int .u64 0, Value.int .u64 0], Value.bool false])) ((∃ x2 : Bool, ((gleberef1_Ok.f a (x0.1) (Prod.fst (x0.2)) = some x2) ∧ bifW (!x2) (Q (Value.tuple #[Value.agg #[Value.int .i64 0, Value.int .u64 0, Value.int .u64 0], Value.bool false])) (Q (Value.tuple #[Value.agg #[Value.int .i64 a, Value.int .u64 (x0.1), Value.int .u64 (Prod.fst (x0.2))], Value.bool true]))))))))))) := by kernel_rfl
theorem vg60 (a : ByteArray) (Q : Value → Prop) : codeW Tryz.prog (cwC L60) (bodyOf Tryz.f60) (inTab [.string a] 8) (birth [] 64) (retW Tryz.prog Tryz.f60 fun v _ => Q v) = ((∃ x0 : Bool, ((conF a { data := #[58] } = some x0) ∧ bifW (x0) ((∃ x1 : Int × Int × Int × Bool, ((sixF a = some x1) ∧ Q (Value.tuple #[Value.agg #[Value.int .i64 (x1.1), Value.int .u64 (Prod.fst (x1.2)), Value.int .u64 (Prod.fst (Prod.snd (x1.2)))], Value.bool (Prod.snd (Prod.snd (x1.2)))])))) ((∃ x1 : Int × Bool, ((PPH.addr_four.f 1000 a = some x1) ∧ bifW (!x1.2) (Q (Value.tuple #[Value.agg #[Value.int .i64 0, Value.int .u64 0, Value.int .u64 0], Value.bool false])) (Q (Value.tuple #[Value.agg #[Value.int .i64 4, Value.int .u64 0, Value.int .u64 (x1.1)], Value.bool true])))))))) := by kernel_rfl
theorem vg32 (a : ByteArray) (Q : Value → Prop) : codeW Tryz.prog (cwC L32) (bodyOf Tryz.f32) (inTab [.string a] 8) (birth [] 64) (retW Tryz.prog Tryz.f32 fun v _ => Q v) = ((∃ x0 : ByteArray × ByteArray × Bool, ((cutF a { data := #[45] } = some x0) ∧ (∃ x1 : Int × Int × Int × Bool, ((addr_Parse.f (x0.1) = some x1) ∧ (∃ x2 : Int × Int × Int × Bool, ((addr_Parse.f (Prod.fst (x0.2)) = some x2) ∧ bifW (!Prod.snd (x0.2)) (Q (Value.tuple #[Value.agg #[Value.int .i64 0, Value.int .u64 0, Value.int .u64 0, Value.int .i64 0, Value.int .u64 0, Value.int .u64 0], Value.bool false])) (bifW (!Prod.snd (Prod.snd (x1.2))) (Q (Value.tuple #[Value.agg #[Value.int .i64 0, Value.int .u64 0, Value.int .u64 0, Value.int .i64 0, Value.int .u64 0, Value.int .u64 0], Value.bool false])) (bifW (!Prod.snd (Prod.snd (x2.2))) (Q (Value.tuple #[Value.agg #[Value.int .i64 0, Value.int .u64 0, Value.int .u64 0, Value.int .i64 0, Value.int .u64 0, Value.int .u64 0], Value.bool false])) ((∃ x3 : Bool, ((rang_Ok.f (x1.1) (Prod.fst (x1.2)) (Prod.fst (Prod.snd (x1.2))) x2.1 (Prod.fst (x2.2)) (Prod.fst (Prod.snd (x2.2))) = some x3) ∧ bifW (!x3) (Q (Value.tuple #[Value.agg #[Value.int .i64 0, Value.int .u64 0, Value.int .u64 0, Value.int .i64 0, Value.int .u64 0, Value.int .u64 0], Value.bool false])) (Q (Value.tuple #[Value.agg #[Value.int .i64 (x1.1), Value.int .u64 (Prod.fst (x1.2)), Value.int .u64 (Prod.fst (Prod.snd (x1.2))), Value.int .i64 (x2.1), Value.int .u64 (Prod.fst (x2.2)), Value.int .u64 (Prod.fst (Prod.snd (x2.2)))], Value.bool true])))))))))))))) := by kernel_rfl
theorem vg35 (a : Int) (b : Int) (c : Int) (d : Int) (e : Int) (f : Int) (Q : Value → Prop) : codeW Tryz.prog (cwC L35) (bodyOf Tryz.f35) (inTab [.agg #[.int .i64 a, .int .u64 b, .int .u64 c, .int .i64 d, .int .u64 e, .int .u64 f]] 8) (birth [] 64) (retW Tryz.prog Tryz.f35 fun v _ => Q v) = ((∃ x0 : Bool, ((rang_Ok.f a b c d e f = some x0) ∧ bifW (!x0) (Q (Value.string { data := #[] })) ((∃ x1 : ByteArray, ((prF a b c = some x1) ∧ ((ByteArray.size x1 + ByteArray.size { data := #[45] } ≤ 9223372036854775807) ∧ (∃ x2 : ByteArray, ((prF d e f = some x2) ∧ ((ByteArray.size (x1 ++ { data := #[45] }) + ByteArray.size x2 ≤ 9223372036854775807) ∧ Q (Value.string (x1 ++ { data := #[45] } ++ x2)))))))))))) := by kernel_rfl
end Go.Proofs.YtfnacgojmdbjmaaGreatDoor
end

section
/- The functions without loops come to what they are told to be. No conditions. -/
namespace Go.Proofs.YtfnacgojmdbjmaaGreatDoor
open Go.Det Go.RowKit Go.Proofs.YtfnacgojmdbjmaaGreatDoor.PRD Go.Proofs.YtfnacgojmdbjmaaGreatDoorW.PrintWords
set_option maxRecDepth 100000
theorem wg54 (x : Int × Int × Int) (y : Int × Int × Int × Bool) (hx : gleberef1_Next.f x.1 x.2.1 x.2.2 = some y) : codeW Tryz.prog (cwC L54) (bodyOf Tryz.f54) (inTab (enc54 x) 8) (birth [] 64) (retW Tryz.prog Tryz.f54 fun v' _ => v' = enr54 y) := by
  obtain ⟨a, b, c⟩ := x
  refine (vg54 a b c _).mpr ?_
  unfold gleberef1_Next.f at hx
  try simp only [wrapE, andI_eq, orI_eq]
  repeat' first
    | (obtain ⟨y, hy, hx⟩ := Option.bind_eq_some_iff.1 hx; refine ⟨y, hy, ?_⟩)
    | ((refine bifW_c (fun hc => ?_) (fun hc => ?_)) <;> first | rw [if_pos hc] at hx | rw [if_neg hc] at hx | rw [if_pos (Decidable.not_not.1 hc)] at hx)
    | ((refine bifW_n (fun hc => ?_) (fun hc => ?_)) <;> first | rw [if_pos hc] at hx | rw [if_neg hc] at hx)
    | ((refine bifW_b (fun hc => ?_) (fun hc => ?_)) <;> first | rw [if_pos hc] at hx | rw [if_neg hc] at hx)
    | (split at hx <;> first | (cases hx; done) | (refine And.intro (by assumption) ?_))
    | (cases hx; rfl)
    | (cases hx; simp only [enr54, cdec_eq, cdec_beq, Bool.and_true])
theorem om54 {W : World} (hW : GoodW W) : OwnAll Tryz.prog W 6 54 con54.own :=
  con_opt enc54 (Laying.empty hW.size) hW.size (by decide) dt_mixed (OwnsAll.con (om43 hW) (OwnsAll.con (om44 hW) (ownsAll_nil W 6))) Tryz.func54 (fn := Tryz.f54) (c := bodyOf Tryz.f54) (by kernel_rfl) (by kernel_rfl) (fun _ _ h => dec54_enc h) (fun a => ⟨rfl, (by kernel_rfl)⟩) (fun b => rfl) wg54
theorem wg60 (x : ByteArray) (y : Int × Int × Int × Bool) (hx : addr_Parse.f x = some y) : codeW Tryz.prog (cwC L60) (bodyOf Tryz.f60) (inTab (enc60 x) 8) (birth [] 64) (retW Tryz.prog Tryz.f60 fun v' _ => v' = enr60 y) := by
  refine (vg60 x _).mpr ?_
  unfold addr_Parse.f at hx
  try simp only [wrapE, andI_eq, orI_eq]
  repeat' first
    | (obtain ⟨y, hy, hx⟩ := Option.bind_eq_some_iff.1 hx; refine ⟨y, hy, ?_⟩)
    | ((refine bifW_c (fun hc => ?_) (fun hc => ?_)) <;> first | rw [if_pos hc] at hx | rw [if_neg hc] at hx | rw [if_pos (Decidable.not_not.1 hc)] at hx)
    | ((refine bifW_n (fun hc => ?_) (fun hc => ?_)) <;> first | rw [if_pos hc] at hx | rw [if_neg hc] at hx)
    | ((refine bifW_b (fun hc => ?_) (fun hc => ?_)) <;> first | rw [if_pos hc] at hx | rw [if_neg hc] at hx)
    | (split at hx <;> first | (cases hx; done) | (refine And.intro (by assumption) ?_))
    | (cases hx; rfl)
    | (cases hx; simp only [enr60, cdec_eq, cdec_beq, Bool.and_true])
theorem om60 {W : World} (hW : GoodW W) : OwnAll Tryz.prog W 6 60 con60.own :=
  con_opt enc60 (Laying.empty hW.size) hW.size (by decide) dt_mixed (OwnsAll.con (om84 hW) (OwnsAll.con (om85 hW) (OwnsAll.con (om86 hW) (ownsAll_nil W 6)))) Tryz.func60 (fn := Tryz.f60) (c := bodyOf Tryz.f60) (by kernel_rfl) (by kernel_rfl) (fun _ _ h => dec60_enc h) (fun a => ⟨rfl, (by kernel_rfl)⟩) (fun b => rfl) wg60
theorem wg32 (x : ByteArray) (y : Int × Int × Int × Int × Int × Int × Bool) (hx : rang_Parse.f x = some y) : codeW Tryz.prog (cwC L32) (bodyOf Tryz.f32) (inTab (enc32 x) 8) (birth [] 64) (retW Tryz.prog Tryz.f32 fun v' _ => v' = enr32 y) := by
  refine (vg32 x _).mpr ?_
  unfold rang_Parse.f at hx
  try simp only [wrapE, andI_eq, orI_eq]
  repeat' first
    | (obtain ⟨y, hy, hx⟩ := Option.bind_eq_some_iff.1 hx; refine ⟨y, hy, ?_⟩)
    | ((refine bifW_c (fun hc => ?_) (fun hc => ?_)) <;> first | rw [if_pos hc] at hx | rw [if_neg hc] at hx | rw [if_pos (Decidable.not_not.1 hc)] at hx)
    | ((refine bifW_n (fun hc => ?_) (fun hc => ?_)) <;> first | rw [if_pos hc] at hx | rw [if_neg hc] at hx)
    | ((refine bifW_b (fun hc => ?_) (fun hc => ?_)) <;> first | rw [if_pos hc] at hx | rw [if_neg hc] at hx)
    | (split at hx <;> first | (cases hx; done) | (refine And.intro (by assumption) ?_))
    | (cases hx; rfl)
    | (cases hx; simp only [enr32, cdec_eq, cdec_beq, Bool.and_true])
theorem om32 {W : World} (hW : GoodW W) : OwnAll Tryz.prog W 6 32 con32.own :=
  con_opt enc32 (Laying.empty hW.size) hW.size (by decide) dt_mixed (OwnsAll.con (om59 hW) (OwnsAll.con (om60 hW) (OwnsAll.con (om48 hW) (ownsAll_nil W 6)))) Tryz.func32 (fn := Tryz.f32) (c := bodyOf Tryz.f32) (by kernel_rfl) (by kernel_rfl) (fun _ _ h => dec32_enc h) (fun a => ⟨rfl, (by kernel_rfl)⟩) (fun b => rfl) wg32
theorem wg35 (x : Int × Int × Int × Int × Int × Int) (y : ByteArray) (hx : rang_Print.f x.1 x.2.1 x.2.2.1 x.2.2.2.1 x.2.2.2.2.1 x.2.2.2.2.2 = some y) : codeW Tryz.prog (cwC L35) (bodyOf Tryz.f35) (inTab (enc35 x) 8) (birth [] 64) (retW Tryz.prog Tryz.f35 fun v' _ => v' = enr35 y) := by
  obtain ⟨a, b, c, d, e, f⟩ := x
  refine (vg35 a b c d e f _).mpr ?_
  unfold rang_Print.f at hx
  try simp only [wrapE, andI_eq, orI_eq]
  repeat' first
    | (obtain ⟨y, hy, hx⟩ := Option.bind_eq_some_iff.1 hx; refine ⟨y, hy, ?_⟩)
    | ((refine bifW_c (fun hc => ?_) (fun hc => ?_)) <;> first | rw [if_pos hc] at hx | rw [if_neg hc] at hx | rw [if_pos (Decidable.not_not.1 hc)] at hx)
    | ((refine bifW_n (fun hc => ?_) (fun hc => ?_)) <;> first | rw [if_pos hc] at hx | rw [if_neg hc] at hx)
    | ((refine bifW_b (fun hc => ?_) (fun hc => ?_)) <;> first | rw [if_pos hc] at hx | rw [if_neg hc] at hx)
    | (split at hx <;> first | (cases hx; done) | (refine And.intro (by assumption) ?_))
    | (cases hx; rfl)
    | (cases hx; simp only [enr35, cdec_eq, cdec_beq, Bool.and_true])
theorem om35 {W : World} (hW : GoodW W) : OwnAll Tryz.prog W 6 35 con35.own :=
  con_opt enc35 (Laying.empty hW.size) hW.size (by decide) dt_mixed (OwnsAll.con (om48 hW) (OwnsAll.con (om70 hW) (ownsAll_nil W 6))) Tryz.func35 (fn := Tryz.f35) (c := bodyOf Tryz.f35) (by kernel_rfl) (by kernel_rfl) (fun _ _ h => dec35_enc h) (fun a => ⟨rfl, (by kernel_rfl)⟩) (fun b => rfl) wg35
end Go.Proofs.YtfnacgojmdbjmaaGreatDoor
namespace Go.Proofs.YtfnacgojmdbjmaaGreatDoor.PRD
open Go.Det Go.RowKit Go.Proofs.YtfnacgojmdbjmaaGreatDoor Go.Proofs.YtfnacgojmdbjmaaGreatDoorW.PrintWords
end Go.Proofs.YtfnacgojmdbjmaaGreatDoor.PRD
end

section
/- Functions that answer a row of their own (seat of the ranges), as entries and contracts. No conditions. -/
namespace Go.Det
noncomputable def Con.row {α β : Type} (dec : List Value → Option α) (F : α → Option (List β)) (enc : β → List Value) (elem n : Nat) : Con where
  own := fun args s => match dec args with
    | some a => (match F a with
      | some r => (match r with
        | [] => none
        | _ :: _ => some (.slice (some ⟨s.next, 0, none⟩) r.length (capU + n), s.new (.cells (r.flatMap enc) (2 * elem) false)))
      | none => none)
    | none => none
  w := fun args s K => match dec args with
    | some a => ∃ r, F a = some r ∧ (r ≠ [] ∧ K (.slice (some ⟨s.next, 0, none⟩) r.length (capU + n)) (s.new (.cells (r.flatMap enc) (2 * elem) false)))
    | none => False
  ok := by
    intro args s K h
    split at h
    · rename_i a ha
      obtain ⟨r, hr, hne, hk⟩ := h
      refine ⟨_, _, ?_, hk, fun K' k => ⟨r, hr, hne, k⟩⟩
      cases r with
      | nil => exact absurd rfl hne
      | cons x t => simp only [ha, hr]
    · exact h.elim
  mono := by
    intro args s K K' k h
    split at h
    · obtain ⟨r, hr, hne, hk⟩ := h
      exact ⟨r, hr, hne, k _ _ hk⟩
    · exact h.elim
end Go.Det
namespace Go.Proofs.YtfnacgojmdbjmaaGreatDoor
open Go.Det Go.RowKit Go.Proofs.YtfnacgojmdbjmaaGreatDoorW.PrintWords
set_option maxRecDepth 100000
theorem own_row {f : FuncId} {fn : Func} {c : Code} {α β : Type} {dec : List Value → Option α} {F : α → Option (List β)} {enc : β → List Value} {elem n : Nat} {W : World} (hn : ∀ x, (enc x).length = n) (hn0 : 0 < n) (hfl : ∀ x, ∀ v ∈ enc x, flat v = true)
    (hW : GoodW W) (hf : Tryz.prog.funcs[f]? = some fn) (hb : fn.body = some c) (hnm : (fn.name == "runtime.NumGoroutine") = false)
    (h : ∀ args a r, dec args = some a → F a = some r → flat2L args = true ∧ ∀ w, GoodW w → Calls Tryz.prog f ⟨args⟩ w fun e w' => ∃ v, e = .returned v ∧ Below w.heap.size w w' ∧ w'.ownsRow w.heap.size elem n v r.length (r.flatMap enc)) :
    OwnAll Tryz.prog W 6 f (Con.row dec F enc elem n).own := by
  refine ⟨fun args => ?_, fun W1 k1 args s v s' e φ w args' H _ hA hfr _ => ?_⟩
  · refine new_tr (match dec args with
      | some a => (match F a with
        | some r => (match r with
          | [] => none
          | _ :: _ => some (Blk.cells (r.flatMap enc) (2 * elem) false, fun k => Value.slice (some ⟨k, 0, none⟩) r.length (capU + n)))
        | none => none)
      | none => none) fun s => ?_
    show (match dec args with
      | some a => (match F a with
        | some r => (match r with
          | [] => none
          | _ :: _ => some (Value.slice (some ⟨s.next, 0, none⟩) r.length (capU + n), s.new (.cells (r.flatMap enc) (2 * elem) false)))
        | none => none)
      | none => none) = _
    cases dec args with
    | none => rfl
    | some a =>
      simp only
      cases F a with
      | none => rfl
      | some r => cases r <;> rfl
  · have e0 : (match dec args with
      | some a => (match F a with
        | some r => (match r with
          | [] => none
          | _ :: _ => some (Value.slice (some ⟨s.next, 0, none⟩) r.length (capU + n), s.new (.cells (r.flatMap enc) (2 * elem) false)))
        | none => none)
      | none => none) = some (v, s') := e
    split at e0
    case h_2 => cases e0
    rename_i a ha
    split at e0
    case h_2 => cases e0
    rename_i r hr
    split at e0
    case h_1 => cases e0
    rename_i x t
    cases e0
    obtain ⟨h1, h3⟩ := h args a (x :: t) ha hr
    rw [flat2L_inv h1 hA, callFunc_run hf hb hnm]
    have kw : Later W w := k1.trans H.later
    refine (h3 w (hW.later kw.size kw.old)).mono ?_
    rintro e W' ⟨v, rfl, hB, hl, ho⟩
    rcases ho with ⟨_, ho⟩ | ⟨g, cap, cur, rfl, hg, hblk, hcap, _, hsz, hcur⟩
    · simp at ho
    have hnew : φ s.next = none := hfr s.next (Nat.le_refl _) (by show s.next < Nat.max s.hi (s.next + 1); exact Nat.lt_of_lt_of_le (Nat.lt_succ_self _) (Nat.le_max_right _ _))
    refine ⟨_, upd φ s.next (g, 0, cur.size), rfl, Ext.upd hnew _, ?_, ?_⟩
    · exact VR.sliceU (φ := upd φ s.next (g, 0, cur.size)) s.next 0 g 0 cur.size (x :: t).length cap n (upd_same _ _ _) hn0 (by omega) hcap
    · refine H.adopt (w' := W') hnew hB.os hB.output hB.tape hB.size (fun j hj _ => hB.block j hj) (Nat.le_trans H.size hg) (fz := (0, 0)) (c := cur) (by rw [half0]; exact hblk) (fun _ => rfl) ?_ rfl ?_ (fun i hi => ?_) (fun _ o _ => by simp) (fun O q => by rw [Array.getElem?_eq_none hg] at q; cases q)
      · intro j cj ej rj bj sj zj _ a'
        have := H.dom _ _ _ _ a'
        omega
      · rw [hl, hsz]; have := Nat.mul_le_mul_right n hcap; omega
      · have hv : ((x :: t).flatMap enc).getD i und = cur.getD i und := by
          rw [← hcur, List.getD_eq_getElem?_getD, Array.getD_eq_getD_getElem?, List.getElem?_take, if_pos (by rw [← hl]; exact hi)]
          simp
        rw [Nat.zero_add, hv]
        refine flat_self ?_ _
        rw [← hv, List.getD_eq_getElem?_getD, List.getElem?_eq_getElem hi]
        have hm := List.getElem_mem hi
        obtain ⟨y, _, hy⟩ := List.mem_flatMap.1 hm
        exact hfl y _ hy
end Go.Proofs.YtfnacgojmdbjmaaGreatDoor
end

section
/- rang.widest: told as a plain function (printed by a program of this claim), and its words for W: what its loop keeps. No conditions. -/
namespace Go.Proofs.YtfnacgojmdbjmaaGreatDoor.PRD
open Go.RowKit Go.Proofs.YtfnacgojmdbjmaaGreatDoorW.PrintWords Go.Proofs.YtfnacgojmdbjmaaGreatDoorW.PrintLast Go.Proofs.YtfnacgojmdbjmaaGreatDoorW.PrintMore
attribute [local go_sem] max2_int min2_int max_two min_two max_three min_three max_four min_four
open Go.Det (inQ M64 M128 qn addN highN clampN)
set_option linter.unusedVariables false
set_option linter.unusedSimpArgs false
def rang_widest.l0 : Nat → Int → Int → Int → Int → Int → Int → Int → Int → Option (Int × Int × Int × Int)
  | 0, _, _, _, _, _, _, _, _ => none
  | k + 1, x5, x6, x107000, x107001, x107002, x108000, x108001, x108002 => if x6 < x5 then ((pref_Ok.f x107000 x107001 x107002 x6).bind fun t112 => (if t112 = true then ((pref_Last.f x107000 x107001 x107002 x6).bind fun bt113 => ((addr_Less.f x108000 x108001 x108002 bt113.1 bt113.2.1 bt113.2.2).bind fun t116 => (if t116 = true then (rang_widest.l0 k x5 (wrap64 (x6 + 1)) x107000 x107001 x107002 x108000 x108001 x108002) else (some (x107000, x107001, x107002, x6))))) else (rang_widest.l0 k x5 (wrap64 (x6 + 1)) x107000 x107001 x107002 x108000 x108001 x108002))) else (some (x107000, x107001, x107002, x5))
def rang_widest.f (k : Nat) (a0_0 : Int) (a0_1 : Int) (a0_2 : Int) (a1_0 : Int) (a1_1 : Int) (a1_2 : Int) : Option (Int × Int × Int × Int) := (addr_Bits.f a0_0).bind fun t109 => ((quad_Low.f a0_1 a0_2).bind fun t110 => (rang_widest.l0 k t109 (wrap64 (t109 - (mn t110 t109))) a0_0 a0_1 a0_2 a1_0 a1_1 a1_2))
theorem rang_widest.mono_l : ∀ k, (∀ y0 y1 y2 y3 y4 y5 y6 y7, LeO (rang_widest.l0 k y0 y1 y2 y3 y4 y5 y6 y7) (rang_widest.l0 (k + 1) y0 y1 y2 y3 y4 y5 y6 y7))
  | 0 => fun _ _ _ _ _ _ _ _ r h => by simp [rang_widest.l0] at h
  | k + 1 => by
    have ih0 := rang_widest.mono_l k
    · intro y0 y1 y2 y3 y4 y5 y6 y7
      unfold rang_widest.l0
      repeat' first
      | (with_reducible exact ih0 _ _ _ _ _ _ _ _)
      | (with_reducible exact LeO.refl _)
      | (with_reducible exact LeO.none _)
      | (with_reducible refine LeO.ite ?_ ?_)
      | (with_reducible refine LeO.bind ?_ (fun _ => ?_))
      | exact ih0 _ _ _ _ _ _ _ _
      | exact LeO.none _
      | refine LeO.ite ?_ ?_
      | refine LeO.bind ?_ (fun _ => ?_)
theorem rang_widest.mono : ∀ a0 a1 a2 a3 a4 a5 k, LeO (rang_widest.f k a0 a1 a2 a3 a4 a5) (rang_widest.f (k + 1) a0 a1 a2 a3 a4 a5) := by
  intro a0 a1 a2 a3 a4 a5 k
  have ih0 := rang_widest.mono_l k
  unfold rang_widest.f
  repeat' first
      | (with_reducible exact ih0 _ _ _ _ _ _ _ _)
      | (with_reducible exact LeO.refl _)
      | (with_reducible exact LeO.none _)
      | (with_reducible refine LeO.ite ?_ ?_)
      | (with_reducible refine LeO.bind ?_ (fun _ => ?_))
      | exact ih0 _ _ _ _ _ _ _ _
      | exact LeO.none _
      | refine LeO.ite ?_ ?_
      | refine LeO.bind ?_ (fun _ => ?_)
end Go.Proofs.YtfnacgojmdbjmaaGreatDoor.PRD
namespace Go.Proofs.YtfnacgojmdbjmaaGreatDoor
open Go.Det Go.RowKit Go.Proofs.YtfnacgojmdbjmaaGreatDoor.PRD Go.Proofs.YtfnacgojmdbjmaaGreatDoorW.PrintWords
set_option maxRecDepth 100000
noncomputable def L77 : List (Nat × Con) := [(69, con69), (97, con97), (22, con22), (24, con24), (75, con75)]
structure WdV where
  a0 : Int
  a1 : Int
  a2 : Int
  b0 : Int
  b1 : Int
  b2 : Int
  m : Int
  n : Int
noncomputable def slWd (v : WdV) : Slots := [(2, .pointer (some ⟨64, 0, none⟩)), (3, .pointer (some ⟨65, 0, none⟩)), (4, .pointer (some ⟨66, 0, none⟩)), (5, .int .i64 v.m), (6, .int .i64 v.n)]
def cAWd (v : WdV) : List Value := [.int .i64 v.a0, .int .u64 v.a1, .int .u64 v.a2]
def cBWd (v : WdV) : List Value := [.int .i64 v.b0, .int .u64 v.b1, .int .u64 v.b2]
def cZWd : List Value := [.int .i64 0, .int .u64 0, .int .u64 0, .int .i64 0]
noncomputable def blWd (v : WdV) : Blks := [(64, cAWd v, 57, false), (65, cBWd v, 57, false), (66, cZWd, 61, false)]
noncomputable def agreeWd (v : WdV) (l : Tmps) (s : St) : Prop := slotsW l (slWd v) ∧ blkW s 64 (cAWd v) 57 false ∧ blkW s 65 (cBWd v) 57 false ∧ blkW s 66 cZWd 61 false
theorem agreeWd_weak {v : WdV} {l : Tmps} {s : St} (h : agreeWd v l s) : Weaker l s (tabOf (slWd v)) (stOf (blWd v) 67) := by
  obtain ⟨h1, h2, h3, h4⟩ := h
  refine weak_pick (by decide) (fun x hx => ?_) (fun x hx => ?_) h1 ⟨blkW_get h2, blkW_get h3, blkW_get h4, trivial⟩
  · simp only [slWd, List.mem_cons, List.not_mem_nil, or_false] at hx
    rcases hx with rfl | rfl | rfl | rfl | rfl <;> rfl
  · simp only [blWd, List.mem_cons, List.not_mem_nil, or_false] at hx
    rcases hx with rfl | rfl | rfl
    · exact ⟨show (64 : Nat) ≤ 64 ∧ 64 < 67 by decide, rfl⟩
    · exact ⟨show (64 : Nat) ≤ 65 ∧ 65 < 67 by decide, rfl⟩
    · exact ⟨show (64 : Nat) ≤ 66 ∧ 66 < 67 by decide, rfl⟩
noncomputable def bodyWd : Code := match loopsOf (bodyOf Tryz.f77) with | a :: _ => a | [] => .skip
noncomputable def oxN (_ : Nat) : Option OpX := none
theorem oxN_ok {cw : Cw} : OxOk Tryz.prog cw oxN := fun _ _ h => by cases h
noncomputable def lxM (_ : Nat) : Option LpX := none
theorem lxM_ok {cw : Cw} (l : List Code) : LxOk Tryz.prog cw lxM l := fun _ _ _ h => by cases h
noncomputable def StepWd (v v1 : WdV) : Prop := codeX Tryz.prog (cwC L77) oxN lxM bodyWd (tabOf (slWd v)) (stOf (blWd v) 67) (stepW (fun l s => agreeWd v1 l s) (fun _ _ _ => False))
noncomputable def LXWd : LpX := fun l s K => ∃ v : WdV, agreeWd v l s ∧ ∃ v' : WdV, Star StepWd v v' ∧ codeX Tryz.prog (cwC L77) oxN lxM bodyWd (tabOf (slWd v')) (stOf (blWd v') 67) (stepW (fun _ _ => False) K)
noncomputable def lxWd (n : Nat) : Option LpX := match Nat.beq n 3 with | true => some LXWd | false => none
theorem lxWd_ok : LxOk Tryz.prog (cwC L77) lxWd (loopsOf (bodyOf Tryz.f77)) := by
  have e : loopsOf (bodyOf Tryz.f77) = [bodyWd] := by kernel_rfl
  rw [e]
  intro a ha X hX l s K h
  obtain rfl := List.mem_singleton.1 ha
  have e2 : lxWd (frst bodyWd) = some LXWd := by kernel_rfl
  rw [e2] at hX
  cases hX
  obtain ⟨v, hv, v', hs, he⟩ := h
  have hm := cwC_mono L77
  refine loop_star hm (fun v => tabOf (slWd v)) (fun v => stOf (blWd v) 67) (fun v v1 hstep => ?_) hs (agreeWd_weak hv) (codeX_codeW hm oxN_ok _ (lxM_ok _) he)
  exact codeW_mono hm _ (stepW_mono (fun l s q => agreeWd_weak q) fun _ _ _ q => q) (codeX_codeW hm oxN_ok _ (lxM_ok _) hstep)
end Go.Proofs.YtfnacgojmdbjmaaGreatDoor
end

section
/- Conditions, reckoned by the kernel. -/
namespace Go.Proofs.YtfnacgojmdbjmaaGreatDoor
open Go.Det Go.RowKit Go.Proofs.YtfnacgojmdbjmaaGreatDoor.PRD Go.Proofs.YtfnacgojmdbjmaaGreatDoorW.PrintWords
set_option maxRecDepth 100000
theorem vcWdB (v v1 : WdV) (Kp : Prop) : codeX Tryz.prog (cwC L77) oxN lxM bodyWd (tabOf (slWd v)) (stOf (blWd v) 67) (stepW (fun l s => agreeWd v1 l s) (fun _ _ _ => Kp)) = (bifW (cdec (WdV.n v < WdV.m v)) ((∃ x0 : Bool, ((pref_Ok.f (WdV.a0 v) (WdV.a1 v) (WdV.a2 v) (WdV.n v) = Option.some x0) ∧ bifW (x0) ((∃ x1 : Int × Int × Int, ((pref_Last.f (WdV.a0 v) (WdV.a1 v) (WdV.a2 v) (WdV.n v) = Option.some x1) ∧ (∃ x2 : Bool, ((addr_Less.f (WdV.b0 v) (WdV.b1 v) (WdV.b2 v) (Prod.fst x1) (Prod.fst (Prod.snd x1)) (Prod.snd (Prod.snd x1)) = Option.some x2) ∧ bifW (!x2) (Kp) ((((Value.pointer (Option.some { block := 64, off := 0 }) = Value.pointer (Option.some { block := 64, off := 0 })) ∧ ((Value.pointer (Option.some { block := 65, off := 0 }) = Value.pointer (Option.some { block := 65, off := 0 })) ∧ ((Value.pointer (Option.some { block := 66, off := 0 }) = Value.pointer (Option.some { block := 66, off := 0 })) ∧ ((Value.int IntKind.i64 (WdV.m v) = Value.int IntKind.i64 (WdV.m v1)) ∧ ((Value.int IntKind.i64 (IntKind.wrap IntKind.i64 (WdV.n v + 1)) = Value.int IntKind.i64 (WdV.n v1)) ∧ True))))) ∧ ((((Value.int IntKind.i64 (WdV.a0 v) = Value.int IntKind.i64 (WdV.a0 v1)) ∧ ((Value.int IntKind.u64 (WdV.a1 v) = Value.int IntKind.u64 (WdV.a1 v1)) ∧ ((Value.int IntKind.u64 (WdV.a2 v) = Value.int IntKind.u64 (WdV.a2 v1)) ∧ True))) ∧ ((57 = 57) ∧ (Bool.false = Bool.false))) ∧ ((((Value.int IntKind.i64 (WdV.b0 v) = Value.int IntKind.i64 (WdV.b0 v1)) ∧ ((Value.int IntKind.u64 (WdV.b1 v) = Value.int IntKind.u64 (WdV.b1 v1)) ∧ ((Value.int IntKind.u64 (WdV.b2 v) = Value.int IntKind.u64 (WdV.b2 v1)) ∧ True))) ∧ ((57 = 57) ∧ (Bool.false = Bool.false))) ∧ (((Value.int IntKind.i64 0 = Value.int IntKind.i64 0) ∧ ((Value.int IntKind.u64 0 = Value.int IntKind.u64 0) ∧ ((Value.int IntKind.u64 0 = Value.int IntKind.u64 0) ∧ ((Value.int IntKind.i64 0 = Value.int IntKind.i64 0) ∧ True)))) ∧ ((61 = 61) ∧ (Bool.false = Bool.false)))))))))))) ((((Value.pointer (Option.some { block := 64, off := 0 }) = Value.pointer (Option.some { block := 64, off := 0 })) ∧ ((Value.pointer (Option.some { block := 65, off := 0 }) = Value.pointer (Option.some { block := 65, off := 0 })) ∧ ((Value.pointer (Option.some { block := 66, off := 0 }) = Value.pointer (Option.some { block := 66, off := 0 })) ∧ ((Value.int IntKind.i64 (WdV.m v) = Value.int IntKind.i64 (WdV.m v1)) ∧ ((Value.int IntKind.i64 (IntKind.wrap IntKind.i64 (WdV.n v + 1)) = Value.int IntKind.i64 (WdV.n v1)) ∧ True))))) ∧ ((((Value.int IntKind.i64 (WdV.a0 v) = Value.int IntKind.i64 (WdV.a0 v1)) ∧ ((Value.int IntKind.u64 (WdV.a1 v) = Value.int IntKind.u64 (WdV.a1 v1)) ∧ ((Value.int IntKind.u64 (WdV.a2 v) = Value.int IntKind.u64 (WdV.a2 v1)) ∧ True))) ∧ ((57 = 57) ∧ (Bool.false = Bool.false))) ∧ ((((Value.int IntKind.i64 (WdV.b0 v) = Value.int IntKind.i64 (WdV.b0 v1)) ∧ ((Value.int IntKind.u64 (WdV.b1 v) = Value.int IntKind.u64 (WdV.b1 v1)) ∧ ((Value.int IntKind.u64 (WdV.b2 v) = Value.int IntKind.u64 (WdV.b2 v1)) ∧ True))) ∧ ((57 = 57) ∧ (Bool.false = Bool.false))) ∧ (((Value.int IntKind.i64 0 = Value.int IntKind.i64 0) ∧ ((Value.int IntKind.u64 0 = Value.int IntKind.u64 0) ∧ ((Value.int IntKind.u64 0 = Value.int IntKind.u64 0) ∧ ((Value.int IntKind.i64 0 = Value.int IntKind.i64 0) ∧ True)))) ∧ ((61 = 61) ∧ (Bool.false = Bool.false)))))))))) (Kp)) := by kernel_rfl
theorem vcWd (a0 a1 a2 b0 b1 b2 : Int) (Q : Value → Prop) : codeX Tryz.prog (cwC L77) oxN lxWd (bodyOf Tryz.f77) (inTab [.agg #[.int .i64 a0, .int .u64 a1, .int .u64 a2], .agg #[.int .i64 b0, .int .u64 b1, .int .u64 b2]] 8) (birth [] 64) (retW Tryz.prog Tryz.f77 fun v _ => Q v) = ((∃ x0 : Int, ((addr_Bits.f a0 = Option.some x0) ∧ (∃ x1 : Int, ((quad_Low.f a1 a2 = Option.some x1) ∧ (∃ x2 : WdV, ((((Value.pointer (Option.some { block := 64, off := 0 }) = Value.pointer (Option.some { block := 64, off := 0 })) ∧ ((Value.pointer (Option.some { block := 65, off := 0 }) = Value.pointer (Option.some { block := 65, off := 0 })) ∧ ((Value.pointer (Option.some { block := 66, off := 0 }) = Value.pointer (Option.some { block := 66, off := 0 })) ∧ ((Value.int IntKind.i64 x0 = Value.int IntKind.i64 (WdV.m x2)) ∧ ((Value.int IntKind.i64 (IntKind.wrap IntKind.i64 (x0 - if x0 < x1 then x0 else x1)) = Value.int IntKind.i64 (WdV.n x2)) ∧ True))))) ∧ ((((Value.int IntKind.i64 a0 = Value.int IntKind.i64 (WdV.a0 x2)) ∧ ((Value.int IntKind.u64 a1 = Value.int IntKind.u64 (WdV.a1 x2)) ∧ ((Value.int IntKind.u64 a2 = Value.int IntKind.u64 (WdV.a2 x2)) ∧ True))) ∧ ((2 * 28 + 1 = 57) ∧ (Bool.false = Bool.false))) ∧ ((((Value.int IntKind.i64 b0 = Value.int IntKind.i64 (WdV.b0 x2)) ∧ ((Value.int IntKind.u64 b1 = Value.int IntKind.u64 (WdV.b1 x2)) ∧ ((Value.int IntKind.u64 b2 = Value.int IntKind.u64 (WdV.b2 x2)) ∧ True))) ∧ ((2 * 28 + 1 = 57) ∧ (Bool.false = Bool.false))) ∧ (((Value.int IntKind.i64 0 = Value.int IntKind.i64 0) ∧ ((Value.int IntKind.u64 0 = Value.int IntKind.u64 0) ∧ ((Value.int IntKind.u64 0 = Value.int IntKind.u64 0) ∧ ((Value.int IntKind.i64 0 = Value.int IntKind.i64 0) ∧ True)))) ∧ ((2 * 30 + 1 = 61) ∧ (Bool.false = Bool.false)))))) ∧ (∃ x3 : WdV, ((Star StepWd x2 x3) ∧ bifW (cdec (WdV.n x3 < WdV.m x3)) ((∃ x4 : Bool, ((pref_Ok.f (WdV.a0 x3) (WdV.a1 x3) (WdV.a2 x3) (WdV.n x3) = Option.some x4) ∧ bifW (x4) ((∃ x5 : Int × Int × Int, ((pref_Last.f (WdV.a0 x3) (WdV.a1 x3) (WdV.a2 x3) (WdV.n x3) = Option.some x5) ∧ (∃ x6 : Bool, ((addr_Less.f (WdV.b0 x3) (WdV.b1 x3) (WdV.b2 x3) (Prod.fst x5) (Prod.fst (Prod.snd x5)) (Prod.snd (Prod.snd x5)) = Option.some x6) ∧ bifW (!x6) (Q (Value.agg #[Value.int IntKind.i64 (WdV.a0 x3), Value.int IntKind.u64 (WdV.a1 x3), Value.int IntKind.u64 (WdV.a2 x3), Value.int IntKind.i64 (WdV.n x3)])) (False)))))) (False)))) (Q (Value.agg #[Value.int IntKind.i64 (WdV.a0 x3), Value.int IntKind.u64 (WdV.a1 x3), Value.int IntKind.u64 (WdV.a2 x3), Value.int IntKind.i64 (WdV.m x3)]))))))))))) := by kernel_rfl
end Go.Proofs.YtfnacgojmdbjmaaGreatDoor
end

section
/- rang.widest comes to what it is told to be. No conditions. -/
namespace Go.Proofs.YtfnacgojmdbjmaaGreatDoor
open Go.Det Go.RowKit Go.Proofs.YtfnacgojmdbjmaaGreatDoor.PRD Go.Proofs.YtfnacgojmdbjmaaGreatDoorW.PrintWords
set_option maxRecDepth 100000
theorem wdT {p : Prop} {A B : Prop} (h : p) (k : A) : bifW (cdec p) A B := bifW_c (fun _ => k) (fun q => absurd h q)
theorem wdF {p : Prop} {A B : Prop} (h : ¬ p) (k : B) : bifW (cdec p) A B := bifW_c (fun q => absurd q h) (fun _ => k)
def FinWd (v : WdV) (y : Int × Int × Int × Int) : Prop :=
  (v.n < v.m ∧ pref_Ok.f v.a0 v.a1 v.a2 v.n = some true ∧ ∃ z : Int × Int × Int, pref_Last.f v.a0 v.a1 v.a2 v.n = some z ∧ addr_Less.f v.b0 v.b1 v.b2 z.1 z.2.1 z.2.2 = some false ∧ y = (v.a0, v.a1, v.a2, v.n)) ∨ (¬ v.n < v.m ∧ y = (v.a0, v.a1, v.a2, v.m))
def nextWd (v : WdV) : WdV := ⟨v.a0, v.a1, v.a2, v.b0, v.b1, v.b2, v.m, wrap64 (v.n + 1)⟩
theorem wdStar : ∀ (k : Nat) (v : WdV) (y : Int × Int × Int × Int), rang_widest.l0 k v.m v.n v.a0 v.a1 v.a2 v.b0 v.b1 v.b2 = some y → ∃ v', Star StepWd v v' ∧ FinWd v' y
  | 0, _, _, h => by simp [rang_widest.l0] at h
  | k + 1, v, y, h => by
    unfold rang_widest.l0 at h
    by_cases c : v.n < v.m
    · rw [if_pos c] at h
      obtain ⟨b, e1, h⟩ := Option.bind_eq_some_iff.1 h
      cases b with
      | false =>
        rw [if_neg (by decide)] at h
        obtain ⟨v', hs, hf⟩ := wdStar k (nextWd v) y h
        refine ⟨v', .step ((vcWdB v (nextWd v) False).mpr (wdT c ⟨false, e1, ?_⟩)) hs, hf⟩
        simp only [wrapE]
        show _ ∧ _
        repeat' (first | rfl | exact True.intro | refine And.intro ?_ ?_)
      | true =>
        rw [if_pos rfl] at h
        obtain ⟨z, e2, h⟩ := Option.bind_eq_some_iff.1 h
        obtain ⟨d, e3, h⟩ := Option.bind_eq_some_iff.1 h
        cases d with
        | false =>
          rw [if_neg (by decide)] at h
          cases h
          exact ⟨v, .refl v, Or.inl ⟨c, e1, z, e2, e3, rfl⟩⟩
        | true =>
          rw [if_pos rfl] at h
          obtain ⟨v', hs, hf⟩ := wdStar k (nextWd v) y h
          refine ⟨v', .step ((vcWdB v (nextWd v) False).mpr (wdT c ⟨true, e1, z, e2, true, e3, ?_⟩)) hs, hf⟩
          simp only [wrapE]
          show _ ∧ _
          repeat' (first | rfl | exact True.intro | refine And.intro ?_ ?_)
    · rw [if_neg c] at h
      cases h
      exact ⟨v, .refl v, Or.inr ⟨c, rfl⟩⟩
noncomputable def enr77 (y : Int × Int × Int × Int) : Value := .agg #[.int .i64 y.1, .int .u64 y.2.1, .int .u64 y.2.2.1, .int .i64 y.2.2.2]
noncomputable def F77 (k : Nat) (x : Int × Int × Int × Int × Int × Int) : Option (Int × Int × Int × Int) := rang_widest.f k x.1 x.2.1 x.2.2.1 x.2.2.2.1 x.2.2.2.2.1 x.2.2.2.2.2
noncomputable def con77 (k : Nat) : Con := Con.opt dec75 (F77 k) enr77
theorem w77 (k : Nat) (x : Int × Int × Int × Int × Int × Int) (y : Int × Int × Int × Int) (hx : F77 k x = some y) : codeW Tryz.prog (cwC L77) (bodyOf Tryz.f77) (inTab (enc75 x) 8) (birth [] 64) (retW Tryz.prog Tryz.f77 fun v' _ => v' = enr77 y) := by
  obtain ⟨a, b, c, d, e, f⟩ := x
  unfold F77 rang_widest.f at hx
  obtain ⟨m, e1, hx⟩ := Option.bind_eq_some_iff.1 hx
  obtain ⟨n, e2, hx⟩ := Option.bind_eq_some_iff.1 hx
  obtain ⟨v', hs, hf⟩ := wdStar k ⟨a, b, c, d, e, f, m, wrap64 (m - mn n m)⟩ y hx
  refine codeX_codeW (cwC_mono L77) oxN_ok _ lxWd_ok ((vcWd a b c d e f _).mpr ⟨m, e1, n, e2, ⟨a, b, c, d, e, f, m, wrap64 (m - mn n m)⟩, ?_, v', hs, ?_⟩)
  · simp only [wrapE]
    repeat' (first | rfl | exact True.intro | refine And.intro ?_ ?_)
  · rcases hf with ⟨q, f1, z, f2, f3, rfl⟩ | ⟨q, rfl⟩
    · exact wdT q ⟨true, f1, z, f2, false, f3, rfl⟩
    · exact wdF q rfl
theorem om77 {W : World} (hW : GoodW W) (k : Nat) : OwnAll Tryz.prog W 6 77 (con77 k).own :=
  con_opt enc75 (Laying.empty hW.size) hW.size (by decide) dt_mixed (OwnsAll.con (om69 hW) (OwnsAll.con (om97 hW) (OwnsAll.con (om22 hW) (OwnsAll.con (om24 hW) (OwnsAll.con (om75 hW) (ownsAll_nil W 6)))))) Tryz.func77 (fn := Tryz.f77) (c := bodyOf Tryz.f77) (by kernel_rfl) (by kernel_rfl) (fun _ _ h => dec75_enc h) (fun a => ⟨rfl, (by kernel_rfl)⟩) (fun b => rfl) (w77 k)
end Go.Proofs.YtfnacgojmdbjmaaGreatDoor
namespace Go.Proofs.YtfnacgojmdbjmaaGreatDoor.PRD
open Go.Det Go.RowKit Go.Proofs.YtfnacgojmdbjmaaGreatDoor Go.Proofs.YtfnacgojmdbjmaaGreatDoorW.PrintWords
theorem rang_widest.calls (k : Nat) (a0_0 : Int) (a0_1 : Int) (a0_2 : Int) (a1_0 : Int) (a1_1 : Int) (a1_2 : Int) (r1 : Int) (r2 : Int) (r3 : Int) (r4 : Int) (w : World) (hG : GoodW w) (h : rang_widest.f k a0_0 a0_1 a0_2 a1_0 a1_1 a1_2 = some (r1, r2, r3, r4)) :
    Calls Tryz.prog 77 #[.agg #[.int .i64 a0_0, .int .u64 a0_1, .int .u64 a0_2], .agg #[.int .i64 a1_0, .int .u64 a1_1, .int .u64 a1_2]] w fun e w' => e = .returned (.agg #[.int .i64 r1, .int .u64 r2, .int .u64 r3, .int .i64 r4]) ∧ Below w.heap.size w w' :=
  calls_of_own (fn := Tryz.f77) (c := bodyOf Tryz.f77) (om77 hG k) hG Tryz.func77 (by kernel_rfl) (by kernel_rfl) (args := enc75 (a0_0, a0_1, a0_2, a1_0, a1_1, a1_2)) (v := .agg #[.int .i64 r1, .int .u64 r2, .int .u64 r3, .int .i64 r4]) (opt_own (dec := dec75) (enc := enr77) (a := (a0_0, a0_1, a0_2, a1_0, a1_1, a1_2)) (b := (r1, r2, r3, r4)) rfl h _) rfl rfl (by intro h; cases h)
end Go.Proofs.YtfnacgojmdbjmaaGreatDoor.PRD
end

section
/- rang.widest's word is another text's. -/
end
