/- Texts of a proof, joined: words of the print (those that are named here) and printed functions. -/
import Derived.Test.YtfnacgojmdbjmaaDoorBk8
import Derived.Test.YtfnacgojmdbjmaaDoorBk5
import Derived.Test.YtfnacgojmdbjmaaDoorBk3
import Derived.Lib.TrailingZeros
set_option linter.unusedSimpArgs false
set_option linter.unusedVariables false

section
/- Conditions, reckoned by the kernel. -/
namespace Go.Proofs.YtfnacgojmdbjmaaDoor
open Go.Det Go.RowKit  Go.Proofs.YtfnacgojmdbjmaaDoorW.PrintWords
set_option maxRecDepth 100000
abbrev zy (Q : Value → Prop) (l : List Int) (p : Int × Int) (a b : List Int) : Prop := (zerosF l PUnit.unit = some p) ∧ (true = true ∧ (∃ x : ByteArray, (textF a PUnit.unit = some x) ∧ ((ByteArray.size x + ByteArray.size { data := #[58, 58] } ≤ 9223372036854775807) ∧ (∃ y : ByteArray, (textF b PUnit.unit = some y) ∧ ((ByteArray.size (x ++ { data := #[58, 58] }) + ByteArray.size y ≤ 9223372036854775807) ∧ Q (Value.string (x ++ { data := #[58, 58] } ++ y)))))))
theorem vp31 (v a b : Int) (Q : Value → Prop) : codeU Tryd.prog (cwC []) (oxE []) 1 (bodyOf Tryd.f31) (inTab [.agg #[.int .i64 v, .int .u64 a, .int .u64 b]] 8) (birth [] 64) (retW Tryd.prog Tryd.f31 fun v _ => Q v) = (bifW (cdec (v = 6)) (Q (Value.bool true)) (bifW (cdec (v = 4)) (bifW (cdec (a = 0)) (Q (Value.bool (cdec (b < 4294967296)))) (Q (Value.bool false))) (Q (Value.bool false)))) := by kernel_rfl
theorem vp26 (v a b : Int) (Q : Value → Prop) : codeU Tryd.prog (cwC Lpr) (oxE [17, 41]) 5 (bodyOf Tryd.f26) (inTab [.agg #[.int .i64 v, .int .u64 a, .int .u64 b]] 8) (birth [] 64) (retW Tryd.prog Tryd.f26 fun v _ => Q v) = ((∃ x0 : Bool, ((okF v a b = some x0) ∧ bifW (!x0) (Q (Value.string { data := #[] })) (bifW (cdec (v = 4)) (((true = true) ∧ (((0 : Int) ≤ 24) ∧ (∃ x1 : ByteArray, ((txtF (andI .u64 (shrI .u64 b 24) 255) = some x1) ∧ ((true = true) ∧ (((0 : Int) ≤ 16) ∧ (∃ x2 : ByteArray, ((txtF (andI .u64 (shrI .u64 b (16)) 255) = some x2) ∧ ((true = true) ∧ (((0 : Int) ≤ 8) ∧ (∃ x3 : ByteArray, ((txtF (andI .u64 (shrI .u64 b (8)) 255) = some x3) ∧ ((true = true) ∧ (((0 : Int) ≤ 0) ∧ (∃ x4 : ByteArray, ((txtF (andI .u64 (shrI .u64 b (0)) 255) = some x4) ∧ ((true = true) ∧ (∃ x5 : ByteArray, ((joinF [x1, x2, x3, x4] { data := #[46] } = some x5) ∧ Q (Value.string x5))))))))))))))))))))) ((∃ x1 : Int, (∃ x2 : Int, (∃ x3 : Int, (∃ x4 : Int, (∃ x5 : Int, (∃ x6 : Int, (∃ x7 : Int, (∃ x8 : Int, ((partsI (a, b) = some [x1, x2, x3, x4, x5, x6, x7, x8]) ∧ (((zerosF [x1, x2, x3, x4, x5, x6, x7, x8] PUnit.unit = some (0, 0)) ∧ ((true = true) ∧ (∃ x9 : ByteArray, ((textF [x1, x2, x3, x4, x5, x6, x7, x8] PUnit.unit = some x9) ∧ Q (Value.string x9))))) ∨ ((zy Q [x1, x2, x3, x4, x5, x6, x7, x8] (0, 2) [] [x3, x4, x5, x6, x7, x8]) ∨ ((zy Q [x1, x2, x3, x4, x5, x6, x7, x8] (0, 3) [] [x4, x5, x6, x7, x8]) ∨ ((zy Q [x1, x2, x3, x4, x5, x6, x7, x8] (0, 4) [] [x5, x6, x7, x8]) ∨ ((zy Q [x1, x2, x3, x4, x5, x6, x7, x8] (0, 5) [] [x6, x7, x8]) ∨ ((zy Q [x1, x2, x3, x4, x5, x6, x7, x8] (0, 6) [] [x7, x8]) ∨ ((zy Q [x1, x2, x3, x4, x5, x6, x7, x8] (0, 7) [] [x8]) ∨ ((zy Q [x1, x2, x3, x4, x5, x6, x7, x8] (0, 8) [] []) ∨ ((zy Q [x1, x2, x3, x4, x5, x6, x7, x8] (1, 3) [x1] [x4, x5, x6, x7, x8]) ∨ ((zy Q [x1, x2, x3, x4, x5, x6, x7, x8] (1, 4) [x1] [x5, x6, x7, x8]) ∨ ((zy Q [x1, x2, x3, x4, x5, x6, x7, x8] (1, 5) [x1] [x6, x7, x8]) ∨ ((zy Q [x1, x2, x3, x4, x5, x6, x7, x8] (1, 6) [x1] [x7, x8]) ∨ ((zy Q [x1, x2, x3, x4, x5, x6, x7, x8] (1, 7) [x1] [x8]) ∨ ((zy Q [x1, x2, x3, x4, x5, x6, x7, x8] (1, 8) [x1] []) ∨ ((zy Q [x1, x2, x3, x4, x5, x6, x7, x8] (2, 4) [x1, x2] [x5, x6, x7, x8]) ∨ ((zy Q [x1, x2, x3, x4, x5, x6, x7, x8] (2, 5) [x1, x2] [x6, x7, x8]) ∨ ((zy Q [x1, x2, x3, x4, x5, x6, x7, x8] (2, 6) [x1, x2] [x7, x8]) ∨ ((zy Q [x1, x2, x3, x4, x5, x6, x7, x8] (2, 7) [x1, x2] [x8]) ∨ ((zy Q [x1, x2, x3, x4, x5, x6, x7, x8] (2, 8) [x1, x2] []) ∨ ((zy Q [x1, x2, x3, x4, x5, x6, x7, x8] (3, 5) [x1, x2, x3] [x6, x7, x8]) ∨ ((zy Q [x1, x2, x3, x4, x5, x6, x7, x8] (3, 6) [x1, x2, x3] [x7, x8]) ∨ ((zy Q [x1, x2, x3, x4, x5, x6, x7, x8] (3, 7) [x1, x2, x3] [x8]) ∨ ((zy Q [x1, x2, x3, x4, x5, x6, x7, x8] (3, 8) [x1, x2, x3] []) ∨ ((zy Q [x1, x2, x3, x4, x5, x6, x7, x8] (4, 6) [x1, x2, x3, x4] [x7, x8]) ∨ ((zy Q [x1, x2, x3, x4, x5, x6, x7, x8] (4, 7) [x1, x2, x3, x4] [x8]) ∨ ((zy Q [x1, x2, x3, x4, x5, x6, x7, x8] (4, 8) [x1, x2, x3, x4] []) ∨ ((zy Q [x1, x2, x3, x4, x5, x6, x7, x8] (5, 7) [x1, x2, x3, x4, x5] [x8]) ∨ ((zy Q [x1, x2, x3, x4, x5, x6, x7, x8] (5, 8) [x1, x2, x3, x4, x5] []) ∨ ((zy Q [x1, x2, x3, x4, x5, x6, x7, x8] (6, 8) [x1, x2, x3, x4, x5, x6] []) ∨ False))))))))))))))))))))))))))))))))))))))))))) := by kernel_rfl
end Go.Proofs.YtfnacgojmdbjmaaDoor
end

section
/- addr.Print: what it answers; addr.Ok. No conditions. -/
namespace Go.Proofs.YtfnacgojmdbjmaaDoor
open Go.Det Go.RowKit Go.Proofs.YtfnacgojmdbjmaaDoorW.PrintWords Go.Proofs.YtfnacgojmdbjmaaDoor.PPH
set_option maxRecDepth 100000
theorem w31 (x : Int × Int × Int) (y : Bool) (hx : okF x.1 x.2.1 x.2.2 = some y) : codeW Tryd.prog (cwC []) (bodyOf Tryd.f31) (inTab [.agg #[.int .i64 x.1, .int .u64 x.2.1, .int .u64 x.2.2]] 8) (birth [] 64) (retW Tryd.prog Tryd.f31 fun v' _ => v' = enB y) := by
  obtain ⟨v, a, b⟩ := x
  refine codeU_codeW (cwC_mono _) (oxE_ok _) (n := 1) (by kernel_rfl) ((vp31 v a b _).mpr ?_)
  unfold okF at hx
  simp only at hx
  repeat' first
    | ((refine bifW_c (fun hc => ?_) (fun hc => ?_)) <;> first | rw [if_pos hc] at hx | rw [if_neg hc] at hx)
    | (cases hx; rfl)
    | (cases hx; simp only [enB, cdec_eq])
theorem om31 {W : World} (hW : GoodW W) : OwnAll Tryd.prog W 6 31 con31.own :=
  con_opt (fun x : Int × Int × Int => [.agg #[.int .i64 x.1, .int .u64 x.2.1, .int .u64 x.2.2]]) (Laying.empty hW.size) hW.size (by decide) dt_mixed (ownsAll_nil W 6) Tryd.func31 (fn := Tryd.f31) (c := bodyOf Tryd.f31) (by kernel_rfl) (by kernel_rfl) (fun _ _ h => decA_enc h) (fun a => ⟨rfl, (by kernel_rfl)⟩) (fun b => rfl) w31
def grp (a b : Int) : List Int := partL a ++ partL b
def dotB : ByteArray := { data := #[46] }
def colB : ByteArray := { data := #[58, 58] }
def pr4 (b : Int) : Option ByteArray := (txtF (andI .u64 (shrI .u64 b 24) 255)).bind fun x1 => (txtF (andI .u64 (shrI .u64 b 16) 255)).bind fun x2 => (txtF (andI .u64 (shrI .u64 b 8) 255)).bind fun x3 => (txtF (andI .u64 (shrI .u64 b 0) 255)).bind fun x4 => joinF [x1, x2, x3, x4] dotB
def pr6 (G : List Int) (ij : Int × Int) : Option ByteArray :=
  if ij = (0, 0) then textF G () else if ij ∈ zpairs then (textF (G.take ij.1.toNat) ()).bind fun s => (textF (G.drop ij.2.toNat) ()).bind fun t => if s.size + 2 + t.size ≤ 1000 then some (s ++ colB ++ t) else none else none
def prF (v a b : Int) : Option ByteArray :=
  (okF v a b).bind fun ok => if ok = true then (if v = 4 then pr4 b else (zerosF (grp a b) ()).bind fun ij => pr6 (grp a b) ij) else some ByteArray.empty
theorem w26 (x : Int × Int × Int) (y : ByteArray) (hx : prF x.1 x.2.1 x.2.2 = some y) : codeW Tryd.prog (cwC Lpr) (bodyOf Tryd.f26) (inTab [.agg #[.int .i64 x.1, .int .u64 x.2.1, .int .u64 x.2.2]] 8) (birth [] 64) (retW Tryd.prog Tryd.f26 fun v' _ => v' = enS y) := by
  obtain ⟨v, a, b⟩ := x
  refine codeU_codeW (cwC_mono _) (oxE_ok _) (n := 5) (by kernel_rfl) ((vp26 v a b _).mpr ?_)
  unfold prF at hx
  simp only at hx
  obtain ⟨ok, hok, hx⟩ := Option.bind_eq_some_iff.1 hx
  refine ⟨ok, hok, bifW_n (fun h => ?_) (fun h => ?_)⟩
  rotate_left
  · rw [if_neg h] at hx; cases hx; rfl
  rw [if_pos h] at hx
  refine bifW_c (fun h4 => ?_) (fun h4 => ?_)
  · rw [if_pos h4] at hx
    unfold pr4 at hx
    obtain ⟨x1, h1, hx⟩ := Option.bind_eq_some_iff.1 hx
    obtain ⟨x2, h2, hx⟩ := Option.bind_eq_some_iff.1 hx
    obtain ⟨x3, h3, hx⟩ := Option.bind_eq_some_iff.1 hx
    obtain ⟨x4, h4, hx⟩ := Option.bind_eq_some_iff.1 hx
    exact ⟨rfl, by decide, x1, h1, rfl, by decide, x2, h2, rfl, by decide, x3, h3, rfl, by decide, x4, h4, rfl, y, hx, rfl⟩
  · rw [if_neg h4] at hx
    obtain ⟨ij, hz, hx⟩ := Option.bind_eq_some_iff.1 hx
    refine ⟨_, _, _, _, _, _, _, _, rfl, ?_⟩
    unfold pr6 at hx
    split at hx
    · rename_i he
      subst he
      exact .inl ⟨hz, rfl, y, hx, rfl⟩
    · split at hx
      case isFalse => cases hx
      rename_i h0 hm
      obtain ⟨s, hs, hx⟩ := Option.bind_eq_some_iff.1 hx
      obtain ⟨t, ht, hx⟩ := Option.bind_eq_some_iff.1 hx
      split at hx
      case isFalse => cases hx
      rename_i hsz
      cases hx
      have e1 : s.size + ByteArray.size { data := #[58, 58] } ≤ 9223372036854775807 := by
        have : ByteArray.size { data := #[58, 58] } = 2 := rfl
        omega
      have e2 : (s ++ ({ data := #[58, 58] } : ByteArray)).size + t.size ≤ 9223372036854775807 := by
        have : ByteArray.size { data := #[58, 58] } = 2 := rfl
        rw [ByteArray.size_append]
        omega
      simp only [zpairs, List.mem_cons, List.not_mem_nil, or_false] at hm
      rcases hm with rfl | hm
      · exact absurd rfl h0
      refine .inr ?_
      repeat' (rcases hm with rfl | hm)
      all_goals (repeat' (first | exact Or.inl ⟨hz, rfl, s, hs, e1, t, ht, e2, rfl⟩ | exact ⟨hz, rfl, s, hs, e1, t, ht, e2, rfl⟩ | refine Or.inr ?_))
noncomputable def con26 : Con := Con.opt decA (fun x => prF x.1 x.2.1 x.2.2) enS
theorem ownPr {W : World} (hW : GoodW W) : OwnsAll Tryd.prog W 6 (extC Lpr) :=
  OwnsAll.con (om31 hW) (OwnsAll.con (om54 hW) (OwnsAll.con (om55 hW) (OwnsAll.con (c := con56n) (om56 hW) (OwnsAll.con (c := con57) (om57 hW) (OwnsAll.con (c := con58) (om58 hW) (ownsAll_nil W 6))))))
theorem om26 {W : World} (hW : GoodW W) : OwnAll Tryd.prog W 6 26 con26.own :=
  con_opt (fun x : Int × Int × Int => [.agg #[.int .i64 x.1, .int .u64 x.2.1, .int .u64 x.2.2]]) (Laying.empty hW.size) hW.size (by decide) dt_mixed (ownPr hW) Tryd.func26 (fn := Tryd.f26) (c := bodyOf Tryd.f26) (by kernel_rfl) (by kernel_rfl) (fun _ _ h => decA_enc h) (fun a => ⟨rfl, (by kernel_rfl)⟩) (fun b => rfl) w26
end Go.Proofs.YtfnacgojmdbjmaaDoor
end

section
/- Printed by a program of this claim: Go functions as plain Lean functions, and that their calls come to them. -/
namespace Go.Proofs.YtfnacgojmdbjmaaDoor.PPH
open Go.RowKit Go.Proofs.YtfnacgojmdbjmaaDoorW.PrintWords Go.Proofs.YtfnacgojmdbjmaaDoorW.PrintLast Go.Proofs.YtfnacgojmdbjmaaDoorW.PrintMore
attribute [local go_sem] max2_int min2_int max_two min_two max_three min_three max_four min_four
open Go.Det (inQ M64 M128 qn addN highN clampN)
set_option linter.unusedVariables false
set_option linter.unusedSimpArgs false
def quad_high.f (a0 : Int) : Option (Int) := some ((highN (clampN a0 64) : Nat) : Int)
def gleberef1_Mask.l0 : Nat → Int → Int → Int → Int → Option (Int × Int)
  | 0, _, _, _, _ => none
  | k + 1, x0, x4, x224000, x224001 => if x4 < x0 then (if x4 < 64 then (if 0 ≤ (IntKind.u64.wrap (wrap64 (63 - x4))) then (gleberef1_Mask.l0 k x0 (wrap64 (x4 + 1)) (Go.bits .or .u64 x224000 (shl .u64 1 (IntKind.u64.wrap (wrap64 (63 - x4))))) x224001) else (none)) else (if 0 ≤ (IntKind.u64.wrap (wrap64 (127 - x4))) then (gleberef1_Mask.l0 k x0 (wrap64 (x4 + 1)) x224000 (Go.bits .or .u64 x224001 (shl .u64 1 (IntKind.u64.wrap (wrap64 (127 - x4)))))) else (none))) else (some (x224000, x224001))
def gleberef1_Mask.f (k : Nat) (a0 : Int) : Option (Int × Int) := gleberef1_Mask.l0 k (mn (mx a0 0) 128) 0 0 0
def glebelaw2_Addr.l0 : Nat → Int → Int → Int → Int → Option (Int × Int × Int)
  | 0, _, _, _, _ => none
  | k + 1, x0, x8, x103000, x103001 => if x8 < 8 then (if 0 ≤ (IntKind.u64.wrap (wrap64 (x8 + 1))) then (if (Go.bits .and .i64 (shr .i64 x0 (IntKind.u64.wrap (wrap64 (x8 + 1)))) 1) = 1 then (if x8 < 4 then (if 0 ≤ (IntKind.u64.wrap (wrap64 (16 * x8))) then (glebelaw2_Addr.l0 k x0 (wrap64 (x8 + 1)) (Go.bits .andNot .u64 x103000 (shl .u64 65535 (IntKind.u64.wrap (wrap64 (16 * x8))))) x103001) else (none)) else (if 0 ≤ (IntKind.u64.wrap (wrap64 (16 * (wrap64 (x8 - 4))))) then (glebelaw2_Addr.l0 k x0 (wrap64 (x8 + 1)) x103000 (Go.bits .andNot .u64 x103001 (shl .u64 65535 (IntKind.u64.wrap (wrap64 (16 * (wrap64 (x8 - 4)))))))) else (none))) else (glebelaw2_Addr.l0 k x0 (wrap64 (x8 + 1)) x103000 x103001)) else (none)) else (some (6, x103000, x103001))
def glebelaw2_Addr.f (k : Nat) (a0 : Int) (a1 : Int) (a2 : Int) : Option (Int × Int × Int) := if (Go.bits .and .i64 a0 1) = 0 then (if 0 ≤ (IntKind.u64.wrap (wrap64 ((Go.bits .and .i64 (a0 / 2) 3) * 8))) then (some (4, 0, shr .u64 (Go.bits .and .u64 a1 4294967295) (IntKind.u64.wrap (wrap64 ((Go.bits .and .i64 (a0 / 2) 3) * 8))))) else (none)) else (glebelaw2_Addr.l0 k a0 0 a1 a2)
set_option maxHeartbeats 8000000 in
set_option maxRecDepth 100000 in
theorem glebelaw2_Addr.calls (k : Nat) (a0 : Int) (a1 : Int) (a2 : Int) (r1 : Int) (r2 : Int) (r3 : Int) (w : World) (hG : GoodW w) (h : glebelaw2_Addr.f k a0 a1 a2 = some (r1, r2, r3)) :
    Calls Tryd.prog 28 #[.int .i64 a0, .int .u64 a1, .int .u64 a2] w fun e w' => e = .returned (.agg #[.int .i64 r1, .int .u64 r2, .int .u64 r3]) ∧ Below w.heap.size w w' := by
  have hu46 := Tryd.underlying46
  have hu29 := Tryd.underlying29
  have HB := Aside0.mk (Below.refl w.heap.size w)
  have H : (if (Go.bits .and .i64 a0 1) = 0 then (if 0 ≤ (IntKind.u64.wrap (wrap64 ((Go.bits .and .i64 (a0 / 2) 3) * 8))) then (some (4, 0, shr .u64 (Go.bits .and .u64 a1 4294967295) (IntKind.u64.wrap (wrap64 ((Go.bits .and .i64 (a0 / 2) 3) * 8))))) else (none)) else (glebelaw2_Addr.l0 k a0 0 a1 a2)) = some (r1, r2, r3) := h
  clear h
  by_cases c4 : (Go.bits .and .i64 a0 1) = 0
  · rw [if_pos c4] at H
    have c4b0 : ((Go.bits .and .i64 a0 1) == 0) = true := beq_iff_eq.mpr c4
    have c4b1 : ((Go.bits .and .i64 a0 1) != 0) = false := bne_eq_false_iff_eq.mpr c4
    clear c4
    obtain ⟨ji5, hji5⟩ : ∃ j_ : Int, (IntKind.u64.wrap (wrap64 ((Go.bits .and .i64 (a0 / 2) 3) * 8))) = j_ := ⟨_, rfl⟩
    replace H : (if 0 ≤ (ji5) then (some (4, 0, shr .u64 (Go.bits .and .u64 a1 4294967295) (ji5))) else (none)) = some (r1, r2, r3) := by first | (rw [hji5] at H; exact H) | (simp only [hji5] at H ⊢; exact H)
    by_cases c6 : 0 ≤ (ji5)
    · rw [if_pos c6] at H
      have c6b0 := eq_true c6
      have c6b1 : decide (0 ≤ (ji5)) = true := decide_eq_true c6
      clear c6
      obtain ⟨ji7, hji7⟩ : ∃ j_ : Int, (shr .u64 (Go.bits .and .u64 a1 4294967295) (ji5)) = j_ := ⟨_, rfl⟩
      replace H : (some (4, 0, ji7)) = some (r1, r2, r3) := by first | (rw [hji7] at H; exact H) | (simp only [hji7] at H ⊢; exact H)
      have hji7_ : ((Go.bits .and .u64 a1 4294967295) / 2 ^ min (ji5).toNat 64) = ji7 := hji7
      have hji7z : (ji5) ≤ 64 → ((Go.bits .and .u64 a1 4294967295) / 2 ^ (ji5).toNat) = ji7 := shr_small hji7
      simp only [Option.some.injEq, Prod.mk.injEq] at H
      obtain ⟨rfl, rfl, rfl⟩ := H
      go_enter Tryd.func28, Tryd.ntmps28
      go_wp2_with (first | ((with_reducible refine gate_dst (N := 6) rfl ?_); refine box_event ?hg (N := 6) ?hd (cs := #[.int .i64 0, .int .u64 0, .int .u64 0]) (t := 46) ?hr ?_; (case hd => rfl); (case hg => rfl); (case hr => first | (go_simp; done) | (go_simp; rfl)); intro gb101 hg w8 hbox hb; have n0_ := Aside0.mk (below_step (by repeat (first | (with_reducible first | exact HB.out | apply below_alloc | apply pw_below_drewN | apply below_drew1) | exact HB.out)) hb); have n1_ := Aside0.mk (hbox); have n2_ := Aside0.mk ((by rw [hg]; exact (below_size (by repeat (first | (with_reducible first | exact HB.out | apply below_alloc | apply pw_below_drewN | apply below_drew1) | exact HB.out))) : w.heap.size ≤ gb101)); have n3_ := Aside0.mk ((by rw [hg]; exact (below_size (by repeat (first | (with_reducible first | exact HB.out | apply below_alloc | apply pw_below_drewN | apply below_drew1) | exact HB.out))) : w.heap.size ≤ gb101)); clear HB; have HB := n0_; have BK101 := n1_; have GW101 := n2_; have GE101 := n3_; clear n0_ n1_ n2_ n3_; clear hb hbox hg; have hcz9_0 : w8.cell? ⟨gb101, 0, none⟩ = some (.int .i64 0) := (blk_cell BK101.out 0).trans rfl; have hcz9_1 : w8.cell? ⟨gb101, 1, none⟩ = some (.int .u64 0) := (blk_cell BK101.out 1).trans rfl; have hcz9_2 : w8.cell? ⟨gb101, 2, none⟩ = some (.int .u64 0) := (blk_cell BK101.out 2).trans rfl; have hfz9_0 := blk_frozen BK101.out 0; have hfz9_1 := blk_frozen BK101.out 1; have hfz9_2 := blk_frozen BK101.out 2))
      refine bodyPost_ret (results_cell_row rfl _ _ gb101 46 #[.int .i64 4, .int .u64 0, .int .u64 ji7] (0, 0) _ rfl (by (with_reducible repeat (first | refine blk_drewN ?_ _ | refine blk_drew ?_ | refine blk_alloc ?_ _)); refine blk_put (cs := #[.int .i64 4, .int .u64 0, .int .u64 0]) ?_ 2 _ rfl; (with_reducible repeat (first | refine blk_drewN ?_ _ | refine blk_drew ?_ | refine blk_alloc ?_ _)); refine blk_put (cs := #[.int .i64 4, .int .u64 0, .int .u64 0]) ?_ 1 _ rfl; (with_reducible repeat (first | refine blk_drewN ?_ _ | refine blk_drew ?_ | refine blk_alloc ?_ _)); refine blk_put (cs := #[.int .i64 0, .int .u64 0, .int .u64 0]) ?_ 0 _ rfl; (with_reducible repeat (first | refine blk_drewN ?_ _ | refine blk_drew ?_ | refine blk_alloc ?_ _)); exact BK101.out) Tryd.underlying46 rfl (by kernel_rfl)) rfl ?_
      exact ⟨by first | rfl | (simp [errW_none, errW_some] <;> rfl) | (simp only [← hji5, ← hji7]; first | rfl | (simp [errW_none, errW_some] <;> rfl)) | (simp [*, errW_none, errW_some] <;> rfl), by repeat (first | (with_reducible first | exact HB.out | apply below_alloc | apply pw_below_drewN | apply below_drew1 | refine below_set ?_ GE101.out) | exact HB.out)⟩
    · rw [if_neg c6] at H
      exact absurd H (by simp)
  · rw [if_neg c4] at H
    have c4b0 : ((Go.bits .and .i64 a0 1) == 0) = false := beq_eq_false_iff_ne.mpr c4
    have c4b1 : ((Go.bits .and .i64 a0 1) != 0) = true := bne_iff_ne.mpr c4
    have H' := Aside0.mk H
    clear H
    go_enter Tryd.func28, Tryd.ntmps28
    go_wp2_with (first | ((with_reducible refine gate_dst (N := 6) rfl ?_); refine box_event ?hg (N := 6) ?hd (cs := #[.int .i64 0, .int .u64 0, .int .u64 0]) (t := 46) ?hr ?_; (case hd => rfl); (case hg => rfl); (case hr => first | (go_simp; done) | (go_simp; rfl)); intro gb101 hg w10 hbox hb; have n0_ := Aside0.mk (below_step (by repeat (first | (with_reducible first | exact HB.out | apply below_alloc | apply pw_below_drewN | apply below_drew1) | exact HB.out)) hb); have n1_ := Aside0.mk (hbox); have n2_ := Aside0.mk ((by rw [hg]; exact (below_size (by repeat (first | (with_reducible first | exact HB.out | apply below_alloc | apply pw_below_drewN | apply below_drew1) | exact HB.out))) : w.heap.size ≤ gb101)); have n3_ := Aside0.mk ((by rw [hg]; exact (below_size (by repeat (first | (with_reducible first | exact HB.out | apply below_alloc | apply pw_below_drewN | apply below_drew1) | exact HB.out))) : w.heap.size ≤ gb101)); clear HB; have HB := n0_; have BK101 := n1_; have GW101 := n2_; have GE101 := n3_; clear n0_ n1_ n2_ n3_; clear hb hbox hg) | ((with_reducible refine gate_dst (N := 7) rfl ?_); refine box_event ?hg (N := 7) ?hd (cs := #[.int .u64 0, .int .u64 0]) (t := 29) ?hr ?_; (case hd => rfl); (case hg => rfl); (case hr => first | (go_simp; done) | (go_simp; rfl)); intro gb102 hg w11 hbox hb; have n0_ := Aside0.mk (blk_below (g := gb101) (o := .cells #[.int .i64 0, .int .u64 0, .int .u64 0] 46 (0, 0)) (by (with_reducible repeat (first | refine blk_drewN ?_ _ | refine blk_drew ?_ | refine blk_alloc ?_ _)); exact BK101.out) hb); have n1_ := Aside0.mk (below_step (by repeat (first | (with_reducible first | exact HB.out | apply below_alloc | apply pw_below_drewN | apply below_drew1 | refine below_set ?_ GE101.out) | exact HB.out)) hb); have n2_ := Aside0.mk (hbox); have n3_ := Aside0.mk ((by rw [hg]; exact (below_size (by repeat (first | (with_reducible first | exact HB.out | apply below_alloc | apply pw_below_drewN | apply below_drew1 | refine below_set ?_ GE101.out) | exact HB.out))) : w.heap.size ≤ gb102)); have n4_ := Aside0.mk ((by rw [hg]; exact (below_size (by repeat (first | (with_reducible first | exact HB.out | apply below_alloc | apply pw_below_drewN | apply below_drew1 | refine below_set ?_ GE101.out) | exact HB.out))) : w.heap.size ≤ gb102)); have n5_ := Aside0.mk ((by rw [hg]; exact Nat.ne_of_lt (blk_lt (g := gb101) (o := .cells #[.int .i64 0, .int .u64 0, .int .u64 0] 46 (0, 0)) (by (with_reducible repeat (first | refine blk_drewN ?_ _ | refine blk_drew ?_ | refine blk_alloc ?_ _)); exact BK101.out)) : gb101 ≠ gb102)); have n6_ := Aside0.mk ((by rw [hg]; exact Nat.ne_of_gt (blk_lt (g := gb101) (o := .cells #[.int .i64 0, .int .u64 0, .int .u64 0] 46 (0, 0)) (by (with_reducible repeat (first | refine blk_drewN ?_ _ | refine blk_drew ?_ | refine blk_alloc ?_ _)); exact BK101.out)) : gb102 ≠ gb101)); clear BK101; clear HB; have BK101 := n0_; have HB := n1_; have BK102 := n2_; have GW102 := n3_; have GE102 := n4_; have NB101_102 := n5_; have NB102_101 := n6_; clear n0_ n1_ n2_ n3_ n4_ n5_ n6_; clear hb hbox hg; have hnb12 := NB102_101.out; have hnc12 := NB101_102.out; have hcz13_0 : w11.cell? ⟨gb102, 0, none⟩ = some (.int .u64 0) := (blk_cell BK102.out 0).trans rfl; have hcz13_1 : w11.cell? ⟨gb102, 1, none⟩ = some (.int .u64 0) := (blk_cell BK102.out 1).trans rfl; have hfz13_0 := blk_frozen BK102.out 0; have hfz13_1 := blk_frozen BK102.out 1))
    go_loopg [8] k (fun kq v8 w' => ∃ (x8_1 : Int) (x103000_1 : Int) (x103001_1 : Int), v8 = .int .i64 x8_1 ∧ Aside0 (glebelaw2_Addr.l0 kq a0 x8_1 x103000_1 x103001_1 = some (r1, r2, r3)) ∧ Aside0 (kq ≤ k) ∧ Aside0 (w'.heap[gb101]? = some (.cells #[.int .i64 0, .int .u64 0, .int .u64 0] 46 (0, 0))) ∧ Aside0 (w'.heap[gb102]? = some (.cells #[.int .u64 x103000_1, .int .u64 x103001_1] 29 (0, 0))) ∧ Aside0 (Below w.heap.size w w'))
    case atStart => exact ⟨(0), (a1), (a2), (by first | rfl | (simp; done) | (simp [*]; done)), H', ⟨Nat.le_refl _⟩, ⟨by (with_reducible repeat (first | refine blk_drewN ?_ _ | refine blk_drew ?_ | refine blk_alloc ?_ _)); refine blk_far ?_ NB101_102.out _; (with_reducible repeat (first | refine blk_drewN ?_ _ | refine blk_drew ?_ | refine blk_alloc ?_ _)); refine blk_far ?_ NB101_102.out _; (with_reducible repeat (first | refine blk_drewN ?_ _ | refine blk_drew ?_ | refine blk_alloc ?_ _)); exact BK101.out⟩, ⟨by (with_reducible repeat (first | refine blk_drewN ?_ _ | refine blk_drew ?_ | refine blk_alloc ?_ _)); refine blk_put (cs := #[.int .u64 a1, .int .u64 0]) ?_ 1 _ rfl; (with_reducible repeat (first | refine blk_drewN ?_ _ | refine blk_drew ?_ | refine blk_alloc ?_ _)); refine blk_put (cs := #[.int .u64 0, .int .u64 0]) ?_ 0 _ rfl; (with_reducible repeat (first | refine blk_drewN ?_ _ | refine blk_drew ?_ | refine blk_alloc ?_ _)); exact BK102.out⟩, ⟨by repeat (first | (with_reducible first | exact HB.out | apply below_alloc | apply pw_below_drewN | apply below_drew1 | refine below_set ?_ GE101.out | refine below_set ?_ GE102.out) | exact HB.out)⟩⟩
    case round =>
      clear H'
      try clear c1
      try clear c2
      try clear p2
      try clear c4
      try clear c4b0
      try clear c4b1
      try clear c6
      try clear c6b0
      try clear c6b1
      try clear p6
      try clear c12
      try clear hcz13_0
      try clear hcz13_1
      try clear hcz9_0
      try clear hcz9_1
      try clear hcz9_2
      try clear hfz13_0
      try clear hfz13_1
      try clear hfz9_0
      try clear hfz9_1
      try clear hfz9_2
      obtain ⟨x8_1, x103000_1, x103001_1, rfl, HA, HK1, BK101, BK102, HB⟩ := hrel
      cases gk with
      | zero => exact absurd HA.out (by simp [glebelaw2_Addr.l0])
      | succ k1 =>
        have H := HA.out
        clear HA
        simp only [glebelaw2_Addr.l0] at H
        by_cases c14 : x8_1 < 8
        · rw [if_pos c14] at H
          have c14b0 : decide (x8_1 < 8) = true := decide_eq_true c14
          clear c14
          obtain ⟨ji15, hji15⟩ : ∃ j_ : Int, (IntKind.u64.wrap (wrap64 (x8_1 + 1))) = j_ := ⟨_, rfl⟩
          replace H : (if 0 ≤ (ji15) then (if (Go.bits .and .i64 (shr .i64 a0 (ji15)) 1) = 1 then (if x8_1 < 4 then (if 0 ≤ (IntKind.u64.wrap (wrap64 (16 * x8_1))) then (glebelaw2_Addr.l0 k1 a0 (wrap64 (x8_1 + 1)) (Go.bits .andNot .u64 x103000_1 (shl .u64 65535 (IntKind.u64.wrap (wrap64 (16 * x8_1))))) x103001_1) else (none)) else (if 0 ≤ (IntKind.u64.wrap (wrap64 (16 * (wrap64 (x8_1 - 4))))) then (glebelaw2_Addr.l0 k1 a0 (wrap64 (x8_1 + 1)) x103000_1 (Go.bits .andNot .u64 x103001_1 (shl .u64 65535 (IntKind.u64.wrap (wrap64 (16 * (wrap64 (x8_1 - 4)))))))) else (none))) else (glebelaw2_Addr.l0 k1 a0 (wrap64 (x8_1 + 1)) x103000_1 x103001_1)) else (none)) = some (r1, r2, r3) := by first | (rw [hji15] at H; exact H) | (simp only [hji15] at H ⊢; exact H)
          by_cases c16 : 0 ≤ (ji15)
          · rw [if_pos c16] at H
            have c16b0 := eq_true c16
            have c16b1 : decide (0 ≤ (ji15)) = true := decide_eq_true c16
            clear c16
            obtain ⟨ji17, hji17⟩ : ∃ j_ : Int, (shr .i64 a0 (ji15)) = j_ := ⟨_, rfl⟩
            replace H : (if (Go.bits .and .i64 (ji17) 1) = 1 then (if x8_1 < 4 then (if 0 ≤ (IntKind.u64.wrap (wrap64 (16 * x8_1))) then (glebelaw2_Addr.l0 k1 a0 (wrap64 (x8_1 + 1)) (Go.bits .andNot .u64 x103000_1 (shl .u64 65535 (IntKind.u64.wrap (wrap64 (16 * x8_1))))) x103001_1) else (none)) else (if 0 ≤ (IntKind.u64.wrap (wrap64 (16 * (wrap64 (x8_1 - 4))))) then (glebelaw2_Addr.l0 k1 a0 (wrap64 (x8_1 + 1)) x103000_1 (Go.bits .andNot .u64 x103001_1 (shl .u64 65535 (IntKind.u64.wrap (wrap64 (16 * (wrap64 (x8_1 - 4)))))))) else (none))) else (glebelaw2_Addr.l0 k1 a0 (wrap64 (x8_1 + 1)) x103000_1 x103001_1)) = some (r1, r2, r3) := by first | (rw [hji17] at H; exact H) | (simp only [hji17] at H ⊢; exact H)
            have hji17_ : (a0 / 2 ^ min (ji15).toNat 64) = ji17 := hji17
            have hji17z : (ji15) ≤ 64 → (a0 / 2 ^ (ji15).toNat) = ji17 := shr_small hji17
            by_cases c18 : (Go.bits .and .i64 (ji17) 1) = 1
            · rw [if_pos c18] at H
              have c18b0 : ((Go.bits .and .i64 (ji17) 1) == 1) = true := beq_iff_eq.mpr c18
              have c18b1 : ((Go.bits .and .i64 (ji17) 1) != 1) = false := bne_eq_false_iff_eq.mpr c18
              clear c18
              by_cases c19 : x8_1 < 4
              · rw [if_pos c19] at H
                have c19b0 : decide (x8_1 < 4) = true := decide_eq_true c19
                clear c19
                obtain ⟨ji20, hji20⟩ : ∃ j_ : Int, (IntKind.u64.wrap (wrap64 (16 * x8_1))) = j_ := ⟨_, rfl⟩
                replace H : (if 0 ≤ (ji20) then (glebelaw2_Addr.l0 k1 a0 (wrap64 (x8_1 + 1)) (Go.bits .andNot .u64 x103000_1 (shl .u64 65535 (ji20))) x103001_1) else (none)) = some (r1, r2, r3) := by first | (rw [hji20] at H; exact H) | (simp only [hji20] at H ⊢; exact H)
                by_cases c21 : 0 ≤ (ji20)
                · rw [if_pos c21] at H
                  have c21b0 := eq_true c21
                  have c21b1 : decide (0 ≤ (ji20)) = true := decide_eq_true c21
                  clear c21
                  obtain ⟨ji22, hji22⟩ : ∃ j_ : Int, (shl .u64 65535 (ji20)) = j_ := ⟨_, rfl⟩
                  replace H : (glebelaw2_Addr.l0 k1 a0 (wrap64 (x8_1 + 1)) (Go.bits .andNot .u64 x103000_1 (ji22)) x103001_1) = some (r1, r2, r3) := by first | (rw [hji22] at H; exact H) | (simp only [hji22] at H ⊢; exact H)
                  have hji22_ : (IntKind.u64.wrap (65535 * 2 ^ min (ji20).toNat 64)) = ji22 := hji22
                  have hji22z : (ji20) ≤ 64 → (IntKind.u64.wrap (65535 * 2 ^ (ji20).toNat)) = ji22 := shl_small hji22
                  have H' := Aside0.mk H
                  clear H
                  have hnb23 := NB102_101.out
                  have hnc23 := NB101_102.out
                  have hcz24_0 : wr.cell? ⟨gb102, 0, none⟩ = some (.int .u64 x103000_1) := (blk_cell BK102.out 0).trans rfl
                  have hcz24_1 : wr.cell? ⟨gb102, 1, none⟩ = some (.int .u64 x103001_1) := (blk_cell BK102.out 1).trans rfl
                  have hfz24_0 := blk_frozen BK102.out 0
                  have hfz24_1 := blk_frozen BK102.out 1
                  go_wp2
                  go_roundg k1
                  case measure => have := HK1.out; omega
                  case rel => exact ⟨(wrap64 (x8_1 + 1)), (Go.bits .andNot .u64 x103000_1 (ji22)), (x103001_1), (by first | rfl | (simp; done) | (simp [*]; done)), H', ⟨by have := HK1.out; omega⟩, ⟨by (with_reducible repeat (first | refine blk_drewN ?_ _ | refine blk_drew ?_ | refine blk_alloc ?_ _)); refine blk_far ?_ NB101_102.out _; (with_reducible repeat (first | refine blk_drewN ?_ _ | refine blk_drew ?_ | refine blk_alloc ?_ _)); exact BK101.out⟩, ⟨by (with_reducible repeat (first | refine blk_drewN ?_ _ | refine blk_drew ?_ | refine blk_alloc ?_ _)); refine blk_put (cs := #[.int .u64 x103000_1, .int .u64 x103001_1]) ?_ 0 _ rfl; (with_reducible repeat (first | refine blk_drewN ?_ _ | refine blk_drew ?_ | refine blk_alloc ?_ _)); exact BK102.out⟩, ⟨by repeat (first | (with_reducible first | exact HB.out | apply below_alloc | apply pw_below_drewN | apply below_drew1 | refine below_set ?_ GE101.out | refine below_set ?_ GE102.out) | exact HB.out)⟩⟩
                · rw [if_neg c21] at H
                  exact absurd H (by simp)
              · rw [if_neg c19] at H
                have c19b0 : decide (x8_1 < 4) = false := decide_eq_false c19
                clear c19
                obtain ⟨ji25, hji25⟩ : ∃ j_ : Int, (IntKind.u64.wrap (wrap64 (16 * (wrap64 (x8_1 - 4))))) = j_ := ⟨_, rfl⟩
                replace H : (if 0 ≤ (ji25) then (glebelaw2_Addr.l0 k1 a0 (wrap64 (x8_1 + 1)) x103000_1 (Go.bits .andNot .u64 x103001_1 (shl .u64 65535 (ji25)))) else (none)) = some (r1, r2, r3) := by first | (rw [hji25] at H; exact H) | (simp only [hji25] at H ⊢; exact H)
                by_cases c26 : 0 ≤ (ji25)
                · rw [if_pos c26] at H
                  have c26b0 := eq_true c26
                  have c26b1 : decide (0 ≤ (ji25)) = true := decide_eq_true c26
                  clear c26
                  obtain ⟨ji27, hji27⟩ : ∃ j_ : Int, (shl .u64 65535 (ji25)) = j_ := ⟨_, rfl⟩
                  replace H : (glebelaw2_Addr.l0 k1 a0 (wrap64 (x8_1 + 1)) x103000_1 (Go.bits .andNot .u64 x103001_1 (ji27))) = some (r1, r2, r3) := by first | (rw [hji27] at H; exact H) | (simp only [hji27] at H ⊢; exact H)
                  have hji27_ : (IntKind.u64.wrap (65535 * 2 ^ min (ji25).toNat 64)) = ji27 := hji27
                  have hji27z : (ji25) ≤ 64 → (IntKind.u64.wrap (65535 * 2 ^ (ji25).toNat)) = ji27 := shl_small hji27
                  have H' := Aside0.mk H
                  clear H
                  have hnb28 := NB102_101.out
                  have hnc28 := NB101_102.out
                  have hcz29_0 : wr.cell? ⟨gb102, 0, none⟩ = some (.int .u64 x103000_1) := (blk_cell BK102.out 0).trans rfl
                  have hcz29_1 : wr.cell? ⟨gb102, 1, none⟩ = some (.int .u64 x103001_1) := (blk_cell BK102.out 1).trans rfl
                  have hfz29_0 := blk_frozen BK102.out 0
                  have hfz29_1 := blk_frozen BK102.out 1
                  go_wp2
                  go_roundg k1
                  case measure => have := HK1.out; omega
                  case rel => exact ⟨(wrap64 (x8_1 + 1)), (x103000_1), (Go.bits .andNot .u64 x103001_1 (ji27)), (by first | rfl | (simp; done) | (simp [*]; done)), H', ⟨by have := HK1.out; omega⟩, ⟨by (with_reducible repeat (first | refine blk_drewN ?_ _ | refine blk_drew ?_ | refine blk_alloc ?_ _)); refine blk_far ?_ NB101_102.out _; (with_reducible repeat (first | refine blk_drewN ?_ _ | refine blk_drew ?_ | refine blk_alloc ?_ _)); exact BK101.out⟩, ⟨by (with_reducible repeat (first | refine blk_drewN ?_ _ | refine blk_drew ?_ | refine blk_alloc ?_ _)); refine blk_put (cs := #[.int .u64 x103000_1, .int .u64 x103001_1]) ?_ 1 _ rfl; (with_reducible repeat (first | refine blk_drewN ?_ _ | refine blk_drew ?_ | refine blk_alloc ?_ _)); exact BK102.out⟩, ⟨by repeat (first | (with_reducible first | exact HB.out | apply below_alloc | apply pw_below_drewN | apply below_drew1 | refine below_set ?_ GE101.out | refine below_set ?_ GE102.out) | exact HB.out)⟩⟩
                · rw [if_neg c26] at H
                  exact absurd H (by simp)
            · rw [if_neg c18] at H
              have c18b0 : ((Go.bits .and .i64 (ji17) 1) == 1) = false := beq_eq_false_iff_ne.mpr c18
              have c18b1 : ((Go.bits .and .i64 (ji17) 1) != 1) = true := bne_iff_ne.mpr c18
              have H' := Aside0.mk H
              clear H
              go_wp2
              go_roundg k1
              case measure => have := HK1.out; omega
              case rel => exact ⟨(wrap64 (x8_1 + 1)), (x103000_1), (x103001_1), (by first | rfl | (simp; done) | (simp [*]; done)), H', ⟨by have := HK1.out; omega⟩, ⟨by (with_reducible repeat (first | refine blk_drewN ?_ _ | refine blk_drew ?_ | refine blk_alloc ?_ _)); exact BK101.out⟩, ⟨by (with_reducible repeat (first | refine blk_drewN ?_ _ | refine blk_drew ?_ | refine blk_alloc ?_ _)); exact BK102.out⟩, ⟨by repeat (first | (with_reducible first | exact HB.out | apply below_alloc | apply pw_below_drewN | apply below_drew1 | refine below_set ?_ GE101.out | refine below_set ?_ GE102.out) | exact HB.out)⟩⟩
          · rw [if_neg c16] at H
            exact absurd H (by simp)
        · rw [if_neg c14] at H
          have c14b0 : decide (x8_1 < 8) = false := decide_eq_false c14
          clear c14
          simp only [Option.some.injEq, Prod.mk.injEq] at H
          obtain ⟨rfl, rfl, rfl⟩ := H
          have hnb30 := NB102_101.out
          have hnc30 := NB101_102.out
          have hcz31_0 : wr.cell? ⟨gb102, 0, none⟩ = some (.int .u64 x103000_1) := (blk_cell BK102.out 0).trans rfl
          have hcz31_1 : wr.cell? ⟨gb102, 1, none⟩ = some (.int .u64 x103001_1) := (blk_cell BK102.out 1).trans rfl
          have hfz31_0 := blk_frozen BK102.out 0
          have hfz31_1 := blk_frozen BK102.out 1
          have hcz32_0 : wr.cell? ⟨gb101, 0, none⟩ = some (.int .i64 0) := (blk_cell BK101.out 0).trans rfl
          have hcz32_1 : wr.cell? ⟨gb101, 1, none⟩ = some (.int .u64 0) := (blk_cell BK101.out 1).trans rfl
          have hcz32_2 : wr.cell? ⟨gb101, 2, none⟩ = some (.int .u64 0) := (blk_cell BK101.out 2).trans rfl
          have hfz32_0 := blk_frozen BK101.out 0
          have hfz32_1 := blk_frozen BK101.out 1
          have hfz32_2 := blk_frozen BK101.out 2
          go_wp2
          refine bodyPost_ret (results_cell_row rfl _ _ gb101 46 #[.int .i64 6, .int .u64 x103000_1, .int .u64 x103001_1] (0, 0) _ rfl (by (with_reducible repeat (first | refine blk_drewN ?_ _ | refine blk_drew ?_ | refine blk_alloc ?_ _)); refine blk_put (cs := #[.int .i64 6, .int .u64 x103000_1, .int .u64 0]) ?_ 2 _ rfl; (with_reducible repeat (first | refine blk_drewN ?_ _ | refine blk_drew ?_ | refine blk_alloc ?_ _)); refine blk_put (cs := #[.int .i64 6, .int .u64 0, .int .u64 0]) ?_ 1 _ rfl; (with_reducible repeat (first | refine blk_drewN ?_ _ | refine blk_drew ?_ | refine blk_alloc ?_ _)); refine blk_put (cs := #[.int .i64 0, .int .u64 0, .int .u64 0]) ?_ 0 _ rfl; (with_reducible repeat (first | refine blk_drewN ?_ _ | refine blk_drew ?_ | refine blk_alloc ?_ _)); exact BK101.out) Tryd.underlying46 rfl (by kernel_rfl)) rfl ?_
          exact ⟨by first | rfl | (simp [errW_none, errW_some] <;> rfl) | (simp [*, errW_none, errW_some] <;> rfl), by repeat (first | (with_reducible first | exact HB.out | apply below_alloc | apply pw_below_drewN | apply below_drew1 | refine below_set ?_ GE101.out | refine below_set ?_ GE102.out) | exact HB.out)⟩
end Go.Proofs.YtfnacgojmdbjmaaDoor.PPH
end

section
/- Functions without loops, told as plain functions, and the contracts of these and of the printed ones. No conditions. -/
namespace Go.Proofs.YtfnacgojmdbjmaaDoor.PPH
open Go.RowKit Go.Proofs.YtfnacgojmdbjmaaDoorW.PrintWords Go.Proofs.YtfnacgojmdbjmaaDoorW.PrintLast Go.Proofs.YtfnacgojmdbjmaaDoorW.PrintMore
open Go.Det (inQ M64 M128 qn addN highN clampN)
def addr_six.f (a0 : ByteArray) : Option (Int × Int × Int × Bool) := sixF a0
def addr_Ok.f (a0_0 : Int) (a0_1 : Int) (a0_2 : Int) : Option (Bool) := okF a0_0 a0_1 a0_2
def addr_Print.f (a0_0 : Int) (a0_1 : Int) (a0_2 : Int) : Option (ByteArray) := prF a0_0 a0_1 a0_2
def gleberef1_Ok.f (a0_0 : Int) (a0_1 : Int) (a0_2 : Int) : Option (Bool) := if a0_0 = 6 then (some true) else (if a0_0 = 4 then (if a0_1 = 0 then (some (decide (a0_2 < 4294967296))) else (some false)) else (some false))
def quad_Mask.f (a0 : Int) : Option (Int × Int) := (quad_high.f a0).bind fun t167 => ((quad_high.f (wrap64 ((mn a0 128) - 64))).bind fun t168 => (some (t167, t168)))
def addr_Parse.f (a0 : ByteArray) : Option (Int × Int × Int × Bool) := (strings_Contains.f a0 { data := #[58] }).bind fun t1 => (if t1 = true then ((addr_six.f a0).bind fun t2 => (some (t2.1, t2.2.1, t2.2.2.1, t2.2.2.2))) else ((addr_four.f 1000 a0).bind fun t3 => (if t3.2 = true then (some (4, 0, t3.1, true)) else (some (0, 0, 0, false)))))
end Go.Proofs.YtfnacgojmdbjmaaDoor.PPH
namespace Go.Proofs.YtfnacgojmdbjmaaDoor
open Go.Det Go.RowKit Go.Proofs.YtfnacgojmdbjmaaDoor.PPH Go.Proofs.YtfnacgojmdbjmaaDoorW.PrintWords
set_option maxRecDepth 100000
noncomputable def dec50 : List Value → Option (Int)
  | [.int .i64 a] => some (a)
  | _ => none
noncomputable def dec28 : List Value → Option (Int × Int × Int)
  | [.int .i64 a, .int .u64 b, .int .u64 c] => some (a, b, c)
  | _ => none
noncomputable def dec53 : List Value → Option (ByteArray)
  | [.string a] => some (a)
  | _ => none
noncomputable def enc53 (x : ByteArray) : List Value := [.string x]
theorem dec53_enc {args : List Value} {a : ByteArray} (h : dec53 args = some a) : args = enc53 a := by
  unfold dec53 at h
  split at h
  case h_2 => cases h
  cases h; rfl
noncomputable def enr53 (y : Int × Bool) : Value := .tuple #[.int .u64 y.1, .bool y.2]
noncomputable def con53 : Con := Con.opt dec53 (fun x => addr_four.f 1000 x) enr53
theorem om53 {W : World} (hW : GoodW W) : OwnAll Tryd.prog W 6 53 con53.own := by
  refine own_of_calls (fn := Tryd.f53) (c := bodyOf Tryd.f53) hW Tryd.func53 (by kernel_rfl) (by kernel_rfl) fun args v h => ?_
  split at h
  case h_2 => cases h
  rename_i a ha
  split at h
  case h_2 => cases h
  rename_i b hb
  cases h
  obtain rfl := dec53_enc ha
  refine ⟨rfl, rfl, fun w hG => ?_⟩
  first | exact addr_four.calls 1000 a b.1 b.2 w hG hb | exact (addr_four.calls 1000 a b.1 b.2 w hG hb).mono fun e w' h => ⟨h.1, h.2.below⟩
noncomputable def dec70 : List Value → Option (Int × Int × Int × Int)
  | [.agg ⟨[.int .u64 a, .int .u64 b]⟩, .agg ⟨[.int .u64 c, .int .u64 d]⟩] => some (a, b, c, d)
  | _ => none
noncomputable def dec64 : List Value → Option (Int × Int × Int)
  | [.agg ⟨[.int .i64 a, .int .u64 b, .int .u64 c]⟩] => some (a, b, c)
  | _ => none
noncomputable def enc64 (x : Int × Int × Int) : List Value := [.agg #[.int .i64 x.1, .int .u64 x.2.1, .int .u64 x.2.2]]
theorem dec64_enc {args : List Value} {a : Int × Int × Int} (h : dec64 args = some a) : args = enc64 a := by
  unfold dec64 at h
  split at h
  case h_2 => cases h
  cases h; rfl
noncomputable def enr64 (y : Bool) : Value := .bool y
noncomputable def con64 : Con := Con.opt dec64 (fun x => gleberef1_Ok.f x.1 x.2.1 x.2.2) enr64
noncomputable def L64 : List (Nat × Con) := []
noncomputable def dec25 : List Value → Option (ByteArray)
  | [.string a] => some (a)
  | _ => none
noncomputable def enc25 (x : ByteArray) : List Value := [.string x]
theorem dec25_enc {args : List Value} {a : ByteArray} (h : dec25 args = some a) : args = enc25 a := by
  unfold dec25 at h
  split at h
  case h_2 => cases h
  cases h; rfl
noncomputable def enr25 (y : Int × Int × Int × Bool) : Value := .tuple #[.agg #[.int .i64 y.1, .int .u64 y.2.1, .int .u64 y.2.2.1], .bool y.2.2.2]
noncomputable def con25 : Con := Con.opt dec25 (fun x => addr_Parse.f x) enr25
noncomputable def L25 : List (Nat × Con) := [(51, con51), (52, con52), (53, con53)]
end Go.Proofs.YtfnacgojmdbjmaaDoor
end

section
/- The conditions of the functions without loops, reckoned by the kernel. -/
namespace Go.Proofs.YtfnacgojmdbjmaaDoor
open Go.Det Go.RowKit Go.Proofs.YtfnacgojmdbjmaaDoor.PPH Go.Proofs.YtfnacgojmdbjmaaDoorW.PrintWords
set_option maxRecDepth 100000
theorem vx64 (a : Int) (b : Int) (c : Int) (Q : Value → Prop) : codeW Tryd.prog (cwC L64) (bodyOf Tryd.f64) (inTab [.agg #[.int .i64 a, .int .u64 b, .int .u64 c]] 8) (birth [] 64) (retW Tryd.prog Tryd.f64 fun v _ => Q v) = (bifW (cdec (a = 6)) (Q (Value.bool Bool.true)) (bifW (cdec (a = 4)) (bifW (cdec (b = 0)) (Q (Value.bool (cdec (c < 4294967296)))) (Q (Value.bool Bool.false))) (Q (Value.bool Bool.false)))) := by kernel_rfl
theorem vx25 (a : ByteArray) (Q : Value → Prop) : codeW Tryd.prog (cwC L25) (bodyOf Tryd.f25) (inTab [.string a] 8) (birth [] 64) (retW Tryd.prog Tryd.f25 fun v _ => Q v) = ((∃ x0 : Bool, ((conF a { data := #[58] } = Option.some x0) ∧ bifW (x0) ((∃ x1 : Int × Int × Int × Bool, ((sixF a = Option.some x1) ∧ Q (Value.tuple #[Value.agg #[Value.int IntKind.i64 (Prod.fst x1), Value.int IntKind.u64 (Prod.fst (Prod.snd x1)), Value.int IntKind.u64 (Prod.fst (Prod.snd (Prod.snd x1)))], Value.bool (Prod.snd (Prod.snd (Prod.snd x1)))])))) ((∃ x1 : Int × Bool, ((addr_four.f 1000 a = Option.some x1) ∧ bifW (!Prod.snd x1) (Q (Value.tuple #[Value.agg #[Value.int IntKind.i64 0, Value.int IntKind.u64 0, Value.int IntKind.u64 0], Value.bool Bool.false])) (Q (Value.tuple #[Value.agg #[Value.int IntKind.i64 4, Value.int IntKind.u64 0, Value.int IntKind.u64 (Prod.fst x1)], Value.bool Bool.true])))))))) := by kernel_rfl
end Go.Proofs.YtfnacgojmdbjmaaDoor
end

section
/- The functions without loops come to what they are told to be. No conditions. -/
namespace Go.Proofs.YtfnacgojmdbjmaaDoor
open Go.Det Go.RowKit Go.Proofs.YtfnacgojmdbjmaaDoor.PPH Go.Proofs.YtfnacgojmdbjmaaDoorW.PrintWords
set_option maxRecDepth 100000
theorem andI_eq (k : IntKind) (a b : Int) : andI k a b = Go.bits .and k a b := rfl
theorem orI_eq (k : IntKind) (a b : Int) : orI k a b = Go.bits .or k a b := rfl
theorem wrapE (n : Int) : IntKind.wrap IntKind.i64 n = wrap64 n := by rw [IntKind.wrap_i64, wrap64]
theorem wx64 (x : Int × Int × Int) (y : Bool) (hx : gleberef1_Ok.f x.1 x.2.1 x.2.2 = some y) : codeW Tryd.prog (cwC L64) (bodyOf Tryd.f64) (inTab (enc64 x) 8) (birth [] 64) (retW Tryd.prog Tryd.f64 fun v' _ => v' = enr64 y) := by
  obtain ⟨a, b, c⟩ := x
  refine (vx64 a b c _).mpr ?_
  unfold gleberef1_Ok.f at hx
  try simp only [wrapE, andI_eq, orI_eq]
  repeat' first
    | (obtain ⟨y, hy, hx⟩ := Option.bind_eq_some_iff.1 hx; refine ⟨y, hy, ?_⟩)
    | ((refine bifW_c (fun hc => ?_) (fun hc => ?_)) <;> first | rw [if_pos hc] at hx | rw [if_neg hc] at hx | rw [if_pos (Decidable.not_not.1 hc)] at hx)
    | ((refine bifW_n (fun hc => ?_) (fun hc => ?_)) <;> first | rw [if_pos hc] at hx | rw [if_neg hc] at hx)
    | ((refine bifW_b (fun hc => ?_) (fun hc => ?_)) <;> first | rw [if_pos hc] at hx | rw [if_neg hc] at hx)
    | (split at hx <;> first | (cases hx; done) | (refine And.intro (by assumption) ?_))
    | (cases hx; rfl)
    | (cases hx; simp only [enr64, cdec_eq, cdec_beq, Bool.and_true])
theorem om64 {W : World} (hW : GoodW W) : OwnAll Tryd.prog W 6 64 con64.own :=
  con_opt enc64 (Laying.empty hW.size) hW.size (by decide) dt_mixed (ownsAll_nil W 6) Tryd.func64 (fn := Tryd.f64) (c := bodyOf Tryd.f64) (by kernel_rfl) (by kernel_rfl) (fun _ _ h => dec64_enc h) (fun a => ⟨rfl, (by kernel_rfl)⟩) (fun b => rfl) wx64
theorem wx25 (x : ByteArray) (y : Int × Int × Int × Bool) (hx : addr_Parse.f x = some y) : codeW Tryd.prog (cwC L25) (bodyOf Tryd.f25) (inTab (enc25 x) 8) (birth [] 64) (retW Tryd.prog Tryd.f25 fun v' _ => v' = enr25 y) := by
  refine (vx25 x _).mpr ?_
  unfold addr_Parse.f at hx
  try simp only [wrapE, andI_eq, orI_eq]
  repeat' first
    | (obtain ⟨y, hy, hx⟩ := Option.bind_eq_some_iff.1 hx; refine ⟨y, hy, ?_⟩)
    | ((refine bifW_c (fun hc => ?_) (fun hc => ?_)) <;> first | rw [if_pos hc] at hx | rw [if_neg hc] at hx | rw [if_pos (Decidable.not_not.1 hc)] at hx)
    | ((refine bifW_n (fun hc => ?_) (fun hc => ?_)) <;> first | rw [if_pos hc] at hx | rw [if_neg hc] at hx)
    | ((refine bifW_b (fun hc => ?_) (fun hc => ?_)) <;> first | rw [if_pos hc] at hx | rw [if_neg hc] at hx)
    | (split at hx <;> first | (cases hx; done) | (refine And.intro (by assumption) ?_))
    | (cases hx; rfl)
    | (cases hx; simp only [enr25, cdec_eq, cdec_beq, Bool.and_true])
theorem om25 {W : World} (hW : GoodW W) : OwnAll Tryd.prog W 6 25 con25.own :=
  con_opt enc25 (Laying.empty hW.size) hW.size (by decide) dt_mixed (OwnsAll.con (om51 hW) (OwnsAll.con (om52 hW) (OwnsAll.con (om53 hW) (ownsAll_nil W 6)))) Tryd.func25 (fn := Tryd.f25) (c := bodyOf Tryd.f25) (by kernel_rfl) (by kernel_rfl) (fun _ _ h => dec25_enc h) (fun a => ⟨rfl, (by kernel_rfl)⟩) (fun b => rfl) wx25
end Go.Proofs.YtfnacgojmdbjmaaDoor
namespace Go.Proofs.YtfnacgojmdbjmaaDoor.PPH
open Go.Det Go.RowKit Go.Proofs.YtfnacgojmdbjmaaDoor Go.Proofs.YtfnacgojmdbjmaaDoorW.PrintWords
theorem gleberef1_Ok.calls (a0_0 : Int) (a0_1 : Int) (a0_2 : Int) (r : Bool) (w : World) (hG : GoodW w) (h : gleberef1_Ok.f a0_0 a0_1 a0_2 = some r) :
    Calls Tryd.prog 64 #[.agg #[.int .i64 a0_0, .int .u64 a0_1, .int .u64 a0_2]] w fun e w' => e = .returned (.bool r) ∧ Below w.heap.size w w' :=
  calls_of_own (fn := Tryd.f64) (c := bodyOf Tryd.f64) (om64 hG) hG Tryd.func64 (by kernel_rfl) (by kernel_rfl) (args := enc64 (a0_0, a0_1, a0_2)) (v := .bool r) (opt_own (dec := dec64) (enc := enr64) (a := (a0_0, a0_1, a0_2)) (b := r) rfl h _) rfl rfl (by intro h; cases h)
theorem addr_Parse.calls (a0 : ByteArray) (r1 : Int) (r2 : Int) (r3 : Int) (r4 : Bool) (w : World) (hG : GoodW w) (h : addr_Parse.f a0 = some (r1, r2, r3, r4)) :
    Calls Tryd.prog 25 #[.string a0] w fun e w' => e = .returned (.tuple #[.agg #[.int .i64 r1, .int .u64 r2, .int .u64 r3], .bool r4]) ∧ Below w.heap.size w w' :=
  calls_of_own (fn := Tryd.f25) (c := bodyOf Tryd.f25) (om25 hG) hG Tryd.func25 (by kernel_rfl) (by kernel_rfl) (args := enc25 (a0)) (v := .tuple #[.agg #[.int .i64 r1, .int .u64 r2, .int .u64 r3], .bool r4]) (opt_own (dec := dec25) (enc := enr25) (a := (a0)) (b := (r1, r2, r3, r4)) rfl h _) rfl rfl (by intro h; cases h)
end Go.Proofs.YtfnacgojmdbjmaaDoor.PPH
end

section
/- Prefixes of numbers: what the functions answer, in numbers. Plain facts over the told functions; no conditions. -/
namespace Go.Proofs.YtfnacgojmdbjmaaDoor.PPH
open Go Go.RowKit Go.Proofs.YtfnacgojmdbjmaaDoorW.PrintWords Go.Proofs.YtfnacgojmdbjmaaDoorW.PrintLast Go.Proofs.YtfnacgojmdbjmaaDoorW.PrintMore
open Go.Det (inQ inU M64 M128 qn addN highN clampN maskN inQ_quad qn_quad)
def H (q : Nat) : Int := ((q / M64 : Nat) : Int)
def L (q : Nat) : Int := ((q % M64 : Nat) : Int)
theorem m64 : M64 = 2 ^ 64 := rfl
theorem H_lt {q : Nat} (h : q < M128) : q / M64 < 18446744073709551616 := by
  have : M128 = M64 * M64 := by decide
  rw [this] at h
  exact Nat.div_lt_of_lt_mul h
theorem L_lt (q : Nat) : q % M64 < 18446744073709551616 := Nat.mod_lt _ (by decide)
theorem fin_at {p : Nat → Bool} {n : Nat} (h : (List.range n).all p = true) (k : Nat) (hk : k < n) : p k = true := List.all_eq_true.1 h k (List.mem_range.2 hk)
theorem fin_mask : (List.range 129).all (fun n => decide (quad_Mask.f (n : Nat) = some (H (maskN n), L (maskN n)) ∧ gleberef1_Mask.f 300 (n : Nat) = some (H (maskN n), L (maskN n)) ∧ maskN n < M128 ∧ M128 - 1 - maskN n = 2 ^ (128 - n) - 1)) = true := by decide +kernel
theorem mask_at {n : Nat} (h : n ≤ 128) : quad_Mask.f (n : Nat) = some (H (maskN n), L (maskN n)) ∧ gleberef1_Mask.f 300 (n : Nat) = some (H (maskN n), L (maskN n)) ∧ maskN n < M128 ∧ M128 - 1 - maskN n = 2 ^ (128 - n) - 1 :=
  of_decide_eq_true (fin_at fin_mask n (by omega))
def Kd' (V : Int) (B : Nat) : Prop := (V = 4 ∧ B = 32) ∨ (V = 6 ∧ B = 128)
theorem w64 {n : Int} (h0 : -1000 ≤ n) (h1 : n ≤ 1000) : wrap64 n = n := by unfold wrap64; omega
theorem okA {V : Int} {B q : Nat} (h : Kd' V B) (hq : q < 2 ^ B) : addr_Ok.f V (H q) (L q) = some true := by
  rcases h with ⟨rfl, rfl⟩ | ⟨rfl, rfl⟩
  · unfold addr_Ok.f okF
    have h1 : q / M64 = 0 := Nat.div_eq_of_lt (by rw [m64]; omega)
    have h2 : q % M64 = q := Nat.mod_eq_of_lt (by rw [m64]; omega)
    have e1 : H q = 0 := by unfold H; rw [h1]; rfl
    have e2 : L q = (q : Int) := by unfold L; rw [h2]
    rw [if_neg (by decide), if_pos rfl, e1, if_pos rfl, e2]
    rw [decide_eq_true (show (q : Int) < 4294967296 by omega)]
  · rfl
theorem mask_lt {n : Nat} (h : n ≤ 128) : maskN n < M128 := (mask_at h).2.2.1
theorem wrapu_pos (x : Int) : 0 ≤ IntKind.u64.wrap x := (wrap_within .u64 x).1
theorem addr_l0 (v : Int) : ∀ (d k : Nat) (h l : Int), d ≤ 8 → d < k → 0 ≤ h → h < 18446744073709551616 → 0 ≤ l → l < 18446744073709551616 →
    ∃ h' l', glebelaw2_Addr.l0 k v (8 - (d : Int)) h l = some (6, h', l') ∧ 0 ≤ h' ∧ h' < 18446744073709551616 ∧ 0 ≤ l' ∧ l' < 18446744073709551616 := by
  intro d
  induction d with
  | zero =>
    intro k h l _ hk h1 h2 h3 h4
    obtain ⟨k, rfl⟩ : ∃ m, k = m + 1 := ⟨k - 1, by omega⟩
    refine ⟨h, l, ?_, h1, h2, h3, h4⟩
    rw [glebelaw2_Addr.l0, if_neg (by omega)]
  | succ d ih =>
    intro k h l hd hk h1 h2 h3 h4
    obtain ⟨k, rfl⟩ : ∃ m, k = m + 1 := ⟨k - 1, by omega⟩
    have hx : ((8 : Int) - ((d + 1 : Nat) : Int)) < 8 := by omega
    have hw : wrap64 ((8 : Int) - ((d + 1 : Nat) : Int) + 1) = 8 - (d : Int) := by unfold wrap64; omega
    have b0 : ∀ op (x y : Int), 0 ≤ Go.bits op .u64 x y := fun op x y => bits_lo_u64 op x y
    have b1 : ∀ op (x y : Int), Go.bits op .u64 x y < 18446744073709551616 := fun op x y => by have := bits_hi_u64 op x y; omega
    rw [glebelaw2_Addr.l0, if_pos hx, if_pos (wrapu_pos _)]
    split
    · split
      · rw [if_pos (wrapu_pos _), hw]
        exact ih k _ l (by omega) (by omega) (b0 _ _ _) (b1 _ _ _) h3 h4
      · rw [if_pos (wrapu_pos _), hw]
        exact ih k h _ (by omega) (by omega) h1 h2 (b0 _ _ _) (b1 _ _ _)
    · rw [hw]
      exact ih k h l (by omega) (by omega) h1 h2 h3 h4
theorem and32_le (a : Int) (h0 : 0 ≤ a) (h1 : a < 18446744073709551616) : 0 ≤ Go.bits .and .u64 a 4294967295 ∧ Go.bits .and .u64 a 4294967295 ≤ 4294967295 := by
  obtain ⟨A, rfl⟩ := Int.eq_ofNat_of_zero_le h0
  rw [show (4294967295 : Int) = ((4294967295 : Nat) : Int) from rfl, Go.bits_and_u64_nat A 4294967295 (by omega) (by decide)]
  have : A &&& 4294967295 ≤ 4294967295 := Nat.and_le_right
  omega
theorem HL_of {h l : Int} (h0 : 0 ≤ h) (h1 : h < 18446744073709551616) (l0 : 0 ≤ l) (l1 : l < 18446744073709551616) : ∃ q, q < 2 ^ 128 ∧ H q = h ∧ L q = l := by
  obtain ⟨x, rfl⟩ := Int.eq_ofNat_of_zero_le h0
  obtain ⟨z, rfl⟩ := Int.eq_ofNat_of_zero_le l0
  have hM : M64 = 18446744073709551616 := rfl
  have d1 : (x * 18446744073709551616 + z) / 18446744073709551616 = x := by omega
  have d2 : (x * 18446744073709551616 + z) % 18446744073709551616 = z := by omega
  refine ⟨x * 18446744073709551616 + z, by omega, ?_, ?_⟩
  · unfold H; rw [hM, d1]
  · unfold L; rw [hM, d2]
theorem addr_at {k : Nat} (hk : 9 ≤ k) (v a b : Int) (ha : 0 ≤ a) (ha2 : a < 18446744073709551616) (hb : 0 ≤ b) (hb2 : b < 18446744073709551616) : ∃ V B q, Kd' V B ∧ q < 2 ^ B ∧ glebelaw2_Addr.f k v a b = some (V, H q, L q) := by
  unfold glebelaw2_Addr.f
  split
  · rw [if_pos (wrapu_pos _)]
    obtain ⟨h0, h1⟩ := and32_le a ha ha2
    have hr : 0 ≤ shr .u64 (Go.bits .and .u64 a 4294967295) (IntKind.u64.wrap (wrap64 (Go.bits .and .i64 (v / 2) 3 * 8))) ∧ shr .u64 (Go.bits .and .u64 a 4294967295) (IntKind.u64.wrap (wrap64 (Go.bits .and .i64 (v / 2) 3 * 8))) ≤ 4294967295 := by
      unfold shr
      have hp : (0 : Int) < 2 ^ min (IntKind.u64.wrap (wrap64 (Go.bits .and .i64 (v / 2) 3 * 8))).toNat IntKind.u64.bits := Int.pow_pos (by decide)
      refine ⟨Int.ediv_nonneg h0 (by omega), ?_⟩
      have := Int.ediv_le_self (2 ^ min (IntKind.u64.wrap (wrap64 (Go.bits .and .i64 (v / 2) 3 * 8))).toNat IntKind.u64.bits) h0
      omega
    obtain ⟨Q, hQ⟩ := Int.eq_ofNat_of_zero_le hr.1
    rw [hQ] at hr ⊢
    have d1 : Q / M64 = 0 := Nat.div_eq_of_lt (by rw [m64]; omega)
    have d2 : Q % M64 = Q := Nat.mod_eq_of_lt (by rw [m64]; omega)
    refine ⟨4, 32, Q, .inl ⟨rfl, rfl⟩, by omega, ?_⟩
    unfold H L
    rw [d1, d2]
    rfl
  · obtain ⟨h', l', e, q0, q1, q2, q3⟩ := addr_l0 v 8 k a b (by omega) (by omega) ha ha2 hb hb2
    obtain ⟨Q, hQ, e1, e2⟩ := HL_of q0 q1 q2 q3
    refine ⟨6, 128, Q, .inr ⟨rfl, rfl⟩, hQ, ?_⟩
    rw [e1, e2]
    exact e
end Go.Proofs.YtfnacgojmdbjmaaDoor.PPH
end

section
/- addr.zeros, addr.text, addr.row, addr.four: what they answer at an address's groups and numbers. Plain. -/
namespace Go.Proofs.YtfnacgojmdbjmaaDoor
open Go.Det Go.RowKit Go.Proofs.YtfnacgojmdbjmaaDoorW.PrintWords Go.Proofs.YtfnacgojmdbjmaaDoor.PPH
set_option maxRecDepth 100000
def ZP (l : List Int) (f t : Nat) : Prop := (f = 0 ∧ t = 0) ∨ (f + 2 ≤ t ∧ t ≤ 8 ∧ ∀ k, f ≤ k → k < t → l.getD k 0 = 0)
def zEnd (k : Nat) (l : List Int) (f t i e : Nat) : Option (Int × Int) :=
  if (wrap64 ((e : Int) - (i : Int))) > (wrap64 ((t : Int) - (f : Int))) then (if (wrap64 ((e : Int) - (i : Int))) > 1 then (addr_zeros.l0 k l (i : Int) (e : Int) 8 (wrap64 ((i : Int) + 1))) else (addr_zeros.l0 k l (f : Int) (t : Int) 8 (wrap64 ((i : Int) + 1)))) else (addr_zeros.l0 k l (f : Int) (t : Int) 8 (wrap64 ((i : Int) + 1)))
theorem zEnd_at {k : Nat} {l : List Int} {f t i e : Nat} (h : ZP l f t) (hi : i ≤ e) (he : e ≤ 8) (hi8 : i < 8) (hz : ∀ k, i ≤ k → k < e → l.getD k 0 = 0)
    (ih : ∀ f t, ZP l f t → ∃ f' t' : Nat, ZP l f' t' ∧ addr_zeros.l0 k l (f : Int) (t : Int) 8 ((i + 1 : Nat) : Int) = some ((f' : Int), (t' : Int))) :
    ∃ f' t' : Nat, ZP l f' t' ∧ zEnd k l f t i e = some ((f' : Int), (t' : Int)) := by
  have ht : t ≤ 8 := by rcases h with ⟨_, rfl⟩ | h; omega; omega
  have hf : f ≤ t := by rcases h with ⟨rfl, rfl⟩ | h; omega; omega
  have w1 : wrap64 ((e : Int) - (i : Int)) = ((e - i : Nat) : Int) := by rw [w64 (by omega) (by omega)]; omega
  have w2 : wrap64 ((t : Int) - (f : Int)) = ((t - f : Nat) : Int) := by rw [w64 (by omega) (by omega)]; omega
  have w3 : wrap64 ((i : Int) + 1) = ((i + 1 : Nat) : Int) := by rw [w64 (by omega) (by omega)]; omega
  unfold zEnd
  rw [w1, w2, w3]
  split
  · split
    · exact ih i e (.inr ⟨by omega, he, hz⟩)
    · exact ih f t h
  · exact ih f t h
theorem zInner {l : List Int} (hl : l.length = 8) {i : Nat} (hi8 : i < 8) {K : Nat} (ih : ∀ k, K ≤ k → ∀ f t, ZP l f t → ∃ f' t' : Nat, ZP l f' t' ∧ addr_zeros.l0 k l (f : Int) (t : Int) 8 ((i + 1 : Nat) : Int) = some ((f' : Int), (t' : Int))) :
    ∀ (m e k f t : Nat), e + m = 8 → i ≤ e → (∀ k, i ≤ k → k < e → l.getD k 0 = 0) → m + 1 + K ≤ k → ZP l f t → ∃ f' t' : Nat, ZP l f' t' ∧ addr_zeros.l1 k l (f : Int) (t : Int) (i : Int) (e : Int) 8 (i : Int) = some ((f' : Int), (t' : Int)) := by
  intro m
  induction m with
  | zero =>
    intro e k f t he hi hz hk h
    obtain ⟨k, rfl⟩ : ∃ j, k = j + 1 := ⟨k - 1, by omega⟩
    unfold addr_zeros.l1
    rw [if_neg (by rw [hl]; omega)]
    exact zEnd_at h hi (by omega) hi8 hz (ih k (by omega))
  | succ m im =>
    intro e k f t he hi hz hk h
    obtain ⟨k, rfl⟩ : ∃ j, k = j + 1 := ⟨k - 1, by omega⟩
    unfold addr_zeros.l1
    rw [if_pos (by rw [hl]; omega), if_pos (by omega)]
    have w : wrap64 ((e : Int) + 1) = ((e + 1 : Nat) : Int) := by rw [w64 (by omega) (by omega)]; omega
    split
    · rename_i hr
      rw [w]
      refine im (e + 1) k f t (by omega) (by omega) (fun j h1 h2 => ?_) (by omega) h
      by_cases hj : j = e
      · subst hj
        unfold rd at hr
        rwa [Int.toNat_natCast] at hr
      · exact hz j h1 (by omega)
    · exact zEnd_at h hi (by omega) hi8 hz (ih k (by omega))
theorem zOuter {l : List Int} (hl : l.length = 8) : ∀ (d i k f t : Nat), i + d = 8 → 12 * d + 2 ≤ k → ZP l f t → ∃ f' t' : Nat, ZP l f' t' ∧ addr_zeros.l0 k l (f : Int) (t : Int) 8 (i : Int) = some ((f' : Int), (t' : Int)) := by
  intro d
  induction d with
  | zero =>
    intro i k f t hi hk h
    obtain ⟨k, rfl⟩ : ∃ j, k = j + 1 := ⟨k - 1, by omega⟩
    unfold addr_zeros.l0
    rw [if_neg (by omega)]
    exact ⟨f, t, h, rfl⟩
  | succ d ih =>
    intro i k f t hi hk h
    obtain ⟨k, rfl⟩ : ∃ j, k = j + 1 := ⟨k - 1, by omega⟩
    unfold addr_zeros.l0
    rw [if_pos (by omega)]
    exact zInner hl (i := i) (by omega) (K := 12 * d + 2) (fun k hk f t h => ih (i + 1) k f t (by omega) hk h) (8 - i) i k f t (by omega) (Nat.le_refl _) (fun j h1 h2 => by omega) (by omega) h
theorem zpairs_mem {f t : Nat} (h : (f = 0 ∧ t = 0) ∨ (f + 2 ≤ t ∧ t ≤ 8)) : ((f : Int), (t : Int)) ∈ zpairs := by
  have key : ∀ f : Fin 9, ∀ t : Fin 9, ((f.val = 0 ∧ t.val = 0) ∨ (f.val + 2 ≤ t.val ∧ t.val ≤ 8)) → ((f.val : Int), (t.val : Int)) ∈ zpairs := by decide +kernel
  exact key ⟨f, by omega⟩ ⟨t, by omega⟩ h
theorem zeros_at {l : List Int} (hl : l.length = 8) : ∃ f t : Nat, zerosF l () = some ((f : Int), (t : Int)) ∧ ((f : Int), (t : Int)) ∈ zpairs ∧ ZP l f t := by
  obtain ⟨f, t, h, e⟩ := zOuter hl 8 0 300 0 0 (by omega) (by omega) (.inl ⟨rfl, rfl⟩)
  refine ⟨f, t, ?_, zpairs_mem ?_, h⟩
  · unfold zerosF addr_zeros.f
    rw [if_pos (by omega), hl]
    exact e
  · rcases h with h | h
    · exact .inl h
    · exact .inr ⟨h.1, h.2.1⟩
def hexB (n : Nat) : ByteArray := ⟨⟨Txt.hexT n⟩⟩
theorem fmt_at {n : Nat} (h : n < 65536) : strconv_FormatUint.f (n : Int) 16 = some (hexB n) := by
  unfold strconv_FormatUint.f fmtF
  rw [if_pos ⟨rfl, by omega, by omega⟩, Int.toNat_natCast]; rfl
theorem text_l0 {ns : List Nat} (hn : ∀ n ∈ ns, n < 65536) (hl : ns.length ≤ 8) : ∀ (d i k : Nat) (acc : List ByteArray), i + d = ns.length → d + 2 ≤ k → acc.length ≤ i →
    addr_text.l0 k acc (ns.map fun (n : Nat) => (n : Int)) (ns.length : Int) (i : Int) = ((strings_Join.f (acc ++ (ns.drop i).map hexB) ⟨#[58]⟩).bind fun t => some t) := by
  intro d
  induction d with
  | zero =>
    intro i k acc hi hk ha
    obtain ⟨k, rfl⟩ : ∃ j, k = j + 1 := ⟨k - 1, by omega⟩
    unfold addr_text.l0
    rw [if_neg (by omega), List.drop_eq_nil_of_le (by omega), List.map_nil, List.append_nil]
  | succ d ih =>
    intro i k acc hi hk ha
    obtain ⟨k, rfl⟩ : ∃ j, k = j + 1 := ⟨k - 1, by omega⟩
    have hlt : i < ns.length := by omega
    have e1 : rd (ns.map fun (n : Nat) => (n : Int)) (i : Int) = ((ns[i] : Nat) : Int) := by
      unfold rd
      rw [Int.toNat_natCast, List.getD_eq_getElem?_getD, List.getElem?_map, List.getElem?_eq_getElem hlt]; rfl
    unfold addr_text.l0
    rw [if_pos (by omega), if_pos (by omega), if_pos (by rw [List.length_map]; omega), e1, fmt_at (hn _ (List.getElem_mem hlt)), Option.bind_some, if_pos (by omega), w64 (by omega) (by omega)]
    have := ih (i + 1) k (acc ++ [hexB ns[i]]) (by omega) (by omega) (by rw [List.length_append, List.length_singleton]; omega)
    rw [show ((i : Int) + 1) = ((i + 1 : Nat) : Int) by omega, this, List.append_assoc]
    conv => rhs; rw [List.drop_eq_getElem_cons hlt]
    rfl
theorem lens_hex : ∀ ns : List Nat, Lib.lens (ns.map Txt.hexT) ≤ 4 * ns.length
  | [] => by simp [Lib.lens]
  | n :: t => by
    have := lens_hex t
    have h := (Txt.hexT_len n).2
    simp only [Lib.lens, List.map_cons, List.sum_cons, List.length_cons] at this ⊢
    omega
theorem join_hex_len {ns : List Nat} (hl : ns.length ≤ 8) : (Lib.join (ns.map Txt.hexT) [58]).length ≤ 40 := by
  cases ns with
  | nil => simp [Lib.join_nil]
  | cons n t =>
    have := lens_hex (n :: t)
    rw [List.map_cons, Lib.join_length, ← List.map_cons]
    simp only [List.length_cons, List.length_nil, List.length_map] at this hl ⊢
    omega
theorem joinF_hex {ns : List Nat} (hl : ns.length ≤ 8) : strings_Join.f (ns.map hexB) ⟨#[58]⟩ = some ⟨⟨Lib.join (ns.map Txt.hexT) [58]⟩⟩ := by
  have e : joinB (ns.map hexB) ⟨#[58]⟩ = ⟨⟨Lib.join (ns.map Txt.hexT) [58]⟩⟩ := by
    unfold joinB
    rw [List.map_map]
    rfl
  unfold strings_Join.f
  rw [e, if_pos ⟨by rw [bsize]; have := join_hex_len hl; omega, by rw [List.length_map]; omega⟩]
theorem text_at {ns : List Nat} (hn : ∀ n ∈ ns, n < 65536) (hl : ns.length ≤ 8) : textF (ns.map fun (n : Nat) => (n : Int)) () = some ⟨⟨Lib.join (ns.map Txt.hexT) [58]⟩⟩ := by
  unfold textF addr_text.f
  rw [if_pos (by rw [List.length_map]; exact hl), List.length_map]
  have := text_l0 hn hl ns.length 0 300 [] (by omega) (by omega) (Nat.zero_le _)
  rw [show ((0 : Nat) : Int) = 0 from rfl] at this
  rw [this, List.nil_append, List.drop_zero, joinF_hex hl]; rfl
theorem idx_dg : ∀ k : Fin 16, idxF dig16 (orI .u8 ((Txt.dg k.val).toNat : Int) 32) = some (k.val : Int) ∧ ¬ ((Txt.dg k.val).toNat : Int) < 48 := by decide +kernel
theorem hex_step {n k : Nat} (hn : n < 4096) (hk : k < 16) (t : List UInt8) : hexL (n : Int) (Txt.dg k :: t) = hexL ((n * 16 + k : Nat) : Int) t := by
  obtain ⟨h1, h2⟩ := idx_dg ⟨k, hk⟩
  simp only at h1 h2
  rw [hexL, h1, Option.bind_some, if_neg (by omega), if_neg h2]
  have e1 : shlI .u64 (n : Int) 4 = ((n * 2 ^ 4 : Nat) : Int) := shl_nat 4 (by decide) (by omega)
  rw [e1, Go.Det.wrapU ⟨by omega, by omega⟩, or_join 4 (by omega) (by omega)]
theorem hex_step0 {k : Nat} (hk : k < 16) (t : List UInt8) : hexL 0 (Txt.dg k :: t) = hexL (k : Int) t := by
  have := hex_step (n := 0) (by omega) hk t
  simpa using this
theorem hex_at {n : Nat} (h : n < 65536) : addr_hex.f (hexB n) = some ((n : Int), true) := by
  unfold addr_hex.f hexF hexB
  rw [blen]
  have hl := Txt.hexT_len n
  rw [if_neg (by omega)]
  unfold Txt.hexT
  split
  · rw [hex_step0 (by omega)]; rfl
  · split
    · rw [hex_step0 (by omega), hex_step (by omega) (by omega), hexL]
      congr 2; omega
    · split
      · rw [hex_step0 (by omega), hex_step (by omega) (by omega), hex_step (by omega) (by omega), hexL]
        congr 2; omega
      · rw [hex_step0 (by omega), hex_step (by omega) (by omega), hex_step (by omega) (by omega), hex_step (by omega) (by omega), hexL]
        congr 2; omega
theorem row_l0 {ns : List Nat} (hn : ∀ n ∈ ns, n < 65536) (hl : ns.length ≤ 8) (last : Bool) : ∀ (d i k : Nat) (acc : List Int), i + d = ns.length → 2 * d + 2 ≤ k → acc.length ≤ i →
    addr_row.l0 k last acc (ns.map hexB) (ns.map hexB) (ns.length : Int) (i : Int) = some (acc ++ (ns.drop i).map (fun (n : Nat) => (n : Int)), true) := by
  intro d
  induction d with
  | zero =>
    intro i k acc hi hk ha
    obtain ⟨k, rfl⟩ : ∃ j, k = j + 1 := ⟨k - 1, by omega⟩
    unfold addr_row.l0
    rw [if_neg (by omega), List.drop_eq_nil_of_le (by omega), List.map_nil, List.append_nil]
  | succ d ih =>
    intro i k acc hi hk ha
    obtain ⟨k, rfl⟩ : ∃ j, k = j + 2 := ⟨k - 2, by omega⟩
    have hlt : i < ns.length := by omega
    have hni := hn _ (List.getElem_mem hlt)
    have e1 : rdOf ByteArray.empty (ns.map hexB) (i : Int) = hexB ns[i] := by
      unfold rdOf
      rw [Int.toNat_natCast, List.getD_eq_getElem?_getD, List.getElem?_map, List.getElem?_eq_getElem hlt]; rfl
    have ec : strings_Contains.f (hexB ns[i]) ⟨#[46]⟩ = some false := by
      unfold strings_Contains.f
      have hs : (hexB ns[i]).size < 4294967281 := by
        have := (Txt.hexT_len ns[i]).2
        unfold hexB
        rw [bsize]; omega
      rw [if_pos hs]
      exact congrArg some (Txt.contains_no (Txt.hexT_sgn hni (by decide)))
    have ej : ∀ x36, x36 = false → addr_row.j1 (k + 1) last acc (ns.map hexB) (hexB ns[i]) (ns.map hexB) (ns.length : Int) (i : Int) x36 = some (acc ++ (ns.drop i).map (fun (n : Nat) => (n : Int)), true) := by
      rintro _ rfl
      unfold addr_row.j1
      rw [if_neg (by decide), hex_at hni, Option.bind_some, if_pos rfl, if_pos (by omega), w64 (by omega) (by omega), show ((i : Int) + 1) = ((i + 1 : Nat) : Int) by omega,
        ih (i + 1) k (acc ++ [((ns[i] : Nat) : Int)]) (by omega) (by omega) (by rw [List.length_append, List.length_singleton]; omega), List.append_assoc]
      conv => rhs; rw [List.drop_eq_getElem_cons hlt]
      rfl
    unfold addr_row.l0
    rw [if_pos (by omega), if_pos (by omega), if_pos (by rw [List.length_map]; omega), e1]
    split
    · split
      · rw [ec, Option.bind_some]; exact ej _ rfl
      · exact ej _ rfl
    · exact ej _ rfl
theorem join_ne {ns : List Nat} (h : ns ≠ []) : Lib.join (ns.map Txt.hexT) [58] ≠ [] := by
  cases ns with
  | nil => exact absurd rfl h
  | cons n t =>
    rw [List.map_cons, Lib.join_cons]
    intro e
    exact Txt.hexT_ne n (List.append_eq_nil_iff.1 e).1
theorem row_at {ns : List Nat} (hn : ∀ n ∈ ns, n < 65536) (hl : ns.length ≤ 8) (last : Bool) : rowF (⟨⟨Lib.join (ns.map Txt.hexT) [58]⟩⟩, last) = some (ns.map (fun (n : Nat) => (n : Int)), true) := by
  unfold rowF addr_row.f
  cases hns : ns with
  | nil =>
    rw [if_pos (by rw [ByteArray.toList_eq]; rfl)]
    rfl
  | cons n0 t0 =>
    rw [← hns]
    have hne : ns ≠ [] := by rw [hns]; simp
    rw [if_neg (by rw [ByteArray.toList_eq]; exact join_ne hne)]
    have es : strings_Split.f ⟨⟨Lib.join (ns.map Txt.hexT) [58]⟩⟩ ⟨#[58]⟩ = some (ns.map hexB) := by
      unfold strings_Split.f
      rw [if_pos ⟨by rw [bsize]; have := join_hex_len hl; omega, by decide⟩]
      have := Txt.splitB_join (c := 58) (ns.map Txt.hexT) (by simpa using hne) (fun p hp => by
        obtain ⟨m, hm, rfl⟩ := List.mem_map.1 hp
        exact Txt.hexT_sgn (hn m hm) (by decide))
      rw [List.map_map] at this
      exact congrArg some this
    simp only
    rw [es, Option.bind_some, List.length_map]
    have := row_l0 hn hl last ns.length 0 1000 [] (by omega) (by omega) (Nat.zero_le _)
    rw [show ((0 : Nat) : Int) = 0 from rfl] at this
    rw [this, List.nil_append, List.drop_zero]
end Go.Proofs.YtfnacgojmdbjmaaDoor
end

section
/- An address is printed, and read as it was: addr.Print and addr.Parse at addresses of numbers. Plain. -/
namespace Go.Proofs.YtfnacgojmdbjmaaDoor
open Go.Det Go.RowKit Go.Proofs.YtfnacgojmdbjmaaDoorW.PrintWords Go.Proofs.YtfnacgojmdbjmaaDoor.PPH
set_option maxRecDepth 100000
def txtB (n : Nat) : ByteArray := ⟨⟨Txt.decT n⟩⟩
theorem txt_at {n : Nat} (h : n < 256) : txtF (n : Int) = some (txtB n) := by
  unfold txtF
  rw [if_pos ⟨by omega, by omega⟩, Int.toNat_natCast]; rfl
theorem num_all : ∀ n : Fin 256, numF (txtB n.val) 255 = some ((n.val : Int), true) := by decide +kernel
theorem num_at {n : Nat} (h : n < 256) : date_Num.f (txtB n) 255 = some ((n : Int), true) := num_all ⟨n, h⟩
theorem decT_len (n : Nat) : (Txt.decT n).length ≤ 3 := by
  unfold Txt.decT
  split
  · simp
  · split <;> simp
theorem byte_at {q : Nat} (hq : q < 18446744073709551616) (s : Nat) (hs : s ≤ 64) : txtF (andI .u64 (shrI .u64 (q : Int) (s : Int)) 255) = some (txtB (q / 2 ^ s % 256)) := by
  rw [shr_nat s hs]
  have h1 : q / 2 ^ s ≤ q := Nat.div_le_self _ _
  obtain ⟨x, hx⟩ : ∃ x, x = q / 2 ^ s := ⟨_, rfl⟩
  rw [← hx] at h1 ⊢
  have e : andI .u64 (x : Int) 255 = ((x % 256 : Nat) : Int) := and_low (by omega) 8 (by decide)
  rw [e, txt_at (by omega)]
def dots (a b c d : Nat) : List UInt8 := Lib.join [Txt.decT a, Txt.decT b, Txt.decT c, Txt.decT d] [46]
theorem dots_len (a b c d : Nat) : (dots a b c d).length ≤ 15 := by
  unfold dots
  have h1 := decT_len a
  have h2 := decT_len b
  have h3 := decT_len c
  have h4 := decT_len d
  rw [Lib.join_length]
  simp only [Lib.lens, List.map_cons, List.map_nil, List.sum_cons, List.sum_nil, List.length_cons, List.length_nil]
  omega
theorem join_dots (a b c d : Nat) : joinF [txtB a, txtB b, txtB c, txtB d] dotB = some ⟨⟨dots a b c d⟩⟩ := by
  have e : joinB [txtB a, txtB b, txtB c, txtB d] dotB = ⟨⟨dots a b c d⟩⟩ := rfl
  unfold joinF
  rw [e, if_pos ⟨by rw [bsize]; have := dots_len a b c d; omega, by simp only [List.length_cons, List.length_nil]; omega⟩]
theorem or_byte {x n : Nat} (hx : x < 16777216) (hn : n < 256) : Go.bits .or .u64 (IntKind.u64.wrap ((x : Int) * 256)) (Go.bits .and .u64 (n : Int) 255) = ((x * 256 + n : Nat) : Int) := by
  have e1 : Go.bits .and .u64 (n : Int) 255 = ((n % 256 : Nat) : Int) := and_low (by omega) 8 (by decide)
  have e2 : IntKind.u64.wrap ((x : Int) * 256) = ((x * 2 ^ 8 : Nat) : Int) := by rw [Go.Det.wrapU ⟨by omega, by omega⟩]; omega
  rw [e1, e2, Nat.mod_eq_of_lt hn]
  exact or_join (s := 8) (by omega) (by omega)
theorem four_at {a b c d : Nat} (ha : a < 256) (hb : b < 256) (hc : c < 256) (hd : d < 256) : addr_four.f 1000 ⟨⟨dots a b c d⟩⟩ = some (((((a * 256 + b) * 256 + c) * 256 + d : Nat) : Int), true) := by
  have es : strings_Split.f ⟨⟨dots a b c d⟩⟩ ⟨#[46]⟩ = some [txtB a, txtB b, txtB c, txtB d] := by
    unfold strings_Split.f
    rw [if_pos ⟨by rw [bsize]; have := dots_len a b c d; omega, by decide⟩]
    exact congrArg some (Txt.splitB_join (c := 46) [Txt.decT a, Txt.decT b, Txt.decT c, Txt.decT d] (by simp) (fun p hp => by
      simp only [List.mem_cons, List.not_mem_nil, or_false] at hp
      rcases hp with rfl | rfl | rfl | rfl
      · exact Txt.decT_sgn ha (by decide)
      · exact Txt.decT_sgn hb (by decide)
      · exact Txt.decT_sgn hc (by decide)
      · exact Txt.decT_sgn hd (by decide)))
  unfold addr_four.f
  rw [es, Option.bind_some]
  have step : ∀ (k i x n : Nat), i < 4 → x < 16777216 → n < 256 → [txtB a, txtB b, txtB c, txtB d][i]? = some (txtB n) →
      addr_four.l0 (k + 1) [txtB a, txtB b, txtB c, txtB d] (x : Int) [txtB a, txtB b, txtB c, txtB d] 4 (i : Int) = addr_four.l0 k [txtB a, txtB b, txtB c, txtB d] ((x * 256 + n : Nat) : Int) [txtB a, txtB b, txtB c, txtB d] 4 ((i + 1 : Nat) : Int) := by
    intro k i x n hi hx hn hg
    have e1 : rdOf ByteArray.empty [txtB a, txtB b, txtB c, txtB d] (i : Int) = txtB n := by
      unfold rdOf
      rw [Int.toNat_natCast, List.getD_eq_getElem?_getD, hg]; rfl
    conv => lhs; unfold addr_four.l0
    rw [if_pos (by omega), if_pos (by omega), if_pos (by simp only [List.length_cons, List.length_nil]; omega), e1, num_at hn, Option.bind_some, if_pos rfl, or_byte hx hn, w64 (by omega) (by omega)]
    rfl
  have h0 := step 999 0 0 a (by omega) (by omega) ha rfl
  have h1 := step 998 1 a b (by omega) (by omega) hb rfl
  have h2 := step 997 2 (a * 256 + b) c (by omega) (by omega) hc rfl
  have h3 := step 996 3 ((a * 256 + b) * 256 + c) d (by omega) (by omega) hd rfl
  have e0 : 0 * 256 + a = a := by omega
  rw [e0] at h0
  have ee : addr_four.l0 996 [txtB a, txtB b, txtB c, txtB d] ((((a * 256 + b) * 256 + c) * 256 + d : Nat) : Int) [txtB a, txtB b, txtB c, txtB d] 4 ((3 + 1 : Nat) : Int) = some (((((a * 256 + b) * 256 + c) * 256 + d : Nat) : Int), true) := by
    conv => lhs; unfold addr_four.l0
    rw [if_neg (by omega)]
    rfl
  exact h0.trans (h1.trans (h2.trans (h3.trans ee)))
theorem part_at {h : Nat} (hh : h < 18446744073709551616) : partL (h : Int) = [h / 281474976710656 % 65536, h / 4294967296 % 65536, h / 65536 % 65536, h % 65536].map (fun (n : Nat) => (n : Int)) := by
  have p : ∀ (s : Nat), s ≤ 64 → andI .u64 (shrI .u64 (h : Int) (s : Int)) 65535 = ((h / 2 ^ s % 65536 : Nat) : Int) := by
    intro s hs
    rw [shr_nat s hs]
    have h1 : h / 2 ^ s ≤ h := Nat.div_le_self _ _
    obtain ⟨x, hx⟩ : ∃ x, x = h / 2 ^ s := ⟨_, rfl⟩
    rw [← hx] at h1 ⊢
    exact and_low (by omega) 16 (by decide)
  have p0 := p 0 (by omega)
  have p1 := p 16 (by omega)
  have p2 := p 32 (by omega)
  have p3 := p 48 (by omega)
  rw [Nat.pow_zero, Nat.div_one] at p0
  unfold partL
  simp only [List.map_cons, List.map_nil]
  exact congr (congrArg List.cons p3) (congr (congrArg List.cons p2) (congr (congrArg List.cons p1) (congrArg (List.cons · []) p0)))
theorem comb_at {a b c d : Nat} (ha : a < 65536) (hb : b < 65536) (hc : c < 65536) (hd : d < 65536) : comb4 (a : Int) (b : Int) (c : Int) (d : Int) = ((((a * 65536 + b) * 65536 + c) * 65536 + d : Nat) : Int) := by
  have st : ∀ {x n : Nat}, x < 281474976710656 → n < 65536 → orI .u64 (shlI .u64 (x : Int) 16) (n : Int) = ((x * 65536 + n : Nat) : Int) := by
    intro x n hx hn
    have e1 : shlI .u64 (x : Int) 16 = ((x * 2 ^ 16 : Nat) : Int) := shl_nat 16 (by decide) (by omega)
    rw [e1]
    exact or_join 16 (by omega) (by omega)
  have s0 := st (x := 0) (n := a) (by omega) ha
  rw [show 0 * 65536 + a = a by omega] at s0
  unfold comb4
  rw [show ((0 : Int)) = ((0 : Nat) : Int) from rfl, s0, st (by omega) hb, st (by omega) hc, st (by omega) hd]
theorem fill_eq {l : List Int} (hl : l.length = 8) {f t : Nat} (hft : f + 2 ≤ t) (ht : t ≤ 8) (hz : ∀ k, f ≤ k → k < t → l.getD k 0 = 0) : l.take f ++ List.replicate (8 - ((l.take f).length + (l.drop t).length)) 0 ++ l.drop t = l := by
  have e : 8 - ((l.take f).length + (l.drop t).length) = t - f := by rw [List.length_take, List.length_drop]; omega
  rw [e]
  have e2 : List.replicate (t - f) (0 : Int) = (l.drop f).take (t - f) := by
    refine List.ext_getElem (by rw [List.length_replicate, List.length_take, List.length_drop]; omega) fun i h1 h2 => ?_
    rw [List.length_replicate] at h1
    have := hz (f + i) (by omega) (by omega)
    rw [List.getD_eq_getElem?_getD, List.getElem?_eq_getElem (by omega)] at this
    rw [List.getElem_replicate, List.getElem_take, List.getElem_drop]
    exact this.symm
  rw [e2, List.append_assoc]
  have e3 : l.drop t = (l.drop f).drop (t - f) := by rw [List.drop_drop]; congr 1; omega
  rw [e3, List.take_append_drop, List.take_append_drop]
end Go.Proofs.YtfnacgojmdbjmaaDoor
end

section
/- An address is printed, and read as it was. Plain: over addr.Print and addr.Parse as they are told. -/
namespace Go.Proofs.YtfnacgojmdbjmaaDoor
open Go.Det Go.RowKit Go.Proofs.YtfnacgojmdbjmaaDoorW.PrintWords Go.Proofs.YtfnacgojmdbjmaaDoor.PPH
set_option maxRecDepth 100000
structure PT (s : List UInt8) : Prop where
  len : s.length ≤ 100
  ne : s ≠ []
  sl : (47 : UInt8) ∉ s
  da : (45 : UInt8) ∉ s
theorem contains_at (s : List UInt8) (c : UInt8) (h : s.length ≤ 1000) : strings_Contains.f ⟨⟨s⟩⟩ ⟨#[c]⟩ = some (Lib.contains s [c]) := by
  unfold strings_Contains.f
  rw [if_pos (by rw [bsize]; omega)]
theorem back4 {q : Nat} (hq : q < 4294967296) : ∃ s, PT s ∧ prF 4 0 (q : Int) = some ⟨⟨s⟩⟩ ∧ addr_Parse.f ⟨⟨s⟩⟩ = some (4, 0, (q : Int), true) := by
  have b0 := byte_at (q := q) (by omega) 24 (by omega)
  have b1 := byte_at (q := q) (by omega) 16 (by omega)
  have b2 := byte_at (q := q) (by omega) 8 (by omega)
  have b3 := byte_at (q := q) (by omega) 0 (by omega)
  have e0 : q / 2 ^ 24 % 256 = q / 16777216 % 256 := rfl
  have e1 : q / 2 ^ 16 % 256 = q / 65536 % 256 := rfl
  have e2 : q / 2 ^ 8 % 256 = q / 256 % 256 := rfl
  have e3 : q / 2 ^ 0 % 256 = q % 256 := by rw [Nat.pow_zero, Nat.div_one]
  rw [e0] at b0
  rw [e1] at b1
  rw [e2] at b2
  rw [e3] at b3
  have hj := join_dots (q / 16777216 % 256) (q / 65536 % 256) (q / 256 % 256) (q % 256)
  have h4 := four_at (a := q / 16777216 % 256) (b := q / 65536 % 256) (c := q / 256 % 256) (d := q % 256) (by omega) (by omega) (by omega) (by omega)
  have hl := dots_len (q / 16777216 % 256) (q / 65536 % 256) (q / 256 % 256) (q % 256)
  have hq' : ((q / 16777216 % 256 * 256 + q / 65536 % 256) * 256 + q / 256 % 256) * 256 + q % 256 = q := by omega
  rw [hq'] at h4
  have hn : ∀ c, Txt.sgn c = true → c ≠ 46 → c ∉ dots (q / 16777216 % 256) (q / 65536 % 256) (q / 256 % 256) (q % 256) := by
    intro c hc hd
    refine Txt.not_mem_join hd _ fun p hp => ?_
    simp only [List.mem_cons, List.not_mem_nil, or_false] at hp
    rcases hp with rfl | rfl | rfl | rfl
    · exact Txt.decT_sgn (by omega) hc
    · exact Txt.decT_sgn (by omega) hc
    · exact Txt.decT_sgn (by omega) hc
    · exact Txt.decT_sgn (by omega) hc
  refine ⟨dots (q / 16777216 % 256) (q / 65536 % 256) (q / 256 % 256) (q % 256), ⟨by omega, ?_, hn 47 (by decide) (by decide), hn 45 (by decide) (by decide)⟩, ?_, ?_⟩
  · unfold dots
    rw [Lib.join_cons]
    intro e
    exact Txt.decT_ne _ (List.append_eq_nil_iff.1 e).1
  · unfold prF okF
    rw [if_neg (by decide), if_pos rfl, if_pos rfl, Option.bind_some, if_pos (by rw [decide_eq_true_eq]; omega), if_pos rfl]
    unfold pr4
    have b0' : txtF (andI .u64 (shrI .u64 (q : Int) 24) 255) = _ := b0
    have b1' : txtF (andI .u64 (shrI .u64 (q : Int) 16) 255) = _ := b1
    have b2' : txtF (andI .u64 (shrI .u64 (q : Int) 8) 255) = _ := b2
    have b3' : txtF (andI .u64 (shrI .u64 (q : Int) 0) 255) = _ := b3
    rw [b0', Option.bind_some, b1', Option.bind_some, b2', Option.bind_some, b3', Option.bind_some, hj]
  · unfold addr_Parse.f
    have hc := contains_at (dots (q / 16777216 % 256) (q / 65536 % 256) (q / 256 % 256) (q % 256)) 58 (by omega)
    rw [Txt.contains_no (hn 58 (by decide) (by decide))] at hc
    have hc' : strings_Contains.f ⟨⟨dots (q / 16777216 % 256) (q / 65536 % 256) (q / 256 % 256) (q % 256)⟩⟩ { data := #[58] } = some false := hc
    rw [hc', Option.bind_some, if_neg (by decide), h4, Option.bind_some, if_pos rfl]
theorem cutF_at (s sep : List UInt8) (h : s.length ≤ 1000) : cutF ⟨⟨s⟩⟩ ⟨⟨sep⟩⟩ = some (⟨⟨(Lib.cut s sep).1⟩⟩, ⟨⟨(Lib.cut s sep).2.1⟩⟩, (Lib.cut s sep).2.2) := by
  unfold cutF
  rw [if_pos (by rw [bsize]; omega)]
  rfl
structure G8 (ns : List Nat) : Prop where
  len : ns.length = 8
  lt : ∀ n ∈ ns, n < 65536
def castI (ns : List Nat) : List Int := ns.map fun (n : Nat) => (n : Int)
theorem castI_len (ns : List Nat) : (castI ns).length = ns.length := List.length_map ..
theorem six_whole {ns : List Nat} (h : G8 ns) : sixF ⟨⟨Lib.join (ns.map Txt.hexT) [58]⟩⟩ = some (6, (comb8 (castI ns)).1, (comb8 (castI ns)).2, true) := by
  have hl := join_hex_len (ns := ns) (by rw [h.len]; omega)
  have hne : ns ≠ [] := by intro e; have := h.len; rw [e] at this; simp at this
  have htw : Txt.twice 58 (Lib.join (ns.map Txt.hexT) [58]) = false := by
    have := Txt.twice_join (c := 58) (ns.map Txt.hexT) (fun p hp => by
      obtain ⟨m, hm, rfl⟩ := List.mem_map.1 hp
      exact ⟨Txt.hexT_sgn (h.lt m hm) (by decide), Txt.hexT_ne m⟩) []
    rw [List.append_nil] at this
    exact this
  have hc := cutF_at (Lib.join (ns.map Txt.hexT) [58]) [58, 58] (by omega)
  rw [Txt.cut_miss htw] at hc
  have hc' : cutF ⟨⟨Lib.join (ns.map Txt.hexT) [58]⟩⟩ { data := #[58, 58] } = some (⟨⟨Lib.join (ns.map Txt.hexT) [58]⟩⟩, ⟨⟨[]⟩⟩, false) := hc
  have r1 := row_at h.lt (by rw [h.len]; omega) true
  have r2 := row_at (ns := []) (by simp) (by simp) true
  have r2' : rowF (⟨⟨[]⟩⟩, true) = some ([], true) := r2
  unfold sixF
  rw [hc', Option.bind_some]
  simp only
  rw [show (!false) = true from rfl, r1, Option.bind_some, r2', Option.bind_some]
  have hB : sixB ⟨⟨Lib.join (ns.map Txt.hexT) [58]⟩⟩ false (castI ns, true) ([], true) = false := by
    unfold sixB
    simp only [Bool.not_true, Bool.false_or, blen, castI_len, h.len, List.length_nil]
    rw [decide_eq_false (join_ne hne)]; rfl
  have hB' : ¬ sixB ⟨⟨Lib.join (ns.map Txt.hexT) [58]⟩⟩ false (ns.map fun (n : Nat) => (n : Int), true) ([], true) = true := by
    intro e; exact absurd (e.symm.trans hB) (by decide)
  rw [if_neg hB']
  simp only [List.length_map, h.len, List.length_nil, Nat.add_zero, Nat.sub_self, List.replicate_zero, List.append_nil]
  rfl
theorem six_cut {ns : List Nat} (h : G8 ns) {f t : Nat} (hft : f + 2 ≤ t) (ht : t ≤ 8) (hz : ∀ k, f ≤ k → k < t → (castI ns).getD k 0 = 0) :
    sixF ⟨⟨Lib.join ((ns.take f).map Txt.hexT) [58] ++ 58 :: 58 :: Lib.join ((ns.drop t).map Txt.hexT) [58]⟩⟩ = some (6, (comb8 (castI ns)).1, (comb8 (castI ns)).2, true) := by
  have lf : (ns.take f).length ≤ 8 := by rw [List.length_take, h.len]; omega
  have lt : (ns.drop t).length ≤ 8 := by rw [List.length_drop, h.len]; omega
  have gf : ∀ n ∈ ns.take f, n < 65536 := fun n hn => h.lt n (List.mem_of_mem_take hn)
  have gt : ∀ n ∈ ns.drop t, n < 65536 := fun n hn => h.lt n (List.mem_of_mem_drop hn)
  have l1 := join_hex_len lf
  have l2 := join_hex_len lt
  have htw : Txt.twice 58 (Lib.join ((ns.take f).map Txt.hexT) [58] ++ [58]) = false := by
    rw [Txt.twice_join (c := 58) ((ns.take f).map Txt.hexT) (fun p hp => by
      obtain ⟨m, hm, rfl⟩ := List.mem_map.1 hp
      exact ⟨Txt.hexT_sgn (gf m hm) (by decide), Txt.hexT_ne m⟩) [58]]
    rfl
  have hc := cutF_at (Lib.join ((ns.take f).map Txt.hexT) [58] ++ 58 :: 58 :: Lib.join ((ns.drop t).map Txt.hexT) [58]) [58, 58] (by simp only [List.length_append, List.length_cons]; omega)
  rw [Txt.cut_hit _ htw] at hc
  have hc' : cutF ⟨⟨Lib.join ((ns.take f).map Txt.hexT) [58] ++ 58 :: 58 :: Lib.join ((ns.drop t).map Txt.hexT) [58]⟩⟩ { data := #[58, 58] } = some (⟨⟨Lib.join ((ns.take f).map Txt.hexT) [58]⟩⟩, ⟨⟨Lib.join ((ns.drop t).map Txt.hexT) [58]⟩⟩, true) := hc
  have r1 := row_at gf lf false
  have r2 := row_at gt lt true
  unfold sixF
  rw [hc', Option.bind_some]
  simp only
  rw [show (!true) = false from rfl, r1, Option.bind_some, r2, Option.bind_some]
  have hlen : (ns.take f).length + (ns.drop t).length = f + (8 - t) := by rw [List.length_take, List.length_drop, h.len]; omega
  have hB : ∀ X Y : List Int, X.length = (ns.take f).length → Y.length = (ns.drop t).length → sixB ⟨⟨Lib.join ((ns.take f).map Txt.hexT) [58] ++ 58 :: 58 :: Lib.join ((ns.drop t).map Txt.hexT) [58]⟩⟩ true (X, true) (Y, true) = false := by
    intro X Y hX hY
    unfold sixB
    simp only [Bool.not_true, Bool.false_or, blen]
    rw [decide_eq_false (by simp), Bool.false_or, hX, hY, hlen]
    exact decide_eq_false (by omega)
  rw [if_neg (by rw [hB _ _ (List.length_map ..) (List.length_map ..)]; decide)]
  have hf := fill_eq (l := castI ns) (by rw [castI_len, h.len]) hft ht hz
  unfold castI at hf ⊢
  rw [← List.map_take, ← List.map_drop] at hf
  rw [hf]
theorem app_ba (a b : List UInt8) : (⟨⟨a⟩⟩ : ByteArray) ++ colB ++ (⟨⟨b⟩⟩ : ByteArray) = ⟨⟨a ++ 58 :: 58 :: b⟩⟩ := by
  have h : ((⟨⟨a⟩⟩ : ByteArray) ++ colB ++ (⟨⟨b⟩⟩ : ByteArray)).data.toList = a ++ 58 :: 58 :: b := by
    simp [colB]
  have e : ∀ x : ByteArray, x = ⟨⟨x.data.toList⟩⟩ := fun _ => rfl
  rw [e ((⟨⟨a⟩⟩ : ByteArray) ++ colB ++ (⟨⟨b⟩⟩ : ByteArray)), h]
theorem split4 {h : Nat} (hh : h < 18446744073709551616) : ((h / 281474976710656 % 65536 * 65536 + h / 4294967296 % 65536) * 65536 + h / 65536 % 65536) * 65536 + h % 65536 = h := by omega
theorem back6 {h l : Nat} (hh : h < 18446744073709551616) (hl : l < 18446744073709551616) : ∃ s, PT s ∧ prF 6 (h : Int) (l : Int) = some ⟨⟨s⟩⟩ ∧ addr_Parse.f ⟨⟨s⟩⟩ = some (6, (h : Int), (l : Int), true) := by
  obtain ⟨ns, hns⟩ : ∃ ns, ns = [h / 281474976710656 % 65536, h / 4294967296 % 65536, h / 65536 % 65536, h % 65536, l / 281474976710656 % 65536, l / 4294967296 % 65536, l / 65536 % 65536, l % 65536] := ⟨_, rfl⟩
  have G : G8 ns := by
    subst hns
    refine ⟨rfl, fun n hn => ?_⟩
    simp only [List.mem_cons, List.not_mem_nil, or_false] at hn
    rcases hn with rfl | rfl | rfl | rfl | rfl | rfl | rfl | rfl <;> omega
  have hg : grp (h : Int) (l : Int) = castI ns := by
    unfold grp castI
    rw [part_at hh, part_at hl, hns]
    simp only [List.map_cons, List.map_nil, List.cons_append, List.nil_append]
  have hc8 : comb8 (castI ns) = ((h : Int), (l : Int)) := by
    have c1 := comb_at (a := h / 281474976710656 % 65536) (b := h / 4294967296 % 65536) (c := h / 65536 % 65536) (d := h % 65536) (by omega) (by omega) (by omega) (by omega)
    have c2 := comb_at (a := l / 281474976710656 % 65536) (b := l / 4294967296 % 65536) (c := l / 65536 % 65536) (d := l % 65536) (by omega) (by omega) (by omega) (by omega)
    have d1 : ((h / 281474976710656 % 65536 * 65536 + h / 4294967296 % 65536) * 65536 + h / 65536 % 65536) * 65536 + h % 65536 = h := split4 hh
    have d2 : ((l / 281474976710656 % 65536 * 65536 + l / 4294967296 % 65536) * 65536 + l / 65536 % 65536) * 65536 + l % 65536 = l := split4 hl
    rw [d1] at c1
    rw [d2] at c2
    rw [hns]
    show (comb4 _ _ _ _, comb4 _ _ _ _) = _
    rw [c1, c2]
  have sg : ∀ ms : List Nat, (∀ n ∈ ms, n < 65536) → ∀ c, Txt.sgn c = true → c ≠ 58 → c ∉ Lib.join (ms.map Txt.hexT) [58] := by
    intro ms hm c hc hd
    refine Txt.not_mem_join hd _ fun p hp => ?_
    obtain ⟨m, hmm, rfl⟩ := List.mem_map.1 hp
    exact Txt.hexT_sgn (hm m hmm) hc
  have parse : ∀ s : List UInt8, s.length ≤ 1000 → (58 : UInt8) ∈ s → sixF ⟨⟨s⟩⟩ = some (6, (comb8 (castI ns)).1, (comb8 (castI ns)).2, true) → addr_Parse.f ⟨⟨s⟩⟩ = some (6, (h : Int), (l : Int), true) := by
    intro s hs hm h6
    unfold addr_Parse.f
    have hc := contains_at s 58 hs
    rw [Txt.contains_yes hm] at hc
    have hc' : strings_Contains.f ⟨⟨s⟩⟩ { data := #[58] } = some true := hc
    unfold addr_six.f
    rw [hc', Option.bind_some, if_pos rfl, h6, hc8]; rfl
  have hpr : ∀ s, ((zerosF (castI ns) ()).bind fun ij => pr6 (castI ns) ij) = some s → prF 6 (h : Int) (l : Int) = some s := by
    intro s hs
    unfold prF okF
    rw [if_pos rfl, Option.bind_some, if_pos rfl, if_neg (by decide), hg]
    exact hs
  obtain ⟨f, t, hz, hm, hP⟩ := zeros_at (l := castI ns) (by rw [castI_len, G.len])
  rcases hP with ⟨rfl, rfl⟩ | ⟨hft, ht, hzz⟩
  · have hlen := join_hex_len (ns := ns) (by rw [G.len]; omega)
    have htx := text_at G.lt (by rw [G.len]; omega)
    refine ⟨Lib.join (ns.map Txt.hexT) [58], ⟨by omega, join_ne (by intro e; have := G.len; rw [e] at this; simp at this), sg ns G.lt 47 (by decide) (by decide), sg ns G.lt 45 (by decide) (by decide)⟩, hpr _ ?_, parse _ (by omega) ?_ (six_whole G)⟩
    · rw [hz, Option.bind_some]
      unfold pr6
      rw [if_pos (show ((((0 : Nat) : Int), ((0 : Nat) : Int)) : Int × Int) = (0, 0) from rfl)]
      exact htx
    · rw [hns, List.map_cons, List.map_cons, Txt.join_more]
      simp
  · have lf : (ns.take f).length ≤ 8 := by rw [List.length_take, G.len]; omega
    have lt : (ns.drop t).length ≤ 8 := by rw [List.length_drop, G.len]; omega
    have gf : ∀ n ∈ ns.take f, n < 65536 := fun n hn => G.lt n (List.mem_of_mem_take hn)
    have gt : ∀ n ∈ ns.drop t, n < 65536 := fun n hn => G.lt n (List.mem_of_mem_drop hn)
    have l1 := join_hex_len lf
    have l2 := join_hex_len lt
    have t1 := text_at gf lf
    have t2 := text_at gt lt
    have hs : ∀ c, Txt.sgn c = true → c ≠ 58 → c ∉ Lib.join ((ns.take f).map Txt.hexT) [58] ++ 58 :: 58 :: Lib.join ((ns.drop t).map Txt.hexT) [58] := by
      intro c hc hd
      simp only [List.mem_append, List.mem_cons, not_or]
      exact ⟨sg _ gf c hc hd, hd, hd, sg _ gt c hc hd⟩
    refine ⟨Lib.join ((ns.take f).map Txt.hexT) [58] ++ 58 :: 58 :: Lib.join ((ns.drop t).map Txt.hexT) [58], ⟨by simp only [List.length_append, List.length_cons]; omega, by simp, hs 47 (by decide) (by decide), hs 45 (by decide) (by decide)⟩, hpr _ ?_, parse _ (by simp only [List.length_append, List.length_cons]; omega) (by simp) (six_cut G hft ht hzz)⟩
    rw [hz, Option.bind_some]
    unfold pr6
    rw [if_neg (by intro e; have := congrArg Prod.snd e; simp only at this; omega), if_pos hm]
    simp only [Int.toNat_natCast]
    have e1 : (castI ns).take f = (ns.take f).map fun (n : Nat) => (n : Int) := (List.map_take ..).symm
    have e2 : (castI ns).drop t = (ns.drop t).map fun (n : Nat) => (n : Int) := (List.map_drop ..).symm
    rw [e1, e2, t1, Option.bind_some, t2, Option.bind_some, if_pos (by rw [bsize, bsize]; omega), app_ba]
theorem back_at {V : Int} {B q : Nat} (h : Kd' V B) (hq : q < 2 ^ B) : ∃ s, PT s ∧ addr_Print.f V (H q) (L q) = some ⟨⟨s⟩⟩ ∧ addr_Parse.f ⟨⟨s⟩⟩ = some (V, H q, L q, true) := by
  have hM : M64 = 18446744073709551616 := rfl
  rcases h with ⟨rfl, rfl⟩ | ⟨rfl, rfl⟩
  · have hq' : q < 4294967296 := hq
    have e1 : H q = 0 := by unfold H; rw [hM]; omega
    have e2 : L q = (q : Int) := by unfold L; rw [hM]; omega
    rw [e1, e2]
    exact back4 hq'
  · have h1 := H_lt (q := q) hq
    have h2 := L_lt q
    exact back6 h1 h2
end Go.Proofs.YtfnacgojmdbjmaaDoor
end

section
/- addr.Parse answers, whatever the text. Plain: over addr.Parse as it is told. -/
namespace Go.Proofs.YtfnacgojmdbjmaaDoor
open Go.Det Go.RowKit Go.Proofs.YtfnacgojmdbjmaaDoorW.PrintWords Go.Proofs.YtfnacgojmdbjmaaDoor.PPH
set_option maxRecDepth 100000
theorem split_size (sep : ByteArray) : ∀ (k : Nat) (s p : ByteArray), p ∈ Lib.splitB sep 0 k s → p.size ≤ s.size
  | 0, s, p, h => by
    rw [Lib.splitB_zero] at h
    rw [List.mem_singleton.1 h]
    exact Nat.le_refl _
  | k + 1, s, p, h => by
    unfold Lib.splitB at h
    split at h
    · rw [List.mem_singleton.1 h]
      exact Nat.le_refl _
    · rcases List.mem_cons.1 h with rfl | h
      · rw [ByteArray.size_extract]; omega
      · have := split_size sep k _ p h
        rw [ByteArray.size_extract] at this; omega
theorem split_tot {s sep : ByteArray} (hs : s.size ≤ 400) (hp : 1 ≤ sep.size) : ∃ l : List ByteArray, strings_Split.f s sep = some l ∧ 1 ≤ l.length ∧ l.length ≤ s.size + 1 ∧ ∀ p ∈ l, p.size ≤ s.size := by
  have hl := Lib.splitB_all sep hp 0 (Lib.countB s sep) s rfl
  have hc := Lib.countB_le sep hp s.size s (Nat.le_refl _)
  exact ⟨_, if_pos ⟨by omega, hp⟩, by omega, by omega, fun p h => split_size sep _ s p h⟩
theorem numL_tot (m : Int) : ∀ (l : List UInt8) (n : Int), ∃ r, numL m n l = some r
  | [], n => by unfold numL; split <;> exact ⟨_, rfl⟩
  | c :: t, n => by
    unfold numL
    repeat' first
      | exact ⟨_, rfl⟩
      | exact numL_tot m t _
      | split
theorem num_tot (s : ByteArray) : ∃ r, numF s 255 = some r := by
  unfold numF
  rw [if_pos (by omega)]
  split
  · exact ⟨_, rfl⟩
  · split
    · split
      · exact numL_tot _ _ _
      · exact ⟨_, rfl⟩
    · exact numL_tot _ _ _
theorem hexL_tot : ∀ (l : List UInt8) (n : Int), ∃ r, hexL n l = some r
  | [], n => ⟨_, rfl⟩
  | c :: t, n => by
    unfold hexL idxF
    rw [Option.bind_some]
    split
    · exact ⟨_, rfl⟩
    · split
      · exact ⟨_, rfl⟩
      · exact hexL_tot t _
theorem hex_tot (s : ByteArray) : ∃ r, hexF s = some r := by
  unfold hexF
  split
  · exact ⟨_, rfl⟩
  · exact hexL_tot _ _
theorem and_byte (m : Int) : ∃ b : Nat, b < 256 ∧ Go.bits .and .u64 m 255 = (b : Int) := by
  refine ⟨(BitVec.ofInt 64 m &&& BitVec.ofInt 64 255).toNat, ?_, ?_⟩
  · rw [BitVec.toNat_and]
    have : (BitVec.ofInt 64 255).toNat = 255 := by decide
    rw [this]
    exact Nat.lt_of_le_of_lt Nat.and_le_right (by decide)
  · exact Go.Det.wrapU ⟨by omega, by have := (BitVec.ofInt 64 m &&& BitVec.ofInt 64 255).isLt; simp only [IntKind.bits]; omega⟩
theorem bits_range (op : BinOp) (x y : Int) : ∃ n : Nat, n < 18446744073709551616 ∧ Go.bits op .u64 x y = (n : Int) := by
  have h : ∀ v : Int, ∃ n : Nat, n < 18446744073709551616 ∧ IntKind.u64.wrap v = (n : Int) := fun v => by
    rw [IntKind.wrap_u64]
    exact ⟨(v % 18446744073709551616).toNat, by omega, by omega⟩
  unfold Go.bits
  exact h _
theorem or_range (x y : Int) : ∃ n : Nat, n < 18446744073709551616 ∧ orI .u64 x y = (n : Int) := by
  have h : ∀ v : Int, ∃ n : Nat, n < 18446744073709551616 ∧ IntKind.u64.wrap v = (n : Int) := fun v => by
    rw [IntKind.wrap_u64]
    exact ⟨(v % 18446744073709551616).toNat, by omega, by omega⟩
  unfold orI
  exact h _
theorem or_add {x b : Nat} (hx : x < 16777216) (hb : b < 256) : Go.bits .or .u64 (IntKind.u64.wrap ((x : Int) * 256)) (b : Int) = ((x * 256 + b : Nat) : Int) := by
  have e2 : IntKind.u64.wrap ((x : Int) * 256) = ((x * 2 ^ 8 : Nat) : Int) := by rw [Go.Det.wrapU ⟨by omega, by omega⟩]; omega
  rw [e2]
  exact or_join (s := 8) (by omega) (by omega)
theorem four_l0_tot {xs : List ByteArray} (hx : xs.length ≤ 1000) : ∀ (d i k : Nat) (n : Int), i + d = xs.length → d + 1 ≤ k → (xs.length = 4 → ∃ x : Nat, n = (x : Int) ∧ x < 256 ^ i) →
    ∃ r : Int × Bool, addr_four.l0 k xs n xs (xs.length : Int) (i : Int) = some r ∧ (r.2 = true → ∃ x : Nat, r.1 = (x : Int) ∧ x < 4294967296) := by
  intro d
  induction d with
  | zero =>
    intro i k n hi hk hn
    obtain ⟨k, rfl⟩ : ∃ j, k = j + 1 := ⟨k - 1, by omega⟩
    unfold addr_four.l0
    rw [if_neg (by omega)]
    refine ⟨_, rfl, fun h => ?_⟩
    have h4 : xs.length = 4 := by have := beq_iff_eq.1 h; omega
    obtain ⟨x, hx1, hx2⟩ := hn h4
    refine ⟨x, hx1, ?_⟩
    have : i = 4 := by omega
    subst this
    exact hx2
  | succ d ih =>
    intro i k n hi hk hn
    obtain ⟨k, rfl⟩ : ∃ j, k = j + 1 := ⟨k - 1, by omega⟩
    unfold addr_four.l0
    rw [if_pos (by omega), if_pos (by omega), if_pos (by omega)]
    obtain ⟨r, hr⟩ := num_tot (rdOf ByteArray.empty xs (i : Int))
    have hr' : date_Num.f (rdOf ByteArray.empty xs (i : Int)) 255 = some r := hr
    rw [hr', Option.bind_some]
    split
    · rw [w64 (by omega) (by omega), show ((i : Int) + 1) = ((i + 1 : Nat) : Int) by omega]
      refine ih (i + 1) k _ (by omega) (by omega) fun h4 => ?_
      obtain ⟨x, rfl, hx2⟩ := hn h4
      obtain ⟨b, hb, eb⟩ := and_byte r.1
      have hi4 : i = 0 ∨ i = 1 ∨ i = 2 ∨ i = 3 := by omega
      refine ⟨x * 256 + b, ?_, ?_⟩
      · rw [eb]
        refine or_add ?_ hb
        rcases hi4 with rfl | rfl | rfl | rfl <;> omega
      · rcases hi4 with rfl | rfl | rfl | rfl <;> omega
    · exact ⟨_, rfl, fun h => by cases h⟩
theorem four_tot {s : ByteArray} (hs : s.size ≤ 400) {k : Nat} (hk : 402 ≤ k) : ∃ r : Int × Bool, addr_four.f k s = some r ∧ (r.2 = true → ∃ x : Nat, r.1 = (x : Int) ∧ x < 4294967296) := by
  obtain ⟨l, e, h1, h2, _⟩ := split_tot (s := s) (sep := ⟨#[46]⟩) hs (by decide)
  unfold addr_four.f
  rw [e, Option.bind_some]
  exact four_l0_tot (by omega) l.length 0 k 0 (by omega) (by omega) fun _ => ⟨0, rfl, by decide⟩
theorem row_l0_tot {xs : List ByteArray} (hx : xs.length ≤ 300) (hp : ∀ p ∈ xs, p.size ≤ 200) (last : Bool) : ∀ (d i k : Nat) (acc : List Int), i + d = xs.length → d + d + 404 ≤ k → acc.length ≤ i →
    ∃ r, addr_row.l0 k last acc xs xs (xs.length : Int) (i : Int) = some r := by
  intro d
  induction d with
  | zero =>
    intro i k acc hi hk ha
    obtain ⟨k, rfl⟩ : ∃ j, k = j + 1 := ⟨k - 1, by omega⟩
    unfold addr_row.l0
    rw [if_neg (by omega)]
    exact ⟨_, rfl⟩
  | succ d ih =>
    intro i k acc hi hk ha
    obtain ⟨k, rfl⟩ : ∃ j, k = j + 2 := ⟨k - 2, by omega⟩
    have hlt : i < xs.length := by omega
    have hp1 : (rdOf ByteArray.empty xs (i : Int)).size ≤ 200 := by
      unfold rdOf
      rw [Int.toNat_natCast, List.getD_eq_getElem?_getD, List.getElem?_eq_getElem hlt]
      exact hp _ (List.getElem_mem hlt)
    have ej : ∀ b, ∃ r, addr_row.j1 (k + 1) last acc xs (rdOf ByteArray.empty xs (i : Int)) xs (xs.length : Int) (i : Int) b = some r := by
      intro b
      unfold addr_row.j1
      split
      · obtain ⟨r, hr, _⟩ := four_tot (s := rdOf ByteArray.empty xs (i : Int)) (by omega) (k := k) (by omega)
        rw [hr, Option.bind_some, Option.bind_some, if_pos (by simp only [List.length_cons, List.length_nil]; omega)]
        exact ⟨_, rfl⟩
      · obtain ⟨r, hr⟩ := hex_tot (rdOf ByteArray.empty xs (i : Int))
        have hr' : addr_hex.f (rdOf ByteArray.empty xs (i : Int)) = some r := hr
        rw [hr', Option.bind_some]
        split
        · rw [if_pos (by omega), w64 (by omega) (by omega), show ((i : Int) + 1) = ((i + 1 : Nat) : Int) by omega]
          exact ih (i + 1) k _ (by omega) (by omega) (by rw [List.length_append, List.length_singleton]; omega)
        · exact ⟨_, rfl⟩
    unfold addr_row.l0
    rw [if_pos (by omega), if_pos (by omega), if_pos (by omega)]
    split
    · split
      · unfold strings_Contains.f
        rw [if_pos (by omega), Option.bind_some]
        exact ej _
      · exact ej _
    · exact ej _
theorem row_tot {s : ByteArray} (hs : s.size ≤ 200) (last : Bool) : ∃ r, rowF (s, last) = some r := by
  unfold rowF addr_row.f
  split
  · exact ⟨_, rfl⟩
  · obtain ⟨l, e, h1, h2, h3⟩ := split_tot (s := s) (sep := ⟨#[58]⟩) (by omega) (by decide)
    rw [e, Option.bind_some]
    exact row_l0_tot (by omega) (fun p h => Nat.le_trans (h3 p h) hs) last l.length 0 1000 [] (by omega) (by omega) (by simp)
theorem cut_tot {s : ByteArray} (hs : s.size ≤ 200) : ∃ c, cutF s { data := #[58, 58] } = some c ∧ c.1.size ≤ 200 ∧ c.2.1.size ≤ 200 := by
  refine ⟨_, if_pos (by omega), ?_, ?_⟩
  · unfold cutB Lib.cut
    split
    · show (List.toArray _).size ≤ 200
      have : s.data.toList.length = s.size := rfl
      rw [List.size_toArray, List.length_take]; omega
    · exact hs
  · unfold cutB Lib.cut
    split
    · show (List.toArray _).size ≤ 200
      have : s.data.toList.length = s.size := rfl
      rw [List.size_toArray, List.length_drop]; omega
    · exact Nat.zero_le _
theorem comb4_range (a b c d : Int) : ∃ n : Nat, n < 18446744073709551616 ∧ comb4 a b c d = (n : Int) := or_range _ _
theorem comb8_range (l : List Int) : ∃ m n : Nat, m < 18446744073709551616 ∧ n < 18446744073709551616 ∧ comb8 l = ((m : Int), (n : Int)) := by
  unfold comb8
  split
  · obtain ⟨m, h1, e1⟩ := comb4_range _ _ _ _
    obtain ⟨n, h2, e2⟩ := comb4_range _ _ _ _
    exact ⟨m, n, h1, h2, by rw [e1, e2]⟩
  · exact ⟨0, 0, by decide, by decide, rfl⟩
def Answer (r : Int × Int × Int × Bool) : Prop := (∃ V B q, Kd' V B ∧ q < 2 ^ B ∧ r = (V, H q, L q, true)) ∨ r = (0, 0, 0, false)
theorem six_tot {s : ByteArray} (hs : s.size ≤ 200) : ∃ r, sixF s = some r ∧ Answer r := by
  obtain ⟨c, hc, h1, h2⟩ := cut_tot hs
  obtain ⟨a, ha⟩ := row_tot h1 (!c.2.2)
  obtain ⟨b, hb⟩ := row_tot h2 true
  unfold sixF
  rw [hc, Option.bind_some, ha, Option.bind_some, hb, Option.bind_some]
  split
  · exact ⟨_, rfl, Or.inr rfl⟩
  · refine ⟨_, rfl, Or.inl ?_⟩
    obtain ⟨m, n, hm, hn, e⟩ := comb8_range (a.1 ++ List.replicate (8 - (a.1.length + b.1.length)) 0 ++ b.1)
    rw [e]
    have hM : M64 = 18446744073709551616 := rfl
    refine ⟨6, 128, m * 18446744073709551616 + n, Or.inr ⟨rfl, rfl⟩, by omega, ?_⟩
    have e1 : H (m * 18446744073709551616 + n) = (m : Int) := by unfold H; rw [hM]; omega
    have e2 : L (m * 18446744073709551616 + n) = (n : Int) := by unfold L; rw [hM]; omega
    rw [e1, e2]
theorem parse_tot {s : ByteArray} (hs : s.size ≤ 200) : ∃ r, PPH.addr_Parse.f s = some r ∧ Answer r := by
  unfold PPH.addr_Parse.f strings_Contains.f
  rw [if_pos (by omega), Option.bind_some]
  split
  · obtain ⟨r, hr, ha⟩ := six_tot hs
    have hr' : addr_six.f s = some r := hr
    rw [hr', Option.bind_some]
    exact ⟨_, rfl, ha⟩
  · obtain ⟨r, hr, ha⟩ := four_tot (s := s) (by omega) (k := 1000) (by omega)
    rw [hr, Option.bind_some]
    split
    · rename_i h
      obtain ⟨x, hx, hx2⟩ := ha h
      refine ⟨_, rfl, Or.inl ⟨4, 32, x, Or.inl ⟨rfl, rfl⟩, hx2, ?_⟩⟩
      have hM : M64 = 18446744073709551616 := rfl
      have e1 : H x = 0 := by unfold H; rw [hM]; omega
      have e2 : L x = (x : Int) := by unfold L; rw [hM]; omega
      rw [e1, e2, hx]
    · exact ⟨_, rfl, Or.inr rfl⟩
end Go.Proofs.YtfnacgojmdbjmaaDoor
end

section
/- addr.Print and addr.Ok as calls. -/
namespace Go.Proofs.YtfnacgojmdbjmaaDoor.PPH
open Go.Det Go.RowKit Go.Proofs.YtfnacgojmdbjmaaDoor Go.Proofs.YtfnacgojmdbjmaaDoorW.PrintWords
theorem addr_Print.calls (a0_0 : Int) (a0_1 : Int) (a0_2 : Int) (r : ByteArray) (w : World) (hG : GoodW w) (h : addr_Print.f a0_0 a0_1 a0_2 = some r) :
    Calls Tryd.prog 26 #[.agg #[.int .i64 a0_0, .int .u64 a0_1, .int .u64 a0_2]] w fun e w' => e = .returned (.string r) ∧ Below w.heap.size w w' :=
  calls_of_own (fn := Tryd.f26) (c := bodyOf Tryd.f26) (om26 hG) hG Tryd.func26 (by kernel_rfl) (by kernel_rfl) (args := [.agg #[.int .i64 a0_0, .int .u64 a0_1, .int .u64 a0_2]]) (v := .string r) (opt_own (dec := decA) (enc := enS) (a := (a0_0, a0_1, a0_2)) (b := r) rfl h _) rfl rfl (by intro h; cases h)
theorem addr_Ok.calls (a0_0 : Int) (a0_1 : Int) (a0_2 : Int) (r : Bool) (w : World) (hG : GoodW w) (h : addr_Ok.f a0_0 a0_1 a0_2 = some r) :
    Calls Tryd.prog 31 #[.agg #[.int .i64 a0_0, .int .u64 a0_1, .int .u64 a0_2]] w fun e w' => e = .returned (.bool r) ∧ Below w.heap.size w w' :=
  calls_of_own (fn := Tryd.f31) (c := bodyOf Tryd.f31) (om31 hG) hG Tryd.func31 (by kernel_rfl) (by kernel_rfl) (args := [.agg #[.int .i64 a0_0, .int .u64 a0_1, .int .u64 a0_2]]) (v := .bool r) (opt_own (dec := decA) (enc := enB) (a := (a0_0, a0_1, a0_2)) (b := r) rfl h _) rfl rfl (by intro h; cases h)
end Go.Proofs.YtfnacgojmdbjmaaDoor.PPH
end
