/- Texts of a proof, joined: words of the print (those that are named here) and printed functions. -/
import Derived.Test.YtfnacgojmdbjmaaGreatDoorRv6
import Derived.Test.YtfnacgojmdbjmaaGreatDoorRv3
set_option linter.unusedSimpArgs false
set_option linter.unusedVariables false

section
/- Conditions, reckoned by the kernel. -/
namespace Go.Proofs.YtfnacgojmdbjmaaGreatDoor
open Go.Det Go.RowKit  Go.Proofs.YtfnacgojmdbjmaaGreatDoorW.PrintWords
set_option maxRecDepth 100000
abbrev zy (Q : Value → Prop) (l : List Int) (p : Int × Int) (a b : List Int) : Prop := (zerosF l PUnit.unit = some p) ∧ (true = true ∧ (∃ x : ByteArray, (textF a PUnit.unit = some x) ∧ ((ByteArray.size x + ByteArray.size { data := #[58, 58] } ≤ 9223372036854775807) ∧ (∃ y : ByteArray, (textF b PUnit.unit = some y) ∧ ((ByteArray.size (x ++ { data := #[58, 58] }) + ByteArray.size y ≤ 9223372036854775807) ∧ Q (Value.string (x ++ { data := #[58, 58] } ++ y)))))))
theorem vp31 (v a b : Int) (Q : Value → Prop) : codeU Tryz.prog (cwC []) (oxE []) 1 (bodyOf Tryz.f68) (inTab [.agg #[.int .i64 v, .int .u64 a, .int .u64 b]] 8) (birth [] 64) (retW Tryz.prog Tryz.f68 fun v _ => Q v) = (bifW (cdec (v = 6)) (Q (Value.bool true)) (bifW (cdec (v = 4)) (bifW (cdec (a = 0)) (Q (Value.bool (cdec (b < 4294967296)))) (Q (Value.bool false))) (Q (Value.bool false)))) := by kernel_rfl
theorem vp26 (v a b : Int) (Q : Value → Prop) : codeU Tryz.prog (cwC Lpr) (oxE [17, 41]) 5 (bodyOf Tryz.f70) (inTab [.agg #[.int .i64 v, .int .u64 a, .int .u64 b]] 8) (birth [] 64) (retW Tryz.prog Tryz.f70 fun v _ => Q v) = ((∃ x0 : Bool, ((okF v a b = some x0) ∧ bifW (!x0) (Q (Value.string { data := #[] })) (bifW (cdec (v = 4)) (((true = true) ∧ (((0 : Int) ≤ 24) ∧ (∃ x1 : ByteArray, ((txtF (andI .u64 (shrI .u64 b 24) 255) = some x1) ∧ ((true = true) ∧ (((0 : Int) ≤ 16) ∧ (∃ x2 : ByteArray, ((txtF (andI .u64 (shrI .u64 b (16)) 255) = some x2) ∧ ((true = true) ∧ (((0 : Int) ≤ 8) ∧ (∃ x3 : ByteArray, ((txtF (andI .u64 (shrI .u64 b (8)) 255) = some x3) ∧ ((true = true) ∧ (((0 : Int) ≤ 0) ∧ (∃ x4 : ByteArray, ((txtF (andI .u64 (shrI .u64 b (0)) 255) = some x4) ∧ ((true = true) ∧ (∃ x5 : ByteArray, ((joinF [x1, x2, x3, x4] { data := #[46] } = some x5) ∧ Q (Value.string x5))))))))))))))))))))) ((∃ x1 : Int, (∃ x2 : Int, (∃ x3 : Int, (∃ x4 : Int, (∃ x5 : Int, (∃ x6 : Int, (∃ x7 : Int, (∃ x8 : Int, ((partsI (a, b) = some [x1, x2, x3, x4, x5, x6, x7, x8]) ∧ (((zerosF [x1, x2, x3, x4, x5, x6, x7, x8] PUnit.unit = some (0, 0)) ∧ ((true = true) ∧ (∃ x9 : ByteArray, ((textF [x1, x2, x3, x4, x5, x6, x7, x8] PUnit.unit = some x9) ∧ Q (Value.string x9))))) ∨ ((zy Q [x1, x2, x3, x4, x5, x6, x7, x8] (0, 2) [] [x3, x4, x5, x6, x7, x8]) ∨ ((zy Q [x1, x2, x3, x4, x5, x6, x7, x8] (0, 3) [] [x4, x5, x6, x7, x8]) ∨ ((zy Q [x1, x2, x3, x4, x5, x6, x7, x8] (0, 4) [] [x5, x6, x7, x8]) ∨ ((zy Q [x1, x2, x3, x4, x5, x6, x7, x8] (0, 5) [] [x6, x7, x8]) ∨ ((zy Q [x1, x2, x3, x4, x5, x6, x7, x8] (0, 6) [] [x7, x8]) ∨ ((zy Q [x1, x2, x3, x4, x5, x6, x7, x8] (0, 7) [] [x8]) ∨ ((zy Q [x1, x2, x3, x4, x5, x6, x7, x8] (0, 8) [] []) ∨ ((zy Q [x1, x2, x3, x4, x5, x6, x7, x8] (1, 3) [x1] [x4, x5, x6, x7, x8]) ∨ ((zy Q [x1, x2, x3, x4, x5, x6, x7, x8] (1, 4) [x1] [x5, x6, x7, x8]) ∨ ((zy Q [x1, x2, x3, x4, x5, x6, x7, x8] (1, 5) [x1] [x6, x7, x8]) ∨ ((zy Q [x1, x2, x3, x4, x5, x6, x7, x8] (1, 6) [x1] [x7, x8]) ∨ ((zy Q [x1, x2, x3, x4, x5, x6, x7, x8] (1, 7) [x1] [x8]) ∨ ((zy Q [x1, x2, x3, x4, x5, x6, x7, x8] (1, 8) [x1] []) ∨ ((zy Q [x1, x2, x3, x4, x5, x6, x7, x8] (2, 4) [x1, x2] [x5, x6, x7, x8]) ∨ ((zy Q [x1, x2, x3, x4, x5, x6, x7, x8] (2, 5) [x1, x2] [x6, x7, x8]) ∨ ((zy Q [x1, x2, x3, x4, x5, x6, x7, x8] (2, 6) [x1, x2] [x7, x8]) ∨ ((zy Q [x1, x2, x3, x4, x5, x6, x7, x8] (2, 7) [x1, x2] [x8]) ∨ ((zy Q [x1, x2, x3, x4, x5, x6, x7, x8] (2, 8) [x1, x2] []) ∨ ((zy Q [x1, x2, x3, x4, x5, x6, x7, x8] (3, 5) [x1, x2, x3] [x6, x7, x8]) ∨ ((zy Q [x1, x2, x3, x4, x5, x6, x7, x8] (3, 6) [x1, x2, x3] [x7, x8]) ∨ ((zy Q [x1, x2, x3, x4, x5, x6, x7, x8] (3, 7) [x1, x2, x3] [x8]) ∨ ((zy Q [x1, x2, x3, x4, x5, x6, x7, x8] (3, 8) [x1, x2, x3] []) ∨ ((zy Q [x1, x2, x3, x4, x5, x6, x7, x8] (4, 6) [x1, x2, x3, x4] [x7, x8]) ∨ ((zy Q [x1, x2, x3, x4, x5, x6, x7, x8] (4, 7) [x1, x2, x3, x4] [x8]) ∨ ((zy Q [x1, x2, x3, x4, x5, x6, x7, x8] (4, 8) [x1, x2, x3, x4] []) ∨ ((zy Q [x1, x2, x3, x4, x5, x6, x7, x8] (5, 7) [x1, x2, x3, x4, x5] [x8]) ∨ ((zy Q [x1, x2, x3, x4, x5, x6, x7, x8] (5, 8) [x1, x2, x3, x4, x5] []) ∨ ((zy Q [x1, x2, x3, x4, x5, x6, x7, x8] (6, 8) [x1, x2, x3, x4, x5, x6] []) ∨ False))))))))))))))))))))))))))))))))))))))))))) := by kernel_rfl
end Go.Proofs.YtfnacgojmdbjmaaGreatDoor
end

section
/- addr.Print: what it answers; addr.Ok. No conditions. -/
namespace Go.Proofs.YtfnacgojmdbjmaaGreatDoor
open Go.Det Go.RowKit Go.Proofs.YtfnacgojmdbjmaaGreatDoorW.PrintWords Go.Proofs.YtfnacgojmdbjmaaGreatDoor.PPH
set_option maxRecDepth 100000
theorem wD31 (x : Int × Int × Int) (y : Bool) (hx : okF x.1 x.2.1 x.2.2 = some y) : codeW Tryz.prog (cwC []) (bodyOf Tryz.f68) (inTab [.agg #[.int .i64 x.1, .int .u64 x.2.1, .int .u64 x.2.2]] 8) (birth [] 64) (retW Tryz.prog Tryz.f68 fun v' _ => v' = enB y) := by
  obtain ⟨v, a, b⟩ := x
  refine codeU_codeW (cwC_mono _) (oxE_ok _) (n := 1) (by kernel_rfl) ((vp31 v a b _).mpr ?_)
  unfold okF at hx
  simp only at hx
  repeat' first
    | ((refine bifW_c (fun hc => ?_) (fun hc => ?_)) <;> first | rw [if_pos hc] at hx | rw [if_neg hc] at hx)
    | (cases hx; rfl)
    | (cases hx; simp only [enB, cdec_eq])
theorem omD31 {W : World} (hW : GoodW W) : OwnAll Tryz.prog W 6 68 conD31.own :=
  con_opt (fun x : Int × Int × Int => [.agg #[.int .i64 x.1, .int .u64 x.2.1, .int .u64 x.2.2]]) (Laying.empty hW.size) hW.size (by decide) dt_mixed (ownsAll_nil W 6) Tryz.func68 (fn := Tryz.f68) (c := bodyOf Tryz.f68) (by kernel_rfl) (by kernel_rfl) (fun _ _ h => decA_enc h) (fun a => ⟨rfl, (by kernel_rfl)⟩) (fun b => rfl) wD31
def grp (a b : Int) : List Int := partL a ++ partL b
def dotB : ByteArray := { data := #[46] }
def colB : ByteArray := { data := #[58, 58] }
def pr4 (b : Int) : Option ByteArray := (txtF (andI .u64 (shrI .u64 b 24) 255)).bind fun x1 => (txtF (andI .u64 (shrI .u64 b 16) 255)).bind fun x2 => (txtF (andI .u64 (shrI .u64 b 8) 255)).bind fun x3 => (txtF (andI .u64 (shrI .u64 b 0) 255)).bind fun x4 => joinF [x1, x2, x3, x4] dotB
def pr6 (G : List Int) (ij : Int × Int) : Option ByteArray :=
  if ij = (0, 0) then textF G () else if ij ∈ zpairs then (textF (G.take ij.1.toNat) ()).bind fun s => (textF (G.drop ij.2.toNat) ()).bind fun t => if s.size + 2 + t.size ≤ 1000 then some (s ++ colB ++ t) else none else none
def prF (v a b : Int) : Option ByteArray :=
  (okF v a b).bind fun ok => if ok = true then (if v = 4 then pr4 b else (zerosF (grp a b) ()).bind fun ij => pr6 (grp a b) ij) else some ByteArray.empty
theorem wD26 (x : Int × Int × Int) (y : ByteArray) (hx : prF x.1 x.2.1 x.2.2 = some y) : codeW Tryz.prog (cwC Lpr) (bodyOf Tryz.f70) (inTab [.agg #[.int .i64 x.1, .int .u64 x.2.1, .int .u64 x.2.2]] 8) (birth [] 64) (retW Tryz.prog Tryz.f70 fun v' _ => v' = enS y) := by
  obtain ⟨v, a, b⟩ := x
  refine codeU_codeW (cwC_mono _) (oxE_ok _) (n := 5) (by kernel_rfl) ((vp26 v a b _).mpr ?_)
  unfold prF at hx
  simp only at hx
  obtain ⟨ok, hok, hx⟩ := Option.bind_eq_some_iff.1 hx
  refine ⟨ok, hok, bifW_n (fun h => ?_) (fun h => ?_)⟩
  rotate_left
  · rw [if_neg h] at hx; cases hx; rfl
  rw [if_pos h] at hx
  refine bifW_c (fun h4 => ?_) (fun h4 => ?_)
  · rw [if_pos h4] at hx
    unfold pr4 at hx
    obtain ⟨x1, h1, hx⟩ := Option.bind_eq_some_iff.1 hx
    obtain ⟨x2, h2, hx⟩ := Option.bind_eq_some_iff.1 hx
    obtain ⟨x3, h3, hx⟩ := Option.bind_eq_some_iff.1 hx
    obtain ⟨x4, h4, hx⟩ := Option.bind_eq_some_iff.1 hx
    exact ⟨rfl, by decide, x1, h1, rfl, by decide, x2, h2, rfl, by decide, x3, h3, rfl, by decide, x4, h4, rfl, y, hx, rfl⟩
  · rw [if_neg h4] at hx
    obtain ⟨ij, hz, hx⟩ := Option.bind_eq_some_iff.1 hx
    refine ⟨_, _, _, _, _, _, _, _, rfl, ?_⟩
    unfold pr6 at hx
    split at hx
    · rename_i he
      subst he
      exact .inl ⟨hz, rfl, y, hx, rfl⟩
    · split at hx
      case isFalse => cases hx
      rename_i h0 hm
      obtain ⟨s, hs, hx⟩ := Option.bind_eq_some_iff.1 hx
      obtain ⟨t, ht, hx⟩ := Option.bind_eq_some_iff.1 hx
      split at hx
      case isFalse => cases hx
      rename_i hsz
      cases hx
      have e1 : s.size + ByteArray.size { data := #[58, 58] } ≤ 9223372036854775807 := by
        have : ByteArray.size { data := #[58, 58] } = 2 := rfl
        omega
      have e2 : (s ++ ({ data := #[58, 58] } : ByteArray)).size + t.size ≤ 9223372036854775807 := by
        have : ByteArray.size { data := #[58, 58] } = 2 := rfl
        rw [ByteArray.size_append]
        omega
      simp only [zpairs, List.mem_cons, List.not_mem_nil, or_false] at hm
      rcases hm with rfl | hm
      · exact absurd rfl h0
      refine .inr ?_
      repeat' (rcases hm with rfl | hm)
      all_goals (repeat' (first | exact Or.inl ⟨hz, rfl, s, hs, e1, t, ht, e2, rfl⟩ | exact ⟨hz, rfl, s, hs, e1, t, ht, e2, rfl⟩ | refine Or.inr ?_))
noncomputable def conD26 : Con := Con.opt decA (fun x => prF x.1 x.2.1 x.2.2) enS
theorem ownPr {W : World} (hW : GoodW W) : OwnsAll Tryz.prog W 6 (extC Lpr) :=
  OwnsAll.con (omD31 hW) (OwnsAll.con (omD54 hW) (OwnsAll.con (omD55 hW) (OwnsAll.con (c := conD56n) (omD56 hW) (OwnsAll.con (c := conD57) (omD57 hW) (OwnsAll.con (c := conD58) (omD58 hW) (ownsAll_nil W 6))))))
theorem omD26 {W : World} (hW : GoodW W) : OwnAll Tryz.prog W 6 70 conD26.own :=
  con_opt (fun x : Int × Int × Int => [.agg #[.int .i64 x.1, .int .u64 x.2.1, .int .u64 x.2.2]]) (Laying.empty hW.size) hW.size (by decide) dt_mixed (ownPr hW) Tryz.func70 (fn := Tryz.f70) (c := bodyOf Tryz.f70) (by kernel_rfl) (by kernel_rfl) (fun _ _ h => decA_enc h) (fun a => ⟨rfl, (by kernel_rfl)⟩) (fun b => rfl) wD26
end Go.Proofs.YtfnacgojmdbjmaaGreatDoor
end

section
/- Printed by a program of this claim: Go functions as plain Lean functions, and that their calls come to them. -/
namespace Go.Proofs.YtfnacgojmdbjmaaGreatDoor.PRD
open Go.RowKit Go.Proofs.YtfnacgojmdbjmaaGreatDoorW.PrintWords Go.Proofs.YtfnacgojmdbjmaaGreatDoorW.PrintLast Go.Proofs.YtfnacgojmdbjmaaGreatDoorW.PrintMore
attribute [local go_sem] max2_int min2_int max_two min_two max_three min_three max_four min_four
open Go.Det (inQ M64 M128 qn addN highN clampN)
set_option linter.unusedVariables false
set_option linter.unusedSimpArgs false
def gleberef1_Mask.l0 : Nat → Int → Int → Int → Int → Option (Int × Int)
  | 0, _, _, _, _ => none
  | k + 1, x0, x4, x103000, x103001 => if x4 < x0 then (if x4 < 64 then (if 0 ≤ (IntKind.u64.wrap (wrap64 (63 - x4))) then (gleberef1_Mask.l0 k x0 (wrap64 (x4 + 1)) (Go.bits .or .u64 x103000 (shl .u64 1 (IntKind.u64.wrap (wrap64 (63 - x4))))) x103001) else (none)) else (if 0 ≤ (IntKind.u64.wrap (wrap64 (127 - x4))) then (gleberef1_Mask.l0 k x0 (wrap64 (x4 + 1)) x103000 (Go.bits .or .u64 x103001 (shl .u64 1 (IntKind.u64.wrap (wrap64 (127 - x4)))))) else (none))) else (some (x103000, x103001))
def gleberef1_Mask.f (k : Nat) (a0 : Int) : Option (Int × Int) := gleberef1_Mask.l0 k (mn (mx a0 0) 128) 0 0 0
theorem gleberef1_Mask.mono_l : ∀ k, (∀ y0 y1 y2 y3, LeO (gleberef1_Mask.l0 k y0 y1 y2 y3) (gleberef1_Mask.l0 (k + 1) y0 y1 y2 y3))
  | 0 => fun _ _ _ _ r h => by simp [gleberef1_Mask.l0] at h
  | k + 1 => by
    have ih0 := gleberef1_Mask.mono_l k
    · intro y0 y1 y2 y3
      unfold gleberef1_Mask.l0
      repeat' first
      | (with_reducible exact ih0 _ _ _ _)
      | (with_reducible exact LeO.refl _)
      | (with_reducible exact LeO.none _)
      | (with_reducible refine LeO.ite ?_ ?_)
      | (with_reducible refine LeO.bind ?_ (fun _ => ?_))
      | exact ih0 _ _ _ _
      | exact LeO.none _
      | refine LeO.ite ?_ ?_
      | refine LeO.bind ?_ (fun _ => ?_)
theorem gleberef1_Mask.mono : ∀ a0 k, LeO (gleberef1_Mask.f k a0) (gleberef1_Mask.f (k + 1) a0) := by
  intro a0 k
  have ih0 := gleberef1_Mask.mono_l k
  unfold gleberef1_Mask.f
  repeat' first
      | (with_reducible exact ih0 _ _ _ _)
      | (with_reducible exact LeO.refl _)
      | (with_reducible exact LeO.none _)
      | (with_reducible refine LeO.ite ?_ ?_)
      | (with_reducible refine LeO.bind ?_ (fun _ => ?_))
      | exact ih0 _ _ _ _
      | exact LeO.none _
      | refine LeO.ite ?_ ?_
      | refine LeO.bind ?_ (fun _ => ?_)
set_option maxHeartbeats 8000000 in
set_option maxRecDepth 100000 in
theorem gleberef1_Mask.calls (k : Nat) (a0 : Int) (r1 : Int) (r2 : Int) (w : World) (hG : GoodW w) (h : gleberef1_Mask.f k a0 = some (r1, r2)) :
    Calls Tryz.prog 56 #[.int .i64 a0] w fun e w' => e = .returned (.agg #[.int .u64 r1, .int .u64 r2]) ∧ Below w.heap.size w w' := by
  have hu26 := Tryz.underlying26
  have HB := Aside0.mk (Below.refl w.heap.size w)
  have H : (gleberef1_Mask.l0 k (mn (mx a0 0) 128) 0 0 0) = some (r1, r2) := h
  clear h
  obtain ⟨ji2, hji2⟩ : ∃ j_ : Int, (mx a0 0) = j_ := ⟨_, rfl⟩
  replace H : (gleberef1_Mask.l0 k (mn (ji2) 128) 0 0 0) = some (r1, r2) := by first | (rw [hji2] at H; exact H) | (simp only [hji2] at H ⊢; exact H)
  (try (have hji2l : 0 ≤ ji2 := by (rw [← hji2]; unfold mx; (repeat' split) <;> omega)))
  (try (have hji2m : 0 ≤ ji2 := by omega))
  have hji2_ : (if a0 < 0 then 0 else a0) = ji2 := hji2
  obtain ⟨ji3, hji3⟩ : ∃ j_ : Int, (mn (ji2) 128) = j_ := ⟨_, rfl⟩
  replace H : (gleberef1_Mask.l0 k ji3 0 0 0) = some (r1, r2) := by first | (rw [hji3] at H; exact H) | (simp only [hji3] at H ⊢; exact H)
  have hji3_ : (if 128 < (ji2) then 128 else (ji2)) = ji3 := hji3
  have H' := Aside0.mk H
  clear H
  go_enter Tryz.func56, Tryz.ntmps56
  go_wp2_with (first | ((with_reducible refine gate_dst (N := 2) rfl ?_); refine box_event ?hg (N := 2) ?hd (cs := #[.int .u64 0, .int .u64 0]) (t := 26) ?hr ?_; (case hd => rfl); (case hg => rfl); (case hr => first | (go_simp; done) | (go_simp; rfl)); intro gb101 hg w4 hbox hb; have n0_ := Aside0.mk (below_step (by repeat (first | (with_reducible first | exact HB.out | apply below_alloc | apply pw_below_drewN | apply below_drew1) | exact HB.out)) hb); have n1_ := Aside0.mk (hbox); have n2_ := Aside0.mk ((by rw [hg]; exact (below_size (by repeat (first | (with_reducible first | exact HB.out | apply below_alloc | apply pw_below_drewN | apply below_drew1) | exact HB.out))) : w.heap.size ≤ gb101)); have n3_ := Aside0.mk ((by rw [hg]; exact (below_size (by repeat (first | (with_reducible first | exact HB.out | apply below_alloc | apply pw_below_drewN | apply below_drew1) | exact HB.out))) : w.heap.size ≤ gb101)); clear HB; have HB := n0_; have BK101 := n1_; have GW101 := n2_; have GE101 := n3_; clear n0_ n1_ n2_ n3_; clear hb hbox hg) | ((with_reducible refine gate_dst (N := 3) rfl ?_); refine box_event ?hg (N := 3) ?hd (cs := #[.int .u64 0, .int .u64 0]) (t := 26) ?hr ?_; (case hd => rfl); (case hg => rfl); (case hr => first | (go_simp; done) | (go_simp; rfl)); intro gb102 hg w5 hbox hb; have n0_ := Aside0.mk (blk_below (g := gb101) (o := .cells #[.int .u64 0, .int .u64 0] 26 (0, 0)) (by (with_reducible repeat (first | refine blk_drewN ?_ _ | refine blk_drew ?_ | refine blk_alloc ?_ _)); exact BK101.out) hb); have n1_ := Aside0.mk (below_step (by repeat (first | (with_reducible first | exact HB.out | apply below_alloc | apply pw_below_drewN | apply below_drew1 | refine below_set ?_ GE101.out) | exact HB.out)) hb); have n2_ := Aside0.mk (hbox); have n3_ := Aside0.mk ((by rw [hg]; exact (below_size (by repeat (first | (with_reducible first | exact HB.out | apply below_alloc | apply pw_below_drewN | apply below_drew1 | refine below_set ?_ GE101.out) | exact HB.out))) : w.heap.size ≤ gb102)); have n4_ := Aside0.mk ((by rw [hg]; exact (below_size (by repeat (first | (with_reducible first | exact HB.out | apply below_alloc | apply pw_below_drewN | apply below_drew1 | refine below_set ?_ GE101.out) | exact HB.out))) : w.heap.size ≤ gb102)); have n5_ := Aside0.mk ((by rw [hg]; exact Nat.ne_of_lt (blk_lt (g := gb101) (o := .cells #[.int .u64 0, .int .u64 0] 26 (0, 0)) (by (with_reducible repeat (first | refine blk_drewN ?_ _ | refine blk_drew ?_ | refine blk_alloc ?_ _)); exact BK101.out)) : gb101 ≠ gb102)); have n6_ := Aside0.mk ((by rw [hg]; exact Nat.ne_of_gt (blk_lt (g := gb101) (o := .cells #[.int .u64 0, .int .u64 0] 26 (0, 0)) (by (with_reducible repeat (first | refine blk_drewN ?_ _ | refine blk_drew ?_ | refine blk_alloc ?_ _)); exact BK101.out)) : gb102 ≠ gb101)); clear BK101; clear HB; have BK101 := n0_; have HB := n1_; have BK102 := n2_; have GW102 := n3_; have GE102 := n4_; have NB101_102 := n5_; have NB102_101 := n6_; clear n0_ n1_ n2_ n3_ n4_ n5_ n6_; clear hb hbox hg; have hnb6 := NB102_101.out; have hnc6 := NB101_102.out; have hcz7_0 : w5.cell? ⟨gb102, 0, none⟩ = some (.int .u64 0) := (blk_cell BK102.out 0).trans rfl; have hcz7_1 : w5.cell? ⟨gb102, 1, none⟩ = some (.int .u64 0) := (blk_cell BK102.out 1).trans rfl; have hfz7_0 := blk_frozen BK102.out 0; have hfz7_1 := blk_frozen BK102.out 1))
  go_loopg [4] k (fun kq v4 w' => ∃ (x4_1 : Int) (x103000_1 : Int) (x103001_1 : Int), v4 = .int .i64 x4_1 ∧ Aside0 (gleberef1_Mask.l0 kq ji3 x4_1 x103000_1 x103001_1 = some (r1, r2)) ∧ Aside0 (kq ≤ k) ∧ Aside0 (w'.heap[gb101]? = some (.cells #[.int .u64 0, .int .u64 0] 26 (0, 0))) ∧ Aside0 (w'.heap[gb102]? = some (.cells #[.int .u64 x103000_1, .int .u64 x103001_1] 26 (0, 0))) ∧ Aside0 (Below w.heap.size w w'))
  case atStart => exact ⟨(0), (0), (0), (by first | rfl | (simp; done) | (simp [*]; done)), H', ⟨Nat.le_refl _⟩, ⟨by (with_reducible repeat (first | refine blk_drewN ?_ _ | refine blk_drew ?_ | refine blk_alloc ?_ _)); refine blk_far ?_ NB101_102.out _; (with_reducible repeat (first | refine blk_drewN ?_ _ | refine blk_drew ?_ | refine blk_alloc ?_ _)); refine blk_far ?_ NB101_102.out _; (with_reducible repeat (first | refine blk_drewN ?_ _ | refine blk_drew ?_ | refine blk_alloc ?_ _)); exact BK101.out⟩, ⟨by (with_reducible repeat (first | refine blk_drewN ?_ _ | refine blk_drew ?_ | refine blk_alloc ?_ _)); refine blk_put (cs := #[.int .u64 0, .int .u64 0]) ?_ 1 _ rfl; (with_reducible repeat (first | refine blk_drewN ?_ _ | refine blk_drew ?_ | refine blk_alloc ?_ _)); refine blk_put (cs := #[.int .u64 0, .int .u64 0]) ?_ 0 _ rfl; (with_reducible repeat (first | refine blk_drewN ?_ _ | refine blk_drew ?_ | refine blk_alloc ?_ _)); exact BK102.out⟩, ⟨by repeat (first | (with_reducible first | exact HB.out | apply below_alloc | apply pw_below_drewN | apply below_drew1 | refine below_set ?_ GE101.out | refine below_set ?_ GE102.out) | exact HB.out)⟩⟩
  case round =>
    clear H'
    try clear p2
    try clear c5
    try clear c6
    try clear hcz7_0
    try clear hcz7_1
    try clear hfz7_0
    try clear hfz7_1
    obtain ⟨x4_1, x103000_1, x103001_1, rfl, HA, HK1, BK101, BK102, HB⟩ := hrel
    cases gk with
    | zero => exact absurd HA.out (by simp [gleberef1_Mask.l0])
    | succ k1 =>
      have H := HA.out
      clear HA
      simp only [gleberef1_Mask.l0] at H
      by_cases c8 : x4_1 < ji3
      · rw [if_pos c8] at H
        have c8b0 : decide (x4_1 < ji3) = true := decide_eq_true c8
        clear c8
        by_cases c9 : x4_1 < 64
        · rw [if_pos c9] at H
          have c9b0 : decide (x4_1 < 64) = true := decide_eq_true c9
          clear c9
          obtain ⟨ji10, hji10⟩ : ∃ j_ : Int, (IntKind.u64.wrap (wrap64 (63 - x4_1))) = j_ := ⟨_, rfl⟩
          replace H : (if 0 ≤ (ji10) then (gleberef1_Mask.l0 k1 ji3 (wrap64 (x4_1 + 1)) (Go.bits .or .u64 x103000_1 (shl .u64 1 (ji10))) x103001_1) else (none)) = some (r1, r2) := by first | (rw [hji10] at H; exact H) | (simp only [hji10] at H ⊢; exact H)
          by_cases c11 : 0 ≤ (ji10)
          · rw [if_pos c11] at H
            have c11b0 := eq_true c11
            have c11b1 : decide (0 ≤ (ji10)) = true := decide_eq_true c11
            clear c11
            obtain ⟨ji12, hji12⟩ : ∃ j_ : Int, (shl .u64 1 (ji10)) = j_ := ⟨_, rfl⟩
            replace H : (gleberef1_Mask.l0 k1 ji3 (wrap64 (x4_1 + 1)) (Go.bits .or .u64 x103000_1 (ji12)) x103001_1) = some (r1, r2) := by first | (rw [hji12] at H; exact H) | (simp only [hji12] at H ⊢; exact H)
            have hji12_ : (IntKind.u64.wrap (1 * 2 ^ min (ji10).toNat 64)) = ji12 := hji12
            have hji12z : (ji10) ≤ 64 → (IntKind.u64.wrap (1 * 2 ^ (ji10).toNat)) = ji12 := shl_small hji12
            have hji12u : (IntKind.u64.wrap (2 ^ min (ji10).toNat 64)) = ji12 := by have h_ := hji12_; rw [Int.one_mul] at h_; exact h_
            have hji12v : (ji10) ≤ 64 → (IntKind.u64.wrap (2 ^ (ji10).toNat)) = ji12 := fun hle_ => by have h_ := hji12z hle_; rw [Int.one_mul] at h_; exact h_
            have H' := Aside0.mk H
            clear H
            have hnb13 := NB102_101.out
            have hnc13 := NB101_102.out
            have hcz14_0 : wr.cell? ⟨gb102, 0, none⟩ = some (.int .u64 x103000_1) := (blk_cell BK102.out 0).trans rfl
            have hcz14_1 : wr.cell? ⟨gb102, 1, none⟩ = some (.int .u64 x103001_1) := (blk_cell BK102.out 1).trans rfl
            have hfz14_0 := blk_frozen BK102.out 0
            have hfz14_1 := blk_frozen BK102.out 1
            go_wp2
            go_roundg k1
            case measure => have := HK1.out; omega
            case rel => exact ⟨(wrap64 (x4_1 + 1)), (Go.bits .or .u64 x103000_1 (ji12)), (x103001_1), (by first | rfl | (simp; done) | (simp [*]; done)), H', ⟨by have := HK1.out; omega⟩, ⟨by (with_reducible repeat (first | refine blk_drewN ?_ _ | refine blk_drew ?_ | refine blk_alloc ?_ _)); refine blk_far ?_ NB101_102.out _; (with_reducible repeat (first | refine blk_drewN ?_ _ | refine blk_drew ?_ | refine blk_alloc ?_ _)); exact BK101.out⟩, ⟨by (with_reducible repeat (first | refine blk_drewN ?_ _ | refine blk_drew ?_ | refine blk_alloc ?_ _)); refine blk_put (cs := #[.int .u64 x103000_1, .int .u64 x103001_1]) ?_ 0 _ rfl; (with_reducible repeat (first | refine blk_drewN ?_ _ | refine blk_drew ?_ | refine blk_alloc ?_ _)); exact BK102.out⟩, ⟨by repeat (first | (with_reducible first | exact HB.out | apply below_alloc | apply pw_below_drewN | apply below_drew1 | refine below_set ?_ GE101.out | refine below_set ?_ GE102.out) | exact HB.out)⟩⟩
          · rw [if_neg c11] at H
            exact absurd H (by simp)
        · rw [if_neg c9] at H
          have c9b0 : decide (x4_1 < 64) = false := decide_eq_false c9
          clear c9
          obtain ⟨ji15, hji15⟩ : ∃ j_ : Int, (IntKind.u64.wrap (wrap64 (127 - x4_1))) = j_ := ⟨_, rfl⟩
          replace H : (if 0 ≤ (ji15) then (gleberef1_Mask.l0 k1 ji3 (wrap64 (x4_1 + 1)) x103000_1 (Go.bits .or .u64 x103001_1 (shl .u64 1 (ji15)))) else (none)) = some (r1, r2) := by first | (rw [hji15] at H; exact H) | (simp only [hji15] at H ⊢; exact H)
          by_cases c16 : 0 ≤ (ji15)
          · rw [if_pos c16] at H
            have c16b0 := eq_true c16
            have c16b1 : decide (0 ≤ (ji15)) = true := decide_eq_true c16
            clear c16
            obtain ⟨ji17, hji17⟩ : ∃ j_ : Int, (shl .u64 1 (ji15)) = j_ := ⟨_, rfl⟩
            replace H : (gleberef1_Mask.l0 k1 ji3 (wrap64 (x4_1 + 1)) x103000_1 (Go.bits .or .u64 x103001_1 (ji17))) = some (r1, r2) := by first | (rw [hji17] at H; exact H) | (simp only [hji17] at H ⊢; exact H)
            have hji17_ : (IntKind.u64.wrap (1 * 2 ^ min (ji15).toNat 64)) = ji17 := hji17
            have hji17z : (ji15) ≤ 64 → (IntKind.u64.wrap (1 * 2 ^ (ji15).toNat)) = ji17 := shl_small hji17
            have hji17u : (IntKind.u64.wrap (2 ^ min (ji15).toNat 64)) = ji17 := by have h_ := hji17_; rw [Int.one_mul] at h_; exact h_
            have hji17v : (ji15) ≤ 64 → (IntKind.u64.wrap (2 ^ (ji15).toNat)) = ji17 := fun hle_ => by have h_ := hji17z hle_; rw [Int.one_mul] at h_; exact h_
            have H' := Aside0.mk H
            clear H
            have hnb18 := NB102_101.out
            have hnc18 := NB101_102.out
            have hcz19_0 : wr.cell? ⟨gb102, 0, none⟩ = some (.int .u64 x103000_1) := (blk_cell BK102.out 0).trans rfl
            have hcz19_1 : wr.cell? ⟨gb102, 1, none⟩ = some (.int .u64 x103001_1) := (blk_cell BK102.out 1).trans rfl
            have hfz19_0 := blk_frozen BK102.out 0
            have hfz19_1 := blk_frozen BK102.out 1
            go_wp2
            go_roundg k1
            case measure => have := HK1.out; omega
            case rel => exact ⟨(wrap64 (x4_1 + 1)), (x103000_1), (Go.bits .or .u64 x103001_1 (ji17)), (by first | rfl | (simp; done) | (simp [*]; done)), H', ⟨by have := HK1.out; omega⟩, ⟨by (with_reducible repeat (first | refine blk_drewN ?_ _ | refine blk_drew ?_ | refine blk_alloc ?_ _)); refine blk_far ?_ NB101_102.out _; (with_reducible repeat (first | refine blk_drewN ?_ _ | refine blk_drew ?_ | refine blk_alloc ?_ _)); exact BK101.out⟩, ⟨by (with_reducible repeat (first | refine blk_drewN ?_ _ | refine blk_drew ?_ | refine blk_alloc ?_ _)); refine blk_put (cs := #[.int .u64 x103000_1, .int .u64 x103001_1]) ?_ 1 _ rfl; (with_reducible repeat (first | refine blk_drewN ?_ _ | refine blk_drew ?_ | refine blk_alloc ?_ _)); exact BK102.out⟩, ⟨by repeat (first | (with_reducible first | exact HB.out | apply below_alloc | apply pw_below_drewN | apply below_drew1 | refine below_set ?_ GE101.out | refine below_set ?_ GE102.out) | exact HB.out)⟩⟩
          · rw [if_neg c16] at H
            exact absurd H (by simp)
      · rw [if_neg c8] at H
        have c8b0 : decide (x4_1 < ji3) = false := decide_eq_false c8
        clear c8
        simp only [Option.some.injEq, Prod.mk.injEq] at H
        obtain ⟨rfl, rfl⟩ := H
        have hnb20 := NB102_101.out
        have hnc20 := NB101_102.out
        have hcz21_0 : wr.cell? ⟨gb102, 0, none⟩ = some (.int .u64 x103000_1) := (blk_cell BK102.out 0).trans rfl
        have hcz21_1 : wr.cell? ⟨gb102, 1, none⟩ = some (.int .u64 x103001_1) := (blk_cell BK102.out 1).trans rfl
        have hfz21_0 := blk_frozen BK102.out 0
        have hfz21_1 := blk_frozen BK102.out 1
        have hcz22_0 : wr.cell? ⟨gb101, 0, none⟩ = some (.int .u64 0) := (blk_cell BK101.out 0).trans rfl
        have hcz22_1 : wr.cell? ⟨gb101, 1, none⟩ = some (.int .u64 0) := (blk_cell BK101.out 1).trans rfl
        have hfz22_0 := blk_frozen BK101.out 0
        have hfz22_1 := blk_frozen BK101.out 1
        go_wp2
        refine bodyPost_ret (results_cell_row rfl _ _ gb101 26 #[.int .u64 x103000_1, .int .u64 x103001_1] (0, 0) _ rfl (by (with_reducible repeat (first | refine blk_drewN ?_ _ | refine blk_drew ?_ | refine blk_alloc ?_ _)); refine blk_put (cs := #[.int .u64 x103000_1, .int .u64 0]) ?_ 1 _ rfl; (with_reducible repeat (first | refine blk_drewN ?_ _ | refine blk_drew ?_ | refine blk_alloc ?_ _)); refine blk_put (cs := #[.int .u64 0, .int .u64 0]) ?_ 0 _ rfl; (with_reducible repeat (first | refine blk_drewN ?_ _ | refine blk_drew ?_ | refine blk_alloc ?_ _)); exact BK101.out) Tryz.underlying26 rfl (by kernel_rfl)) rfl ?_
        exact ⟨by first | rfl | (simp [errW_none, errW_some] <;> rfl) | (simp only [← hji2, ← hji3]; first | rfl | (simp [errW_none, errW_some] <;> rfl)) | (simp [*, errW_none, errW_some] <;> rfl), by repeat (first | (with_reducible first | exact HB.out | apply below_alloc | apply pw_below_drewN | apply below_drew1 | refine below_set ?_ GE101.out | refine below_set ?_ GE102.out) | exact HB.out)⟩
def glebelaw2_Addr.l0 : Nat → Int → Int → Int → Int → Option (Int × Int × Int)
  | 0, _, _, _, _ => none
  | k + 1, x0, x8, x105000, x105001 => if x8 < 8 then (if 0 ≤ (IntKind.u64.wrap (wrap64 (x8 + 1))) then (if (Go.bits .and .i64 (shr .i64 x0 (IntKind.u64.wrap (wrap64 (x8 + 1)))) 1) = 1 then (if x8 < 4 then (if 0 ≤ (IntKind.u64.wrap (wrap64 (16 * x8))) then (glebelaw2_Addr.l0 k x0 (wrap64 (x8 + 1)) (Go.bits .andNot .u64 x105000 (shl .u64 65535 (IntKind.u64.wrap (wrap64 (16 * x8))))) x105001) else (none)) else (if 0 ≤ (IntKind.u64.wrap (wrap64 (16 * (wrap64 (x8 - 4))))) then (glebelaw2_Addr.l0 k x0 (wrap64 (x8 + 1)) x105000 (Go.bits .andNot .u64 x105001 (shl .u64 65535 (IntKind.u64.wrap (wrap64 (16 * (wrap64 (x8 - 4)))))))) else (none))) else (glebelaw2_Addr.l0 k x0 (wrap64 (x8 + 1)) x105000 x105001)) else (none)) else (some (6, x105000, x105001))
def glebelaw2_Addr.f (k : Nat) (a0 : Int) (a1 : Int) (a2 : Int) : Option (Int × Int × Int) := if (Go.bits .and .i64 a0 1) = 0 then (if 0 ≤ (IntKind.u64.wrap (wrap64 ((Go.bits .and .i64 (a0 / 2) 3) * 8))) then (some (4, 0, shr .u64 (Go.bits .and .u64 a1 4294967295) (IntKind.u64.wrap (wrap64 ((Go.bits .and .i64 (a0 / 2) 3) * 8))))) else (none)) else (glebelaw2_Addr.l0 k a0 0 a1 a2)
set_option maxHeartbeats 8000000 in
set_option maxRecDepth 100000 in
theorem glebelaw2_Addr.calls (k : Nat) (a0 : Int) (a1 : Int) (a2 : Int) (r1 : Int) (r2 : Int) (r3 : Int) (w : World) (hG : GoodW w) (h : glebelaw2_Addr.f k a0 a1 a2 = some (r1, r2, r3)) :
    Calls Tryz.prog 42 #[.int .i64 a0, .int .u64 a1, .int .u64 a2] w fun e w' => e = .returned (.agg #[.int .i64 r1, .int .u64 r2, .int .u64 r3]) ∧ Below w.heap.size w w' := by
  have hu28 := Tryz.underlying28
  have hu26 := Tryz.underlying26
  have HB := Aside0.mk (Below.refl w.heap.size w)
  have H : (if (Go.bits .and .i64 a0 1) = 0 then (if 0 ≤ (IntKind.u64.wrap (wrap64 ((Go.bits .and .i64 (a0 / 2) 3) * 8))) then (some (4, 0, shr .u64 (Go.bits .and .u64 a1 4294967295) (IntKind.u64.wrap (wrap64 ((Go.bits .and .i64 (a0 / 2) 3) * 8))))) else (none)) else (glebelaw2_Addr.l0 k a0 0 a1 a2)) = some (r1, r2, r3) := h
  clear h
  by_cases c4 : (Go.bits .and .i64 a0 1) = 0
  · rw [if_pos c4] at H
    have c4b0 : ((Go.bits .and .i64 a0 1) == 0) = true := beq_iff_eq.mpr c4
    have c4b1 : ((Go.bits .and .i64 a0 1) != 0) = false := bne_eq_false_iff_eq.mpr c4
    clear c4
    obtain ⟨ji5, hji5⟩ : ∃ j_ : Int, (IntKind.u64.wrap (wrap64 ((Go.bits .and .i64 (a0 / 2) 3) * 8))) = j_ := ⟨_, rfl⟩
    replace H : (if 0 ≤ (ji5) then (some (4, 0, shr .u64 (Go.bits .and .u64 a1 4294967295) (ji5))) else (none)) = some (r1, r2, r3) := by first | (rw [hji5] at H; exact H) | (simp only [hji5] at H ⊢; exact H)
    by_cases c6 : 0 ≤ (ji5)
    · rw [if_pos c6] at H
      have c6b0 := eq_true c6
      have c6b1 : decide (0 ≤ (ji5)) = true := decide_eq_true c6
      clear c6
      obtain ⟨ji7, hji7⟩ : ∃ j_ : Int, (shr .u64 (Go.bits .and .u64 a1 4294967295) (ji5)) = j_ := ⟨_, rfl⟩
      replace H : (some (4, 0, ji7)) = some (r1, r2, r3) := by first | (rw [hji7] at H; exact H) | (simp only [hji7] at H ⊢; exact H)
      have hji7_ : ((Go.bits .and .u64 a1 4294967295) / 2 ^ min (ji5).toNat 64) = ji7 := hji7
      have hji7z : (ji5) ≤ 64 → ((Go.bits .and .u64 a1 4294967295) / 2 ^ (ji5).toNat) = ji7 := shr_small hji7
      simp only [Option.some.injEq, Prod.mk.injEq] at H
      obtain ⟨rfl, rfl, rfl⟩ := H
      go_enter Tryz.func42, Tryz.ntmps42
      go_wp2_with (first | ((with_reducible refine gate_dst (N := 6) rfl ?_); refine box_event ?hg (N := 6) ?hd (cs := #[.int .i64 0, .int .u64 0, .int .u64 0]) (t := 28) ?hr ?_; (case hd => rfl); (case hg => rfl); (case hr => first | (go_simp; done) | (go_simp; rfl)); intro gb103 hg w8 hbox hb; have n0_ := Aside0.mk (below_step (by repeat (first | (with_reducible first | exact HB.out | apply below_alloc | apply pw_below_drewN | apply below_drew1) | exact HB.out)) hb); have n1_ := Aside0.mk (hbox); have n2_ := Aside0.mk ((by rw [hg]; exact (below_size (by repeat (first | (with_reducible first | exact HB.out | apply below_alloc | apply pw_below_drewN | apply below_drew1) | exact HB.out))) : w.heap.size ≤ gb103)); have n3_ := Aside0.mk ((by rw [hg]; exact (below_size (by repeat (first | (with_reducible first | exact HB.out | apply below_alloc | apply pw_below_drewN | apply below_drew1) | exact HB.out))) : w.heap.size ≤ gb103)); clear HB; have HB := n0_; have BK103 := n1_; have GW103 := n2_; have GE103 := n3_; clear n0_ n1_ n2_ n3_; clear hb hbox hg; have hcz9_0 : w8.cell? ⟨gb103, 0, none⟩ = some (.int .i64 0) := (blk_cell BK103.out 0).trans rfl; have hcz9_1 : w8.cell? ⟨gb103, 1, none⟩ = some (.int .u64 0) := (blk_cell BK103.out 1).trans rfl; have hcz9_2 : w8.cell? ⟨gb103, 2, none⟩ = some (.int .u64 0) := (blk_cell BK103.out 2).trans rfl; have hfz9_0 := blk_frozen BK103.out 0; have hfz9_1 := blk_frozen BK103.out 1; have hfz9_2 := blk_frozen BK103.out 2))
      refine bodyPost_ret (results_cell_row rfl _ _ gb103 28 #[.int .i64 4, .int .u64 0, .int .u64 ji7] (0, 0) _ rfl (by (with_reducible repeat (first | refine blk_drewN ?_ _ | refine blk_drew ?_ | refine blk_alloc ?_ _)); refine blk_put (cs := #[.int .i64 4, .int .u64 0, .int .u64 0]) ?_ 2 _ rfl; (with_reducible repeat (first | refine blk_drewN ?_ _ | refine blk_drew ?_ | refine blk_alloc ?_ _)); refine blk_put (cs := #[.int .i64 4, .int .u64 0, .int .u64 0]) ?_ 1 _ rfl; (with_reducible repeat (first | refine blk_drewN ?_ _ | refine blk_drew ?_ | refine blk_alloc ?_ _)); refine blk_put (cs := #[.int .i64 0, .int .u64 0, .int .u64 0]) ?_ 0 _ rfl; (with_reducible repeat (first | refine blk_drewN ?_ _ | refine blk_drew ?_ | refine blk_alloc ?_ _)); exact BK103.out) Tryz.underlying28 rfl (by kernel_rfl)) rfl ?_
      exact ⟨by first | rfl | (simp [errW_none, errW_some] <;> rfl) | (simp only [← hji5, ← hji7]; first | rfl | (simp [errW_none, errW_some] <;> rfl)) | (simp [*, errW_none, errW_some] <;> rfl), by repeat (first | (with_reducible first | exact HB.out | apply below_alloc | apply pw_below_drewN | apply below_drew1 | refine below_set ?_ GE103.out) | exact HB.out)⟩
    · rw [if_neg c6] at H
      exact absurd H (by simp)
  · rw [if_neg c4] at H
    have c4b0 : ((Go.bits .and .i64 a0 1) == 0) = false := beq_eq_false_iff_ne.mpr c4
    have c4b1 : ((Go.bits .and .i64 a0 1) != 0) = true := bne_iff_ne.mpr c4
    have H' := Aside0.mk H
    clear H
    go_enter Tryz.func42, Tryz.ntmps42
    go_wp2_with (first | ((with_reducible refine gate_dst (N := 6) rfl ?_); refine box_event ?hg (N := 6) ?hd (cs := #[.int .i64 0, .int .u64 0, .int .u64 0]) (t := 28) ?hr ?_; (case hd => rfl); (case hg => rfl); (case hr => first | (go_simp; done) | (go_simp; rfl)); intro gb103 hg w10 hbox hb; have n0_ := Aside0.mk (below_step (by repeat (first | (with_reducible first | exact HB.out | apply below_alloc | apply pw_below_drewN | apply below_drew1) | exact HB.out)) hb); have n1_ := Aside0.mk (hbox); have n2_ := Aside0.mk ((by rw [hg]; exact (below_size (by repeat (first | (with_reducible first | exact HB.out | apply below_alloc | apply pw_below_drewN | apply below_drew1) | exact HB.out))) : w.heap.size ≤ gb103)); have n3_ := Aside0.mk ((by rw [hg]; exact (below_size (by repeat (first | (with_reducible first | exact HB.out | apply below_alloc | apply pw_below_drewN | apply below_drew1) | exact HB.out))) : w.heap.size ≤ gb103)); clear HB; have HB := n0_; have BK103 := n1_; have GW103 := n2_; have GE103 := n3_; clear n0_ n1_ n2_ n3_; clear hb hbox hg) | ((with_reducible refine gate_dst (N := 7) rfl ?_); refine box_event ?hg (N := 7) ?hd (cs := #[.int .u64 0, .int .u64 0]) (t := 26) ?hr ?_; (case hd => rfl); (case hg => rfl); (case hr => first | (go_simp; done) | (go_simp; rfl)); intro gb104 hg w11 hbox hb; have n0_ := Aside0.mk (blk_below (g := gb103) (o := .cells #[.int .i64 0, .int .u64 0, .int .u64 0] 28 (0, 0)) (by (with_reducible repeat (first | refine blk_drewN ?_ _ | refine blk_drew ?_ | refine blk_alloc ?_ _)); exact BK103.out) hb); have n1_ := Aside0.mk (below_step (by repeat (first | (with_reducible first | exact HB.out | apply below_alloc | apply pw_below_drewN | apply below_drew1 | refine below_set ?_ GE103.out) | exact HB.out)) hb); have n2_ := Aside0.mk (hbox); have n3_ := Aside0.mk ((by rw [hg]; exact (below_size (by repeat (first | (with_reducible first | exact HB.out | apply below_alloc | apply pw_below_drewN | apply below_drew1 | refine below_set ?_ GE103.out) | exact HB.out))) : w.heap.size ≤ gb104)); have n4_ := Aside0.mk ((by rw [hg]; exact (below_size (by repeat (first | (with_reducible first | exact HB.out | apply below_alloc | apply pw_below_drewN | apply below_drew1 | refine below_set ?_ GE103.out) | exact HB.out))) : w.heap.size ≤ gb104)); have n5_ := Aside0.mk ((by rw [hg]; exact Nat.ne_of_lt (blk_lt (g := gb103) (o := .cells #[.int .i64 0, .int .u64 0, .int .u64 0] 28 (0, 0)) (by (with_reducible repeat (first | refine blk_drewN ?_ _ | refine blk_drew ?_ | refine blk_alloc ?_ _)); exact BK103.out)) : gb103 ≠ gb104)); have n6_ := Aside0.mk ((by rw [hg]; exact Nat.ne_of_gt (blk_lt (g := gb103) (o := .cells #[.int .i64 0, .int .u64 0, .int .u64 0] 28 (0, 0)) (by (with_reducible repeat (first | refine blk_drewN ?_ _ | refine blk_drew ?_ | refine blk_alloc ?_ _)); exact BK103.out)) : gb104 ≠ gb103)); clear BK103; clear HB; have BK103 := n0_; have HB := n1_; have BK104 := n2_; have GW104 := n3_; have GE104 := n4_; have NB103_104 := n5_; have NB104_103 := n6_; clear n0_ n1_ n2_ n3_ n4_ n5_ n6_; clear hb hbox hg; have hnb12 := NB104_103.out; have hnc12 := NB103_104.out; have hcz13_0 : w11.cell? ⟨gb104, 0, none⟩ = some (.int .u64 0) := (blk_cell BK104.out 0).trans rfl; have hcz13_1 : w11.cell? ⟨gb104, 1, none⟩ = some (.int .u64 0) := (blk_cell BK104.out 1).trans rfl; have hfz13_0 := blk_frozen BK104.out 0; have hfz13_1 := blk_frozen BK104.out 1))
    go_loopg [8] k (fun kq v8 w' => ∃ (x8_1 : Int) (x105000_1 : Int) (x105001_1 : Int), v8 = .int .i64 x8_1 ∧ Aside0 (glebelaw2_Addr.l0 kq a0 x8_1 x105000_1 x105001_1 = some (r1, r2, r3)) ∧ Aside0 (kq ≤ k) ∧ Aside0 (w'.heap[gb103]? = some (.cells #[.int .i64 0, .int .u64 0, .int .u64 0] 28 (0, 0))) ∧ Aside0 (w'.heap[gb104]? = some (.cells #[.int .u64 x105000_1, .int .u64 x105001_1] 26 (0, 0))) ∧ Aside0 (Below w.heap.size w w'))
    case atStart => exact ⟨(0), (a1), (a2), (by first | rfl | (simp; done) | (simp [*]; done)), H', ⟨Nat.le_refl _⟩, ⟨by (with_reducible repeat (first | refine blk_drewN ?_ _ | refine blk_drew ?_ | refine blk_alloc ?_ _)); refine blk_far ?_ NB103_104.out _; (with_reducible repeat (first | refine blk_drewN ?_ _ | refine blk_drew ?_ | refine blk_alloc ?_ _)); refine blk_far ?_ NB103_104.out _; (with_reducible repeat (first | refine blk_drewN ?_ _ | refine blk_drew ?_ | refine blk_alloc ?_ _)); exact BK103.out⟩, ⟨by (with_reducible repeat (first | refine blk_drewN ?_ _ | refine blk_drew ?_ | refine blk_alloc ?_ _)); refine blk_put (cs := #[.int .u64 a1, .int .u64 0]) ?_ 1 _ rfl; (with_reducible repeat (first | refine blk_drewN ?_ _ | refine blk_drew ?_ | refine blk_alloc ?_ _)); refine blk_put (cs := #[.int .u64 0, .int .u64 0]) ?_ 0 _ rfl; (with_reducible repeat (first | refine blk_drewN ?_ _ | refine blk_drew ?_ | refine blk_alloc ?_ _)); exact BK104.out⟩, ⟨by repeat (first | (with_reducible first | exact HB.out | apply below_alloc | apply pw_below_drewN | apply below_drew1 | refine below_set ?_ GE103.out | refine below_set ?_ GE104.out) | exact HB.out)⟩⟩
    case round =>
      clear H'
      try clear c1
      try clear p2
      try clear c4
      try clear c4b0
      try clear c4b1
      try clear c6
      try clear c6b0
      try clear c6b1
      try clear p6
      try clear c12
      try clear hcz13_0
      try clear hcz13_1
      try clear hcz9_0
      try clear hcz9_1
      try clear hcz9_2
      try clear hfz13_0
      try clear hfz13_1
      try clear hfz9_0
      try clear hfz9_1
      try clear hfz9_2
      obtain ⟨x8_1, x105000_1, x105001_1, rfl, HA, HK1, BK103, BK104, HB⟩ := hrel
      cases gk with
      | zero => exact absurd HA.out (by simp [glebelaw2_Addr.l0])
      | succ k1 =>
        have H := HA.out
        clear HA
        simp only [glebelaw2_Addr.l0] at H
        by_cases c14 : x8_1 < 8
        · rw [if_pos c14] at H
          have c14b0 : decide (x8_1 < 8) = true := decide_eq_true c14
          clear c14
          obtain ⟨ji15, hji15⟩ : ∃ j_ : Int, (IntKind.u64.wrap (wrap64 (x8_1 + 1))) = j_ := ⟨_, rfl⟩
          replace H : (if 0 ≤ (ji15) then (if (Go.bits .and .i64 (shr .i64 a0 (ji15)) 1) = 1 then (if x8_1 < 4 then (if 0 ≤ (IntKind.u64.wrap (wrap64 (16 * x8_1))) then (glebelaw2_Addr.l0 k1 a0 (wrap64 (x8_1 + 1)) (Go.bits .andNot .u64 x105000_1 (shl .u64 65535 (IntKind.u64.wrap (wrap64 (16 * x8_1))))) x105001_1) else (none)) else (if 0 ≤ (IntKind.u64.wrap (wrap64 (16 * (wrap64 (x8_1 - 4))))) then (glebelaw2_Addr.l0 k1 a0 (wrap64 (x8_1 + 1)) x105000_1 (Go.bits .andNot .u64 x105001_1 (shl .u64 65535 (IntKind.u64.wrap (wrap64 (16 * (wrap64 (x8_1 - 4)))))))) else (none))) else (glebelaw2_Addr.l0 k1 a0 (wrap64 (x8_1 + 1)) x105000_1 x105001_1)) else (none)) = some (r1, r2, r3) := by first | (rw [hji15] at H; exact H) | (simp only [hji15] at H ⊢; exact H)
          by_cases c16 : 0 ≤ (ji15)
          · rw [if_pos c16] at H
            have c16b0 := eq_true c16
            have c16b1 : decide (0 ≤ (ji15)) = true := decide_eq_true c16
            clear c16
            obtain ⟨ji17, hji17⟩ : ∃ j_ : Int, (shr .i64 a0 (ji15)) = j_ := ⟨_, rfl⟩
            replace H : (if (Go.bits .and .i64 (ji17) 1) = 1 then (if x8_1 < 4 then (if 0 ≤ (IntKind.u64.wrap (wrap64 (16 * x8_1))) then (glebelaw2_Addr.l0 k1 a0 (wrap64 (x8_1 + 1)) (Go.bits .andNot .u64 x105000_1 (shl .u64 65535 (IntKind.u64.wrap (wrap64 (16 * x8_1))))) x105001_1) else (none)) else (if 0 ≤ (IntKind.u64.wrap (wrap64 (16 * (wrap64 (x8_1 - 4))))) then (glebelaw2_Addr.l0 k1 a0 (wrap64 (x8_1 + 1)) x105000_1 (Go.bits .andNot .u64 x105001_1 (shl .u64 65535 (IntKind.u64.wrap (wrap64 (16 * (wrap64 (x8_1 - 4)))))))) else (none))) else (glebelaw2_Addr.l0 k1 a0 (wrap64 (x8_1 + 1)) x105000_1 x105001_1)) = some (r1, r2, r3) := by first | (rw [hji17] at H; exact H) | (simp only [hji17] at H ⊢; exact H)
            have hji17_ : (a0 / 2 ^ min (ji15).toNat 64) = ji17 := hji17
            have hji17z : (ji15) ≤ 64 → (a0 / 2 ^ (ji15).toNat) = ji17 := shr_small hji17
            by_cases c18 : (Go.bits .and .i64 (ji17) 1) = 1
            · rw [if_pos c18] at H
              have c18b0 : ((Go.bits .and .i64 (ji17) 1) == 1) = true := beq_iff_eq.mpr c18
              have c18b1 : ((Go.bits .and .i64 (ji17) 1) != 1) = false := bne_eq_false_iff_eq.mpr c18
              clear c18
              by_cases c19 : x8_1 < 4
              · rw [if_pos c19] at H
                have c19b0 : decide (x8_1 < 4) = true := decide_eq_true c19
                clear c19
                obtain ⟨ji20, hji20⟩ : ∃ j_ : Int, (IntKind.u64.wrap (wrap64 (16 * x8_1))) = j_ := ⟨_, rfl⟩
                replace H : (if 0 ≤ (ji20) then (glebelaw2_Addr.l0 k1 a0 (wrap64 (x8_1 + 1)) (Go.bits .andNot .u64 x105000_1 (shl .u64 65535 (ji20))) x105001_1) else (none)) = some (r1, r2, r3) := by first | (rw [hji20] at H; exact H) | (simp only [hji20] at H ⊢; exact H)
                by_cases c21 : 0 ≤ (ji20)
                · rw [if_pos c21] at H
                  have c21b0 := eq_true c21
                  have c21b1 : decide (0 ≤ (ji20)) = true := decide_eq_true c21
                  clear c21
                  obtain ⟨ji22, hji22⟩ : ∃ j_ : Int, (shl .u64 65535 (ji20)) = j_ := ⟨_, rfl⟩
                  replace H : (glebelaw2_Addr.l0 k1 a0 (wrap64 (x8_1 + 1)) (Go.bits .andNot .u64 x105000_1 (ji22)) x105001_1) = some (r1, r2, r3) := by first | (rw [hji22] at H; exact H) | (simp only [hji22] at H ⊢; exact H)
                  have hji22_ : (IntKind.u64.wrap (65535 * 2 ^ min (ji20).toNat 64)) = ji22 := hji22
                  have hji22z : (ji20) ≤ 64 → (IntKind.u64.wrap (65535 * 2 ^ (ji20).toNat)) = ji22 := shl_small hji22
                  have H' := Aside0.mk H
                  clear H
                  have hnb23 := NB104_103.out
                  have hnc23 := NB103_104.out
                  have hcz24_0 : wr.cell? ⟨gb104, 0, none⟩ = some (.int .u64 x105000_1) := (blk_cell BK104.out 0).trans rfl
                  have hcz24_1 : wr.cell? ⟨gb104, 1, none⟩ = some (.int .u64 x105001_1) := (blk_cell BK104.out 1).trans rfl
                  have hfz24_0 := blk_frozen BK104.out 0
                  have hfz24_1 := blk_frozen BK104.out 1
                  go_wp2
                  go_roundg k1
                  case measure => have := HK1.out; omega
                  case rel => exact ⟨(wrap64 (x8_1 + 1)), (Go.bits .andNot .u64 x105000_1 (ji22)), (x105001_1), (by first | rfl | (simp; done) | (simp [*]; done)), H', ⟨by have := HK1.out; omega⟩, ⟨by (with_reducible repeat (first | refine blk_drewN ?_ _ | refine blk_drew ?_ | refine blk_alloc ?_ _)); refine blk_far ?_ NB103_104.out _; (with_reducible repeat (first | refine blk_drewN ?_ _ | refine blk_drew ?_ | refine blk_alloc ?_ _)); exact BK103.out⟩, ⟨by (with_reducible repeat (first | refine blk_drewN ?_ _ | refine blk_drew ?_ | refine blk_alloc ?_ _)); refine blk_put (cs := #[.int .u64 x105000_1, .int .u64 x105001_1]) ?_ 0 _ rfl; (with_reducible repeat (first | refine blk_drewN ?_ _ | refine blk_drew ?_ | refine blk_alloc ?_ _)); exact BK104.out⟩, ⟨by repeat (first | (with_reducible first | exact HB.out | apply below_alloc | apply pw_below_drewN | apply below_drew1 | refine below_set ?_ GE103.out | refine below_set ?_ GE104.out) | exact HB.out)⟩⟩
                · rw [if_neg c21] at H
                  exact absurd H (by simp)
              · rw [if_neg c19] at H
                have c19b0 : decide (x8_1 < 4) = false := decide_eq_false c19
                clear c19
                obtain ⟨ji25, hji25⟩ : ∃ j_ : Int, (IntKind.u64.wrap (wrap64 (16 * (wrap64 (x8_1 - 4))))) = j_ := ⟨_, rfl⟩
                replace H : (if 0 ≤ (ji25) then (glebelaw2_Addr.l0 k1 a0 (wrap64 (x8_1 + 1)) x105000_1 (Go.bits .andNot .u64 x105001_1 (shl .u64 65535 (ji25)))) else (none)) = some (r1, r2, r3) := by first | (rw [hji25] at H; exact H) | (simp only [hji25] at H ⊢; exact H)
                by_cases c26 : 0 ≤ (ji25)
                · rw [if_pos c26] at H
                  have c26b0 := eq_true c26
                  have c26b1 : decide (0 ≤ (ji25)) = true := decide_eq_true c26
                  clear c26
                  obtain ⟨ji27, hji27⟩ : ∃ j_ : Int, (shl .u64 65535 (ji25)) = j_ := ⟨_, rfl⟩
                  replace H : (glebelaw2_Addr.l0 k1 a0 (wrap64 (x8_1 + 1)) x105000_1 (Go.bits .andNot .u64 x105001_1 (ji27))) = some (r1, r2, r3) := by first | (rw [hji27] at H; exact H) | (simp only [hji27] at H ⊢; exact H)
                  have hji27_ : (IntKind.u64.wrap (65535 * 2 ^ min (ji25).toNat 64)) = ji27 := hji27
                  have hji27z : (ji25) ≤ 64 → (IntKind.u64.wrap (65535 * 2 ^ (ji25).toNat)) = ji27 := shl_small hji27
                  have H' := Aside0.mk H
                  clear H
                  have hnb28 := NB104_103.out
                  have hnc28 := NB103_104.out
                  have hcz29_0 : wr.cell? ⟨gb104, 0, none⟩ = some (.int .u64 x105000_1) := (blk_cell BK104.out 0).trans rfl
                  have hcz29_1 : wr.cell? ⟨gb104, 1, none⟩ = some (.int .u64 x105001_1) := (blk_cell BK104.out 1).trans rfl
                  have hfz29_0 := blk_frozen BK104.out 0
                  have hfz29_1 := blk_frozen BK104.out 1
                  go_wp2
                  go_roundg k1
                  case measure => have := HK1.out; omega
                  case rel => exact ⟨(wrap64 (x8_1 + 1)), (x105000_1), (Go.bits .andNot .u64 x105001_1 (ji27)), (by first | rfl | (simp; done) | (simp [*]; done)), H', ⟨by have := HK1.out; omega⟩, ⟨by (with_reducible repeat (first | refine blk_drewN ?_ _ | refine blk_drew ?_ | refine blk_alloc ?_ _)); refine blk_far ?_ NB103_104.out _; (with_reducible repeat (first | refine blk_drewN ?_ _ | refine blk_drew ?_ | refine blk_alloc ?_ _)); exact BK103.out⟩, ⟨by (with_reducible repeat (first | refine blk_drewN ?_ _ | refine blk_drew ?_ | refine blk_alloc ?_ _)); refine blk_put (cs := #[.int .u64 x105000_1, .int .u64 x105001_1]) ?_ 1 _ rfl; (with_reducible repeat (first | refine blk_drewN ?_ _ | refine blk_drew ?_ | refine blk_alloc ?_ _)); exact BK104.out⟩, ⟨by repeat (first | (with_reducible first | exact HB.out | apply below_alloc | apply pw_below_drewN | apply below_drew1 | refine below_set ?_ GE103.out | refine below_set ?_ GE104.out) | exact HB.out)⟩⟩
                · rw [if_neg c26] at H
                  exact absurd H (by simp)
            · rw [if_neg c18] at H
              have c18b0 : ((Go.bits .and .i64 (ji17) 1) == 1) = false := beq_eq_false_iff_ne.mpr c18
              have c18b1 : ((Go.bits .and .i64 (ji17) 1) != 1) = true := bne_iff_ne.mpr c18
              have H' := Aside0.mk H
              clear H
              go_wp2
              go_roundg k1
              case measure => have := HK1.out; omega
              case rel => exact ⟨(wrap64 (x8_1 + 1)), (x105000_1), (x105001_1), (by first | rfl | (simp; done) | (simp [*]; done)), H', ⟨by have := HK1.out; omega⟩, ⟨by (with_reducible repeat (first | refine blk_drewN ?_ _ | refine blk_drew ?_ | refine blk_alloc ?_ _)); exact BK103.out⟩, ⟨by (with_reducible repeat (first | refine blk_drewN ?_ _ | refine blk_drew ?_ | refine blk_alloc ?_ _)); exact BK104.out⟩, ⟨by repeat (first | (with_reducible first | exact HB.out | apply below_alloc | apply pw_below_drewN | apply below_drew1 | refine below_set ?_ GE103.out | refine below_set ?_ GE104.out) | exact HB.out)⟩⟩
          · rw [if_neg c16] at H
            exact absurd H (by simp)
        · rw [if_neg c14] at H
          have c14b0 : decide (x8_1 < 8) = false := decide_eq_false c14
          clear c14
          simp only [Option.some.injEq, Prod.mk.injEq] at H
          obtain ⟨rfl, rfl, rfl⟩ := H
          have hnb30 := NB104_103.out
          have hnc30 := NB103_104.out
          have hcz31_0 : wr.cell? ⟨gb104, 0, none⟩ = some (.int .u64 x105000_1) := (blk_cell BK104.out 0).trans rfl
          have hcz31_1 : wr.cell? ⟨gb104, 1, none⟩ = some (.int .u64 x105001_1) := (blk_cell BK104.out 1).trans rfl
          have hfz31_0 := blk_frozen BK104.out 0
          have hfz31_1 := blk_frozen BK104.out 1
          have hcz32_0 : wr.cell? ⟨gb103, 0, none⟩ = some (.int .i64 0) := (blk_cell BK103.out 0).trans rfl
          have hcz32_1 : wr.cell? ⟨gb103, 1, none⟩ = some (.int .u64 0) := (blk_cell BK103.out 1).trans rfl
          have hcz32_2 : wr.cell? ⟨gb103, 2, none⟩ = some (.int .u64 0) := (blk_cell BK103.out 2).trans rfl
          have hfz32_0 := blk_frozen BK103.out 0
          have hfz32_1 := blk_frozen BK103.out 1
          have hfz32_2 := blk_frozen BK103.out 2
          go_wp2
          refine bodyPost_ret (results_cell_row rfl _ _ gb103 28 #[.int .i64 6, .int .u64 x105000_1, .int .u64 x105001_1] (0, 0) _ rfl (by (with_reducible repeat (first | refine blk_drewN ?_ _ | refine blk_drew ?_ | refine blk_alloc ?_ _)); refine blk_put (cs := #[.int .i64 6, .int .u64 x105000_1, .int .u64 0]) ?_ 2 _ rfl; (with_reducible repeat (first | refine blk_drewN ?_ _ | refine blk_drew ?_ | refine blk_alloc ?_ _)); refine blk_put (cs := #[.int .i64 6, .int .u64 0, .int .u64 0]) ?_ 1 _ rfl; (with_reducible repeat (first | refine blk_drewN ?_ _ | refine blk_drew ?_ | refine blk_alloc ?_ _)); refine blk_put (cs := #[.int .i64 0, .int .u64 0, .int .u64 0]) ?_ 0 _ rfl; (with_reducible repeat (first | refine blk_drewN ?_ _ | refine blk_drew ?_ | refine blk_alloc ?_ _)); exact BK103.out) Tryz.underlying28 rfl (by kernel_rfl)) rfl ?_
          exact ⟨by first | rfl | (simp [errW_none, errW_some] <;> rfl) | (simp [*, errW_none, errW_some] <;> rfl), by repeat (first | (with_reducible first | exact HB.out | apply below_alloc | apply pw_below_drewN | apply below_drew1 | refine below_set ?_ GE103.out | refine below_set ?_ GE104.out) | exact HB.out)⟩
def quad_high.f (a0 : Int) : Option (Int) := some (Go.bits .xor .u64 18446744073709551615 (18446744073709551615 / 2 ^ (mn (mx a0 0) 64).toNat))
set_option maxHeartbeats 8000000 in
set_option maxRecDepth 100000 in
theorem quad_high.calls (a0 : Int) (r : Int) (w : World) (hG : GoodW w) (h : quad_high.f a0 = some r) :
    Calls Tryz.prog 95 #[.int .i64 a0] w fun e w' => e = .returned (.int .u64 r) ∧ Below w.heap.size w w' := by
  have HB := Aside0.mk (Below.refl w.heap.size w)
  have H : (some (Go.bits .xor .u64 18446744073709551615 (18446744073709551615 / 2 ^ (mn (mx a0 0) 64).toNat))) = some r := h
  clear h
  obtain ⟨ji2, hji2⟩ : ∃ j_ : Int, (mx a0 0) = j_ := ⟨_, rfl⟩
  replace H : (some (Go.bits .xor .u64 18446744073709551615 (18446744073709551615 / 2 ^ (mn (ji2) 64).toNat))) = some r := by first | (rw [hji2] at H; exact H) | (simp only [hji2] at H ⊢; exact H)
  (try (have hji2l : 0 ≤ ji2 := by (rw [← hji2]; unfold mx; (repeat' split) <;> omega)))
  (try (have hji2m : 0 ≤ ji2 := by omega))
  have hji2_ : (if a0 < 0 then 0 else a0) = ji2 := hji2
  obtain ⟨ji3, hji3⟩ : ∃ j_ : Int, (mn (ji2) 64) = j_ := ⟨_, rfl⟩
  replace H : (some (Go.bits .xor .u64 18446744073709551615 (18446744073709551615 / 2 ^ (ji3).toNat))) = some r := by first | (rw [hji3] at H; exact H) | (simp only [hji3] at H ⊢; exact H)
  have hji3_ : (if 64 < (ji2) then 64 else (ji2)) = ji3 := hji3
  obtain rfl := Option.some.inj H
  go_enter Tryz.func95, Tryz.ntmps95
  go_wp2
  go_ret
  exact ⟨by first | rfl | (simp [errW_none, errW_some] <;> rfl) | (simp only [← hji2, ← hji3]; first | rfl | (simp [errW_none, errW_some] <;> rfl)) | (simp [*, errW_none, errW_some] <;> rfl), by repeat (first | (with_reducible first | exact HB.out | apply below_alloc | apply pw_below_drewN | apply below_drew1) | exact HB.out)⟩
def quad_Bit.j0 : Nat → Int → Bool → Option (Int × Int)
  | 0, _, _ => none
  | k + 1, x0, x3 => if x3 = true then (some (0, 0)) else (if x0 < 64 then (if 0 ≤ x0 then (some (0, shl .u64 1 x0)) else (none)) else (if 0 ≤ (wrap64 (x0 - 64)) then (some (shl .u64 1 (wrap64 (x0 - 64)), 0)) else (none)))
def quad_Bit.f (k : Nat) (a0 : Int) : Option (Int × Int) := if a0 < 0 then (quad_Bit.j0 k a0 true) else (quad_Bit.j0 k a0 (decide (a0 > 127)))
set_option maxHeartbeats 8000000 in
set_option maxRecDepth 100000 in
theorem quad_Bit.calls (k : Nat) (a0 : Int) (r1 : Int) (r2 : Int) (w : World) (hG : GoodW w) (h : quad_Bit.f k a0 = some (r1, r2)) :
    Calls Tryz.prog 99 #[.int .i64 a0] w fun e w' => e = .returned (.agg #[.int .u64 r1, .int .u64 r2]) ∧ Below w.heap.size w w' := by
  have hu26 := Tryz.underlying26
  have HB := Aside0.mk (Below.refl w.heap.size w)
  have H : (if a0 < 0 then (quad_Bit.j0 k a0 true) else (quad_Bit.j0 k a0 (decide (a0 > 127)))) = some (r1, r2) := h
  clear h
  have HC2 := Aside0.mk H
  clear H
  go_enter Tryz.func99, Tryz.ntmps99
  go_upto_region 1 with (first | ((with_reducible refine gate_dst (N := 2) rfl ?_); refine box_event ?hg (N := 2) ?hd (cs := #[.int .u64 0, .int .u64 0]) (t := 26) ?hr ?_; (case hd => rfl); (case hg => rfl); (case hr => first | (go_simp; done) | (go_simp; rfl)); intro gb105 hg w3 hbox hb; have n0_ := Aside0.mk (below_step (by repeat (first | (with_reducible first | exact HB.out | apply below_alloc | apply pw_below_drewN | apply below_drew1) | exact HB.out)) hb); have n1_ := Aside0.mk (hbox); have n2_ := Aside0.mk ((by rw [hg]; exact (below_size (by repeat (first | (with_reducible first | exact HB.out | apply below_alloc | apply pw_below_drewN | apply below_drew1) | exact HB.out))) : w.heap.size ≤ gb105)); have n3_ := Aside0.mk ((by rw [hg]; exact (below_size (by repeat (first | (with_reducible first | exact HB.out | apply below_alloc | apply pw_below_drewN | apply below_drew1) | exact HB.out))) : w.heap.size ≤ gb105)); clear HB; have HB := n0_; have BK105 := n1_; have GW105 := n2_; have GE105 := n3_; clear n0_ n1_ n2_ n3_; clear hb hbox hg))
  (try simp only [Act.put, List.setIfInBounds_toArray, List.set_cons_zero, List.set_cons_succ])
  go_cut [3] (fun v3 wc => ∃ (kq : Nat) (x3_1 : Bool), v3 = .bool x3_1 ∧ Aside0 (quad_Bit.j0 kq a0 x3_1 = some (r1, r2)) ∧ Aside0 (kq ≤ k) ∧ Aside0 (wc.heap[gb105]? = some (.cells #[.int .u64 0, .int .u64 0] 26 (0, 0))) ∧ Aside0 (Below w.heap.size w wc))
  case first =>
    have H := HC2.out
    clear HC2
    by_cases c4 : a0 < 0
    · rw [if_pos c4] at H
      have c4b0 : decide (a0 < 0) = true := decide_eq_true c4
      clear c4
      (first | rw [c4b0] | (simp only [i64_w, i32_w]; rw [c4b0]) | skip)
      have H' := Aside0.mk H
      clear H
      go_wp2
      go_meet
      case rel => exact ⟨_, (true), (by first | rfl | (simp; done) | (simp [*]; done)), H', ⟨by first | omega | exact Nat.le_refl _⟩, ⟨by (with_reducible repeat (first | refine blk_drewN ?_ _ | refine blk_drew ?_ | refine blk_alloc ?_ _)); exact BK105.out⟩, ⟨by repeat (first | (with_reducible first | exact HB.out | apply below_alloc | apply pw_below_drewN | apply below_drew1 | refine below_set ?_ GE105.out) | exact HB.out)⟩⟩
    · rw [if_neg c4] at H
      have c4b0 : decide (a0 < 0) = false := decide_eq_false c4
      clear c4
      (first | rw [c4b0] | (simp only [i64_w, i32_w]; rw [c4b0]) | skip)
      have H' := Aside0.mk H
      clear H
      go_wp2
      go_meet
      case rel => exact ⟨_, (decide (a0 > 127)), (by first | rfl | (simp; done) | (simp [*]; done)), H', ⟨by first | omega | exact Nat.le_refl _⟩, ⟨by (with_reducible repeat (first | refine blk_drewN ?_ _ | refine blk_drew ?_ | refine blk_alloc ?_ _)); exact BK105.out⟩, ⟨by repeat (first | (with_reducible first | exact HB.out | apply below_alloc | apply pw_below_drewN | apply below_drew1 | refine below_set ?_ GE105.out) | exact HB.out)⟩⟩
  case rest =>
    clear HC2
    try clear p2
    try clear c4
    try clear c4b0
    obtain ⟨kq, x3_1, rfl, HA, HJ1, BK105, HB⟩ := hcut
    cases kq with
    | zero => exact absurd HA.out (by simp [quad_Bit.j0])
    | succ kj1 =>
      have H := HA.out
      clear HA
      simp only [quad_Bit.j0] at H
      by_cases c5 : x3_1 = true
      · subst c5
        have H1 : (some (0, 0)) = some (r1, r2) := by rw [if_pos rfl] at H; exact H
        clear H
        have H := H1
        clear H1
        simp only [Option.some.injEq, Prod.mk.injEq] at H
        obtain ⟨rfl, rfl⟩ := H
        have hcz6_0 : wc.cell? ⟨gb105, 0, none⟩ = some (.int .u64 0) := (blk_cell BK105.out 0).trans rfl
        have hcz6_1 : wc.cell? ⟨gb105, 1, none⟩ = some (.int .u64 0) := (blk_cell BK105.out 1).trans rfl
        have hfz6_0 := blk_frozen BK105.out 0
        have hfz6_1 := blk_frozen BK105.out 1
        go_wp2
        refine bodyPost_ret (results_cell_row rfl _ _ gb105 26 #[.int .u64 0, .int .u64 0] (0, 0) _ rfl (by (with_reducible repeat (first | refine blk_drewN ?_ _ | refine blk_drew ?_ | refine blk_alloc ?_ _)); refine blk_put (cs := #[.int .u64 0, .int .u64 0]) ?_ 1 _ rfl; (with_reducible repeat (first | refine blk_drewN ?_ _ | refine blk_drew ?_ | refine blk_alloc ?_ _)); refine blk_put (cs := #[.int .u64 0, .int .u64 0]) ?_ 0 _ rfl; (with_reducible repeat (first | refine blk_drewN ?_ _ | refine blk_drew ?_ | refine blk_alloc ?_ _)); exact BK105.out) Tryz.underlying26 rfl (by kernel_rfl)) rfl ?_
        exact ⟨by first | rfl | (simp [errW_none, errW_some] <;> rfl) | (simp [*, errW_none, errW_some] <;> rfl), by repeat (first | (with_reducible first | exact HB.out | apply below_alloc | apply pw_below_drewN | apply below_drew1 | refine below_set ?_ GE105.out) | exact HB.out)⟩
      · replace c5 := Bool.eq_false_iff.mpr c5
        subst c5
        have H1 : (if a0 < 64 then (if 0 ≤ a0 then (some (0, shl .u64 1 a0)) else (none)) else (if 0 ≤ (wrap64 (a0 - 64)) then (some (shl .u64 1 (wrap64 (a0 - 64)), 0)) else (none))) = some (r1, r2) := by rw [if_neg (show ¬ (false = true) by decide)] at H; exact H
        clear H
        have H := H1
        clear H1
        by_cases c7 : a0 < 64
        · rw [if_pos c7] at H
          have c7b0 : decide (a0 < 64) = true := decide_eq_true c7
          clear c7
          by_cases c8 : 0 ≤ a0
          · rw [if_pos c8] at H
            have c8b0 := eq_true c8
            have c8b1 : decide (0 ≤ a0) = true := decide_eq_true c8
            clear c8
            obtain ⟨ji9, hji9⟩ : ∃ j_ : Int, (shl .u64 1 a0) = j_ := ⟨_, rfl⟩
            replace H : (some (0, ji9)) = some (r1, r2) := by first | (rw [hji9] at H; exact H) | (simp only [hji9] at H ⊢; exact H)
            have hji9_ : (IntKind.u64.wrap (1 * 2 ^ min a0.toNat 64)) = ji9 := hji9
            have hji9z : a0 ≤ 64 → (IntKind.u64.wrap (1 * 2 ^ a0.toNat)) = ji9 := shl_small hji9
            have hji9u : (IntKind.u64.wrap (2 ^ min a0.toNat 64)) = ji9 := by have h_ := hji9_; rw [Int.one_mul] at h_; exact h_
            have hji9v : a0 ≤ 64 → (IntKind.u64.wrap (2 ^ a0.toNat)) = ji9 := fun hle_ => by have h_ := hji9z hle_; rw [Int.one_mul] at h_; exact h_
            simp only [Option.some.injEq, Prod.mk.injEq] at H
            obtain ⟨rfl, rfl⟩ := H
            have hcz10_0 : wc.cell? ⟨gb105, 0, none⟩ = some (.int .u64 0) := (blk_cell BK105.out 0).trans rfl
            have hcz10_1 : wc.cell? ⟨gb105, 1, none⟩ = some (.int .u64 0) := (blk_cell BK105.out 1).trans rfl
            have hfz10_0 := blk_frozen BK105.out 0
            have hfz10_1 := blk_frozen BK105.out 1
            go_wp2
            refine bodyPost_ret (results_cell_row rfl _ _ gb105 26 #[.int .u64 0, .int .u64 ji9] (0, 0) _ rfl (by (with_reducible repeat (first | refine blk_drewN ?_ _ | refine blk_drew ?_ | refine blk_alloc ?_ _)); refine blk_put (cs := #[.int .u64 0, .int .u64 0]) ?_ 1 _ rfl; (with_reducible repeat (first | refine blk_drewN ?_ _ | refine blk_drew ?_ | refine blk_alloc ?_ _)); refine blk_put (cs := #[.int .u64 0, .int .u64 0]) ?_ 0 _ rfl; (with_reducible repeat (first | refine blk_drewN ?_ _ | refine blk_drew ?_ | refine blk_alloc ?_ _)); exact BK105.out) Tryz.underlying26 rfl (by kernel_rfl)) rfl ?_
            exact ⟨by first | rfl | (simp [errW_none, errW_some] <;> rfl) | (simp only [← hji9]; first | rfl | (simp [errW_none, errW_some] <;> rfl)) | (simp [*, errW_none, errW_some] <;> rfl), by repeat (first | (with_reducible first | exact HB.out | apply below_alloc | apply pw_below_drewN | apply below_drew1 | refine below_set ?_ GE105.out) | exact HB.out)⟩
          · rw [if_neg c8] at H
            exact absurd H (by simp)
        · rw [if_neg c7] at H
          have c7b0 : decide (a0 < 64) = false := decide_eq_false c7
          clear c7
          obtain ⟨ji11, hji11⟩ : ∃ j_ : Int, (wrap64 (a0 - 64)) = j_ := ⟨_, rfl⟩
          replace H : (if 0 ≤ (ji11) then (some (shl .u64 1 (ji11), 0)) else (none)) = some (r1, r2) := by first | (rw [hji11] at H; exact H) | (simp only [hji11] at H ⊢; exact H)
          have hji11w : (IntKind.i64.wrap (a0 - 64)) = ji11 := (i64_w _).trans hji11
          by_cases c12 : 0 ≤ (ji11)
          · rw [if_pos c12] at H
            have c12b0 := eq_true c12
            have c12b1 : decide (0 ≤ (ji11)) = true := decide_eq_true c12
            clear c12
            obtain ⟨ji13, hji13⟩ : ∃ j_ : Int, (shl .u64 1 (ji11)) = j_ := ⟨_, rfl⟩
            replace H : (some (ji13, 0)) = some (r1, r2) := by first | (rw [hji13] at H; exact H) | (simp only [hji13] at H ⊢; exact H)
            have hji13_ : (IntKind.u64.wrap (1 * 2 ^ min (ji11).toNat 64)) = ji13 := hji13
            have hji13z : (ji11) ≤ 64 → (IntKind.u64.wrap (1 * 2 ^ (ji11).toNat)) = ji13 := shl_small hji13
            have hji13u : (IntKind.u64.wrap (2 ^ min (ji11).toNat 64)) = ji13 := by have h_ := hji13_; rw [Int.one_mul] at h_; exact h_
            have hji13v : (ji11) ≤ 64 → (IntKind.u64.wrap (2 ^ (ji11).toNat)) = ji13 := fun hle_ => by have h_ := hji13z hle_; rw [Int.one_mul] at h_; exact h_
            simp only [Option.some.injEq, Prod.mk.injEq] at H
            obtain ⟨rfl, rfl⟩ := H
            have hcz14_0 : wc.cell? ⟨gb105, 0, none⟩ = some (.int .u64 0) := (blk_cell BK105.out 0).trans rfl
            have hcz14_1 : wc.cell? ⟨gb105, 1, none⟩ = some (.int .u64 0) := (blk_cell BK105.out 1).trans rfl
            have hfz14_0 := blk_frozen BK105.out 0
            have hfz14_1 := blk_frozen BK105.out 1
            go_wp2
            refine bodyPost_ret (results_cell_row rfl _ _ gb105 26 #[.int .u64 ji13, .int .u64 0] (0, 0) _ rfl (by (with_reducible repeat (first | refine blk_drewN ?_ _ | refine blk_drew ?_ | refine blk_alloc ?_ _)); refine blk_put (cs := #[.int .u64 ji13, .int .u64 0]) ?_ 1 _ rfl; (with_reducible repeat (first | refine blk_drewN ?_ _ | refine blk_drew ?_ | refine blk_alloc ?_ _)); refine blk_put (cs := #[.int .u64 0, .int .u64 0]) ?_ 0 _ rfl; (with_reducible repeat (first | refine blk_drewN ?_ _ | refine blk_drew ?_ | refine blk_alloc ?_ _)); exact BK105.out) Tryz.underlying26 rfl (by kernel_rfl)) rfl ?_
            exact ⟨by first | rfl | (simp [errW_none, errW_some] <;> rfl) | (simp only [← hji11, ← hji13]; first | rfl | (simp [errW_none, errW_some] <;> rfl)) | (simp [*, errW_none, errW_some] <;> rfl), by repeat (first | (with_reducible first | exact HB.out | apply below_alloc | apply pw_below_drewN | apply below_drew1 | refine below_set ?_ GE105.out) | exact HB.out)⟩
          · rw [if_neg c12] at H
            exact absurd H (by simp)
def quad_Add.f (a0_0 : Int) (a0_1 : Int) (a1_0 : Int) (a1_1 : Int) : Option (Int × Int × Bool) := if (inQ a0_0 a0_1 && inQ a1_0 a1_1) = true then some ((((addN (qn a0_0 a0_1) (qn a1_0 a1_1)) / M64 : Nat) : Int), (((addN (qn a0_0 a0_1) (qn a1_0 a1_1)) % M64 : Nat) : Int), decide (qn a0_0 a0_1 + qn a1_0 a1_1 < M128)) else none
theorem quad_Add.calls (a0_0 : Int) (a0_1 : Int) (a1_0 : Int) (a1_1 : Int) (r1 : Int) (r2 : Int) (r3 : Bool) (w : World) (hG : GoodW w) (h : quad_Add.f a0_0 a0_1 a1_0 a1_1 = some (r1, r2, r3)) :
    Calls Tryz.prog 98 #[.agg #[.int .u64 a0_0, .int .u64 a0_1], .agg #[.int .u64 a1_0, .int .u64 a1_1]] w fun e w' => e = .returned (.tuple #[.agg #[.int .u64 r1, .int .u64 r2], .bool r3]) ∧ Below w.heap.size w w' := by exact st_add98 hG h
def bits_TrailingZeros64.f (a0 : Int) : Option (Int) := if 0 ≤ a0 ∧ a0 < 18446744073709551616 then some ((Lib.ctz 64 a0.toNat : Nat) : Int) else none
theorem bits_TrailingZeros64.calls (a0 : Int) (r : Int) (w : World) (hG : GoodW w) (h : bits_TrailingZeros64.f a0 = some r) :
    Calls Tryz.prog 109 #[.int .u64 a0] w fun e w' => e = .returned (.int .i64 r) ∧ Drawn0 w w' := by exact st_tz0 hG h
end Go.Proofs.YtfnacgojmdbjmaaGreatDoor.PRD
end

section
/- Functions without loops, told as plain functions, and the contracts of these and of the printed ones. No conditions. -/
namespace Go.Proofs.YtfnacgojmdbjmaaGreatDoor.PRD
open Go.RowKit Go.Proofs.YtfnacgojmdbjmaaGreatDoorW.PrintWords Go.Proofs.YtfnacgojmdbjmaaGreatDoorW.PrintLast Go.Proofs.YtfnacgojmdbjmaaGreatDoorW.PrintMore
open Go.Det (inQ M64 M128 qn addN highN clampN)
def gleberef1_Bits.f (a0 : Int) : Option (Int) := if a0 = 4 then (some 32) else (if a0 = 6 then (some 128) else (some 0))
def gleberef1_And.f (a0_0 : Int) (a0_1 : Int) (a1_0 : Int) (a1_1 : Int) : Option (Int × Int) := some (Go.bits .and .u64 a0_0 a1_0, Go.bits .and .u64 a0_1 a1_1)
def gleberef1_Not.f (a0_0 : Int) (a0_1 : Int) : Option (Int × Int) := some (Go.bits .xor .u64 18446744073709551615 a0_0, Go.bits .xor .u64 18446744073709551615 a0_1)
def gleberef1_all.f (a0 : Int) (a1 : Int) : Option (Int × Int) := (gleberef1_Bits.f a0).bind fun t131 => ((gleberef1_Mask.f 300 (wrap64 ((wrap64 (128 - t131)) + a1))).bind fun bt132 => ((gleberef1_Bits.f a0).bind fun t134 => ((gleberef1_Mask.f 300 (wrap64 (128 - t134))).bind fun bt135 => ((gleberef1_Not.f bt135.1 bt135.2).bind fun bt137 => ((gleberef1_And.f bt132.1 bt132.2 bt137.1 bt137.2).bind fun bt139 => (some (bt139.1, bt139.2)))))))
def gleberef1_Ok.f (a0_0 : Int) (a0_1 : Int) (a0_2 : Int) : Option (Bool) := if a0_0 = 6 then (some true) else (if a0_0 = 4 then (if a0_1 = 0 then (some (decide (a0_2 < 4294967296))) else (some false)) else (some false))
def gleberef1_OkPrefix.f (a0_0 : Int) (a0_1 : Int) (a0_2 : Int) (a0_3 : Int) : Option (Bool) := (gleberef1_Ok.f a0_0 a0_1 a0_2).bind fun t142 => (if t142 = true then (if a0_3 ≥ 0 then ((gleberef1_Bits.f a0_0).bind fun t143 => (if a0_3 ≤ t143 then ((gleberef1_all.f a0_0 a0_3).bind fun bt144 => ((gleberef1_And.f a0_1 a0_2 bt144.1 bt144.2).bind fun bt146 => (some (bt146.1 == a0_1 && (bt146.2 == a0_2))))) else (some false))) else (some false)) else (some false))
def gleberef1_Last.f (a0_0 : Int) (a0_1 : Int) (a0_2 : Int) (a0_3 : Int) : Option (Int × Int × Int) := (gleberef1_OkPrefix.f a0_0 a0_1 a0_2 a0_3).bind fun t150 => (if t150 = true then ((gleberef1_all.f a0_0 a0_3).bind fun bt151 => ((gleberef1_Not.f bt151.1 bt151.2).bind fun bt153 => ((gleberef1_Bits.f a0_0).bind fun t155 => ((gleberef1_Mask.f 300 (wrap64 (128 - t155))).bind fun bt156 => ((gleberef1_Not.f bt156.1 bt156.2).bind fun bt158 => ((gleberef1_And.f bt153.1 bt153.2 bt158.1 bt158.2).bind fun bt160 => (some (a0_0, Go.bits .or .u64 a0_1 bt160.1, Go.bits .or .u64 a0_2 bt160.2)))))))) else (some (0, 0, 0)))
def gleberef1_Add.f (a0_0 : Int) (a0_1 : Int) (a1_0 : Int) (a1_1 : Int) : Option (Int × Int × Bool) := if (IntKind.u64.wrap (a0_1 + a1_1)) < a0_1 then (if (IntKind.u64.wrap (a0_0 + a1_0)) < a0_0 then (some (0, 0, false)) else (if (IntKind.u64.wrap ((IntKind.u64.wrap (a0_0 + a1_0)) + 1)) < (IntKind.u64.wrap (a0_0 + a1_0)) then (some (0, 0, false)) else (some (IntKind.u64.wrap ((IntKind.u64.wrap (a0_0 + a1_0)) + 1), IntKind.u64.wrap (a0_1 + a1_1), true)))) else (if (IntKind.u64.wrap (a0_0 + a1_0)) < a0_0 then (some (0, 0, false)) else (if (IntKind.u64.wrap ((IntKind.u64.wrap (a0_0 + a1_0)) + 0)) < (IntKind.u64.wrap (a0_0 + a1_0)) then (some (0, 0, false)) else (some (IntKind.u64.wrap ((IntKind.u64.wrap (a0_0 + a1_0)) + 0), IntKind.u64.wrap (a0_1 + a1_1), true))))
def glebelaw3_Pre.f (a0 : Int) (a1 : Int) (a2 : Int) (a3 : Int) : Option (Int × Int × Int × Int) := (glebelaw2_Addr.f 300 a0 a1 a2).bind fun bt111 => ((gleberef1_Bits.f bt111.1).bind fun t115 => (if (wrap64 (t115 + 1)) = 0 then (none) else ((gleberef1_Bits.f bt111.1).bind fun t116 => ((gleberef1_Mask.f 300 (wrap64 ((wrap64 (128 - t116)) + (Int.tmod (Go.bits .and .i64 a3 255) (wrap64 (t115 + 1)))))).bind fun bt117 => ((gleberef1_Bits.f bt111.1).bind fun t119 => ((gleberef1_Mask.f 300 (wrap64 (128 - t119))).bind fun bt120 => ((gleberef1_Not.f bt120.1 bt120.2).bind fun bt122 => ((gleberef1_And.f bt117.1 bt117.2 bt122.1 bt122.2).bind fun bt124 => ((gleberef1_And.f bt111.2.1 bt111.2.2 bt124.1 bt124.2).bind fun bt127 => (some (bt111.1, bt127.1, bt127.2, Int.tmod (Go.bits .and .i64 a3 255) (wrap64 (t115 + 1)))))))))))))
def quad_And.f (a0_0 : Int) (a0_1 : Int) (a1_0 : Int) (a1_1 : Int) : Option (Int × Int) := some (Go.bits .and .u64 a0_0 a1_0, Go.bits .and .u64 a0_1 a1_1)
def quad_Or.f (a0_0 : Int) (a0_1 : Int) (a1_0 : Int) (a1_1 : Int) : Option (Int × Int) := some (Go.bits .or .u64 a0_0 a1_0, Go.bits .or .u64 a0_1 a1_1)
def quad_Not.f (a0_0 : Int) (a0_1 : Int) : Option (Int × Int) := some (Go.bits .xor .u64 18446744073709551615 a0_0, Go.bits .xor .u64 18446744073709551615 a0_1)
def addr_Bits.f (a0 : Int) : Option (Int) := if a0 = 4 then (some 32) else (if a0 = 6 then (some 128) else (some 0))
def quad_Mask.f (a0 : Int) : Option (Int × Int) := (quad_high.f a0).bind fun t167 => ((quad_high.f (wrap64 ((mn a0 128) - 64))).bind fun t168 => (some (t167, t168)))
def pref_mask.f (a0 : Int) (a1 : Int) : Option (Int × Int) := (addr_Bits.f a0).bind fun t170 => ((quad_Mask.f (wrap64 ((wrap64 (128 - t170)) + a1))).bind fun bt171 => (some (bt171.1, bt171.2)))
def addr_Ok.f (a0_0 : Int) (a0_1 : Int) (a0_2 : Int) : Option (Bool) := if a0_0 = 6 then (some true) else (if a0_0 = 4 then (if a0_1 = 0 then (some (decide (a0_2 < 4294967296))) else (some false)) else (some false))
def pref_Ok.f (a0_0 : Int) (a0_1 : Int) (a0_2 : Int) (a0_3 : Int) : Option (Bool) := (addr_Ok.f a0_0 a0_1 a0_2).bind fun t177 => (if t177 = true then (if a0_3 < 0 then (some false) else ((addr_Bits.f a0_0).bind fun t178 => (if a0_3 > t178 then (some false) else ((pref_mask.f a0_0 a0_3).bind fun bt179 => ((quad_Not.f bt179.1 bt179.2).bind fun bt181 => ((quad_And.f a0_1 a0_2 bt181.1 bt181.2).bind fun bt183 => (some (bt183.1 == 0 && (bt183.2 == 0))))))))) else (some false))
def pref_Last.f (a0_0 : Int) (a0_1 : Int) (a0_2 : Int) (a0_3 : Int) : Option (Int × Int × Int) := (pref_Ok.f a0_0 a0_1 a0_2 a0_3).bind fun t190 => (if t190 = true then ((addr_Bits.f a0_0).bind fun t191 => ((quad_Mask.f (wrap64 (128 - t191))).bind fun bt192 => ((pref_mask.f a0_0 a0_3).bind fun bt195 => ((quad_Not.f bt195.1 bt195.2).bind fun bt197 => ((quad_Not.f bt192.1 bt192.2).bind fun bt199 => ((quad_And.f bt197.1 bt197.2 bt199.1 bt199.2).bind fun bt201 => ((quad_Or.f a0_1 a0_2 bt201.1 bt201.2).bind fun bt203 => (some (a0_0, bt203.1, bt203.2))))))))) else (some (0, 0, 0)))
def quad_Less.f (a0_0 : Int) (a0_1 : Int) (a1_0 : Int) (a1_1 : Int) : Option (Bool) := if a0_0 < a1_0 then (some true) else (if a0_0 = a1_0 then (some (decide (a0_1 < a1_1))) else (some false))
def addr_Less.f (a0_0 : Int) (a0_1 : Int) (a0_2 : Int) (a1_0 : Int) (a1_1 : Int) (a1_2 : Int) : Option (Bool) := if a0_0 < a1_0 then (some true) else (if a0_0 = a1_0 then ((quad_Less.f a0_1 a0_2 a1_1 a1_2).bind fun t209 => (some t209)) else (some false))
def rang_Ok.f (a0_0 : Int) (a0_1 : Int) (a0_2 : Int) (a0_3 : Int) (a0_4 : Int) (a0_5 : Int) : Option (Bool) := (addr_Ok.f a0_0 a0_1 a0_2).bind fun t211 => (if t211 = true then ((addr_Ok.f a0_3 a0_4 a0_5).bind fun t212 => (if t212 = true then (if a0_0 = a0_3 then ((addr_Less.f a0_3 a0_4 a0_5 a0_0 a0_1 a0_2).bind fun t213 => (some (!t213))) else (some false)) else (some false))) else (some false))
def quad_Low.f (a0_0 : Int) (a0_1 : Int) : Option (Int) := if a0_1 = 0 then ((bits_TrailingZeros64.f a0_0).bind fun t215 => (some (wrap64 (64 + t215)))) else ((bits_TrailingZeros64.f a0_1).bind fun t216 => (some t216))
def addr_Next.f (a0_0 : Int) (a0_1 : Int) (a0_2 : Int) : Option (Int × Int × Int × Bool) := (quad_Bit.f 300 0).bind fun bt231 => ((quad_Add.f a0_1 a0_2 bt231.1 bt231.2).bind fun bt233 => (if bt233.2.2 = true then ((addr_Ok.f a0_0 a0_1 a0_2).bind fun t238 => (if t238 = true then ((addr_Ok.f a0_0 bt233.1 bt233.2.1).bind fun t239 => (if t239 = true then (some (a0_0, bt233.1, bt233.2.1, true)) else (some (0, 0, 0, false)))) else (some (0, 0, 0, false)))) else (some (0, 0, 0, false))))
end Go.Proofs.YtfnacgojmdbjmaaGreatDoor.PRD
namespace Go.Proofs.YtfnacgojmdbjmaaGreatDoor
open Go.Det Go.RowKit Go.Proofs.YtfnacgojmdbjmaaGreatDoor.PRD Go.Proofs.YtfnacgojmdbjmaaGreatDoorW.PrintWords
set_option maxRecDepth 100000
noncomputable def dec109 : List Value → Option (Int)
  | [.int .u64 a] => some (a)
  | _ => none
noncomputable def enc109 (x : Int) : List Value := [.int .u64 x]
theorem dec109_enc {args : List Value} {a : Int} (h : dec109 args = some a) : args = enc109 a := by
  unfold dec109 at h
  split at h
  case h_2 => cases h
  cases h; rfl
noncomputable def enr109 (y : Int) : Value := .int .i64 y
noncomputable def con109 : Con := Con.opt dec109 (fun x => bits_TrailingZeros64.f x) enr109
theorem om109 {W : World} (hW : GoodW W) : OwnAll Tryz.prog W 6 109 con109.own := by
  refine own_of_calls (fn := Tryz.f109) (c := bodyOf Tryz.f109) hW Tryz.func109 (by kernel_rfl) (by kernel_rfl) fun args v h => ?_
  split at h
  case h_2 => cases h
  rename_i a ha
  split at h
  case h_2 => cases h
  rename_i b hb
  cases h
  obtain rfl := dec109_enc ha
  refine ⟨rfl, rfl, fun w hG => ?_⟩
  first | exact bits_TrailingZeros64.calls a b w hG hb | exact (bits_TrailingZeros64.calls a b w hG hb).mono fun e w' h => ⟨h.1, h.2.below⟩
noncomputable def dec98 : List Value → Option (Int × Int × Int × Int)
  | [.agg ⟨[.int .u64 a, .int .u64 b]⟩, .agg ⟨[.int .u64 c, .int .u64 d]⟩] => some (a, b, c, d)
  | _ => none
noncomputable def enc98 (x : Int × Int × Int × Int) : List Value := [.agg #[.int .u64 x.1, .int .u64 x.2.1], .agg #[.int .u64 x.2.2.1, .int .u64 x.2.2.2]]
theorem dec98_enc {args : List Value} {a : Int × Int × Int × Int} (h : dec98 args = some a) : args = enc98 a := by
  unfold dec98 at h
  split at h
  case h_2 => cases h
  cases h; rfl
noncomputable def enr98 (y : Int × Int × Bool) : Value := .tuple #[.agg #[.int .u64 y.1, .int .u64 y.2.1], .bool y.2.2]
noncomputable def con98 : Con := Con.opt dec98 (fun x => quad_Add.f x.1 x.2.1 x.2.2.1 x.2.2.2) enr98
theorem om98 {W : World} (hW : GoodW W) : OwnAll Tryz.prog W 6 98 con98.own := by
  refine own_of_calls (fn := Tryz.f98) (c := bodyOf Tryz.f98) hW Tryz.func98 (by kernel_rfl) (by kernel_rfl) fun args v h => ?_
  split at h
  case h_2 => cases h
  rename_i a ha
  split at h
  case h_2 => cases h
  rename_i b hb
  cases h
  obtain rfl := dec98_enc ha
  refine ⟨rfl, rfl, fun w hG => ?_⟩
  first | exact quad_Add.calls a.1 a.2.1 a.2.2.1 a.2.2.2 b.1 b.2.1 b.2.2 w hG hb | exact (quad_Add.calls a.1 a.2.1 a.2.2.1 a.2.2.2 b.1 b.2.1 b.2.2 w hG hb).mono fun e w' h => ⟨h.1, h.2.below⟩
noncomputable def dec95 : List Value → Option (Int)
  | [.int .i64 a] => some (a)
  | _ => none
noncomputable def enc95 (x : Int) : List Value := [.int .i64 x]
theorem dec95_enc {args : List Value} {a : Int} (h : dec95 args = some a) : args = enc95 a := by
  unfold dec95 at h
  split at h
  case h_2 => cases h
  cases h; rfl
noncomputable def enr95 (y : Int) : Value := .int .u64 y
noncomputable def con95 : Con := Con.opt dec95 (fun x => quad_high.f x) enr95
theorem om95 {W : World} (hW : GoodW W) : OwnAll Tryz.prog W 6 95 con95.own := by
  refine own_of_calls (fn := Tryz.f95) (c := bodyOf Tryz.f95) hW Tryz.func95 (by kernel_rfl) (by kernel_rfl) fun args v h => ?_
  split at h
  case h_2 => cases h
  rename_i a ha
  split at h
  case h_2 => cases h
  rename_i b hb
  cases h
  obtain rfl := dec95_enc ha
  refine ⟨rfl, rfl, fun w hG => ?_⟩
  first | exact quad_high.calls a b w hG hb | exact (quad_high.calls a b w hG hb).mono fun e w' h => ⟨h.1, h.2.below⟩
noncomputable def dec99 : List Value → Option (Int)
  | [.int .i64 a] => some (a)
  | _ => none
noncomputable def enc99 (x : Int) : List Value := [.int .i64 x]
theorem dec99_enc {args : List Value} {a : Int} (h : dec99 args = some a) : args = enc99 a := by
  unfold dec99 at h
  split at h
  case h_2 => cases h
  cases h; rfl
noncomputable def enr99 (y : Int × Int) : Value := .agg #[.int .u64 y.1, .int .u64 y.2]
noncomputable def con99 : Con := Con.opt dec99 (fun x => quad_Bit.f 300 x) enr99
theorem om99 {W : World} (hW : GoodW W) : OwnAll Tryz.prog W 6 99 con99.own := by
  refine own_of_calls (fn := Tryz.f99) (c := bodyOf Tryz.f99) hW Tryz.func99 (by kernel_rfl) (by kernel_rfl) fun args v h => ?_
  split at h
  case h_2 => cases h
  rename_i a ha
  split at h
  case h_2 => cases h
  rename_i b hb
  cases h
  obtain rfl := dec99_enc ha
  refine ⟨rfl, rfl, fun w hG => ?_⟩
  first | exact quad_Bit.calls 300 a b.1 b.2 w hG hb | exact (quad_Bit.calls 300 a b.1 b.2 w hG hb).mono fun e w' h => ⟨h.1, h.2.below⟩
noncomputable def dec56 : List Value → Option (Int)
  | [.int .i64 a] => some (a)
  | _ => none
noncomputable def enc56 (x : Int) : List Value := [.int .i64 x]
theorem dec56_enc {args : List Value} {a : Int} (h : dec56 args = some a) : args = enc56 a := by
  unfold dec56 at h
  split at h
  case h_2 => cases h
  cases h; rfl
noncomputable def enr56 (y : Int × Int) : Value := .agg #[.int .u64 y.1, .int .u64 y.2]
noncomputable def con56 : Con := Con.opt dec56 (fun x => gleberef1_Mask.f 300 x) enr56
theorem om56 {W : World} (hW : GoodW W) : OwnAll Tryz.prog W 6 56 con56.own := by
  refine own_of_calls (fn := Tryz.f56) (c := bodyOf Tryz.f56) hW Tryz.func56 (by kernel_rfl) (by kernel_rfl) fun args v h => ?_
  split at h
  case h_2 => cases h
  rename_i a ha
  split at h
  case h_2 => cases h
  rename_i b hb
  cases h
  obtain rfl := dec56_enc ha
  refine ⟨rfl, rfl, fun w hG => ?_⟩
  first | exact gleberef1_Mask.calls 300 a b.1 b.2 w hG hb | exact (gleberef1_Mask.calls 300 a b.1 b.2 w hG hb).mono fun e w' h => ⟨h.1, h.2.below⟩
noncomputable def dec42 : List Value → Option (Int × Int × Int)
  | [.int .i64 a, .int .u64 b, .int .u64 c] => some (a, b, c)
  | _ => none
noncomputable def enc42 (x : Int × Int × Int) : List Value := [.int .i64 x.1, .int .u64 x.2.1, .int .u64 x.2.2]
theorem dec42_enc {args : List Value} {a : Int × Int × Int} (h : dec42 args = some a) : args = enc42 a := by
  unfold dec42 at h
  split at h
  case h_2 => cases h
  cases h; rfl
noncomputable def enr42 (y : Int × Int × Int) : Value := .agg #[.int .i64 y.1, .int .u64 y.2.1, .int .u64 y.2.2]
noncomputable def con42 : Con := Con.opt dec42 (fun x => glebelaw2_Addr.f 300 x.1 x.2.1 x.2.2) enr42
theorem om42 {W : World} (hW : GoodW W) : OwnAll Tryz.prog W 6 42 con42.own := by
  refine own_of_calls (fn := Tryz.f42) (c := bodyOf Tryz.f42) hW Tryz.func42 (by kernel_rfl) (by kernel_rfl) fun args v h => ?_
  split at h
  case h_2 => cases h
  rename_i a ha
  split at h
  case h_2 => cases h
  rename_i b hb
  cases h
  obtain rfl := dec42_enc ha
  refine ⟨rfl, rfl, fun w hG => ?_⟩
  first | exact glebelaw2_Addr.calls 300 a.1 a.2.1 a.2.2 b.1 b.2.1 b.2.2 w hG hb | exact (glebelaw2_Addr.calls 300 a.1 a.2.1 a.2.2 b.1 b.2.1 b.2.2 w hG hb).mono fun e w' h => ⟨h.1, h.2.below⟩
noncomputable def dec45 : List Value → Option (Int)
  | [.int .i64 a] => some (a)
  | _ => none
noncomputable def enc45 (x : Int) : List Value := [.int .i64 x]
theorem dec45_enc {args : List Value} {a : Int} (h : dec45 args = some a) : args = enc45 a := by
  unfold dec45 at h
  split at h
  case h_2 => cases h
  cases h; rfl
noncomputable def enr45 (y : Int) : Value := .int .i64 y
noncomputable def con45 : Con := Con.opt dec45 (fun x => gleberef1_Bits.f x) enr45
noncomputable def L45 : List (Nat × Con) := []
noncomputable def dec55 : List Value → Option (Int × Int × Int × Int)
  | [.agg ⟨[.int .u64 a, .int .u64 b]⟩, .agg ⟨[.int .u64 c, .int .u64 d]⟩] => some (a, b, c, d)
  | _ => none
noncomputable def enc55 (x : Int × Int × Int × Int) : List Value := [.agg #[.int .u64 x.1, .int .u64 x.2.1], .agg #[.int .u64 x.2.2.1, .int .u64 x.2.2.2]]
theorem dec55_enc {args : List Value} {a : Int × Int × Int × Int} (h : dec55 args = some a) : args = enc55 a := by
  unfold dec55 at h
  split at h
  case h_2 => cases h
  cases h; rfl
noncomputable def enr55 (y : Int × Int) : Value := .agg #[.int .u64 y.1, .int .u64 y.2]
noncomputable def con55 : Con := Con.opt dec55 (fun x => gleberef1_And.f x.1 x.2.1 x.2.2.1 x.2.2.2) enr55
noncomputable def L55 : List (Nat × Con) := []
noncomputable def dec57 : List Value → Option (Int × Int)
  | [.agg ⟨[.int .u64 a, .int .u64 b]⟩] => some (a, b)
  | _ => none
noncomputable def enc57 (x : Int × Int) : List Value := [.agg #[.int .u64 x.1, .int .u64 x.2]]
theorem dec57_enc {args : List Value} {a : Int × Int} (h : dec57 args = some a) : args = enc57 a := by
  unfold dec57 at h
  split at h
  case h_2 => cases h
  cases h; rfl
noncomputable def enr57 (y : Int × Int) : Value := .agg #[.int .u64 y.1, .int .u64 y.2]
noncomputable def con57 : Con := Con.opt dec57 (fun x => gleberef1_Not.f x.1 x.2) enr57
noncomputable def L57 : List (Nat × Con) := []
noncomputable def dec65 : List Value → Option (Int × Int)
  | [.int .i64 a, .int .i64 b] => some (a, b)
  | _ => none
noncomputable def enc65 (x : Int × Int) : List Value := [.int .i64 x.1, .int .i64 x.2]
theorem dec65_enc {args : List Value} {a : Int × Int} (h : dec65 args = some a) : args = enc65 a := by
  unfold dec65 at h
  split at h
  case h_2 => cases h
  cases h; rfl
noncomputable def enr65 (y : Int × Int) : Value := .agg #[.int .u64 y.1, .int .u64 y.2]
noncomputable def con65 : Con := Con.opt dec65 (fun x => gleberef1_all.f x.1 x.2) enr65
noncomputable def L65 : List (Nat × Con) := [(45, con45), (56, con56), (57, con57), (55, con55)]
noncomputable def dec44 : List Value → Option (Int × Int × Int)
  | [.agg ⟨[.int .i64 a, .int .u64 b, .int .u64 c]⟩] => some (a, b, c)
  | _ => none
noncomputable def enc44 (x : Int × Int × Int) : List Value := [.agg #[.int .i64 x.1, .int .u64 x.2.1, .int .u64 x.2.2]]
theorem dec44_enc {args : List Value} {a : Int × Int × Int} (h : dec44 args = some a) : args = enc44 a := by
  unfold dec44 at h
  split at h
  case h_2 => cases h
  cases h; rfl
noncomputable def enr44 (y : Bool) : Value := .bool y
noncomputable def con44 : Con := Con.opt dec44 (fun x => gleberef1_Ok.f x.1 x.2.1 x.2.2) enr44
noncomputable def L44 : List (Nat × Con) := []
noncomputable def dec16 : List Value → Option (Int × Int × Int × Int)
  | [.agg ⟨[.int .i64 a, .int .u64 b, .int .u64 c, .int .i64 d]⟩] => some (a, b, c, d)
  | _ => none
noncomputable def enc16 (x : Int × Int × Int × Int) : List Value := [.agg #[.int .i64 x.1, .int .u64 x.2.1, .int .u64 x.2.2.1, .int .i64 x.2.2.2]]
theorem dec16_enc {args : List Value} {a : Int × Int × Int × Int} (h : dec16 args = some a) : args = enc16 a := by
  unfold dec16 at h
  split at h
  case h_2 => cases h
  cases h; rfl
noncomputable def enr16 (y : Bool) : Value := .bool y
noncomputable def con16 : Con := Con.opt dec16 (fun x => gleberef1_OkPrefix.f x.1 x.2.1 x.2.2.1 x.2.2.2) enr16
noncomputable def L16 : List (Nat × Con) := [(44, con44), (45, con45), (65, con65), (55, con55)]
noncomputable def dec25 : List Value → Option (Int × Int × Int × Int)
  | [.agg ⟨[.int .i64 a, .int .u64 b, .int .u64 c, .int .i64 d]⟩] => some (a, b, c, d)
  | _ => none
noncomputable def enc25 (x : Int × Int × Int × Int) : List Value := [.agg #[.int .i64 x.1, .int .u64 x.2.1, .int .u64 x.2.2.1, .int .i64 x.2.2.2]]
theorem dec25_enc {args : List Value} {a : Int × Int × Int × Int} (h : dec25 args = some a) : args = enc25 a := by
  unfold dec25 at h
  split at h
  case h_2 => cases h
  cases h; rfl
noncomputable def enr25 (y : Int × Int × Int) : Value := .agg #[.int .i64 y.1, .int .u64 y.2.1, .int .u64 y.2.2]
noncomputable def con25 : Con := Con.opt dec25 (fun x => gleberef1_Last.f x.1 x.2.1 x.2.2.1 x.2.2.2) enr25
noncomputable def L25 : List (Nat × Con) := [(16, con16), (65, con65), (57, con57), (45, con45), (56, con56), (55, con55)]
noncomputable def dec43 : List Value → Option (Int × Int × Int × Int)
  | [.agg ⟨[.int .u64 a, .int .u64 b]⟩, .agg ⟨[.int .u64 c, .int .u64 d]⟩] => some (a, b, c, d)
  | _ => none
noncomputable def enc43 (x : Int × Int × Int × Int) : List Value := [.agg #[.int .u64 x.1, .int .u64 x.2.1], .agg #[.int .u64 x.2.2.1, .int .u64 x.2.2.2]]
theorem dec43_enc {args : List Value} {a : Int × Int × Int × Int} (h : dec43 args = some a) : args = enc43 a := by
  unfold dec43 at h
  split at h
  case h_2 => cases h
  cases h; rfl
noncomputable def enr43 (y : Int × Int × Bool) : Value := .tuple #[.agg #[.int .u64 y.1, .int .u64 y.2.1], .bool y.2.2]
noncomputable def con43 : Con := Con.opt dec43 (fun x => gleberef1_Add.f x.1 x.2.1 x.2.2.1 x.2.2.2) enr43
noncomputable def L43 : List (Nat × Con) := []
noncomputable def enc10 (x : Int × Int × Int × Int) : List Value := [.int .i64 x.1, .int .u64 x.2.1, .int .u64 x.2.2.1, .int .i64 x.2.2.2]
noncomputable def enr10 (y : Int × Int × Int × Int) : Value := .agg #[.int .i64 y.1, .int .u64 y.2.1, .int .u64 y.2.2.1, .int .i64 y.2.2.2]
noncomputable def L10 : List (Nat × Con) := [(42, con42), (45, con45), (56, con56), (57, con57), (55, con55)]
noncomputable def dec66 : List Value → Option (Int × Int × Int × Int)
  | [.agg ⟨[.int .u64 a, .int .u64 b]⟩, .agg ⟨[.int .u64 c, .int .u64 d]⟩] => some (a, b, c, d)
  | _ => none
noncomputable def enc66 (x : Int × Int × Int × Int) : List Value := [.agg #[.int .u64 x.1, .int .u64 x.2.1], .agg #[.int .u64 x.2.2.1, .int .u64 x.2.2.2]]
theorem dec66_enc {args : List Value} {a : Int × Int × Int × Int} (h : dec66 args = some a) : args = enc66 a := by
  unfold dec66 at h
  split at h
  case h_2 => cases h
  cases h; rfl
noncomputable def enr66 (y : Int × Int) : Value := .agg #[.int .u64 y.1, .int .u64 y.2]
noncomputable def con66 : Con := Con.opt dec66 (fun x => quad_And.f x.1 x.2.1 x.2.2.1 x.2.2.2) enr66
noncomputable def L66 : List (Nat × Con) := []
noncomputable def dec74 : List Value → Option (Int × Int × Int × Int)
  | [.agg ⟨[.int .u64 a, .int .u64 b]⟩, .agg ⟨[.int .u64 c, .int .u64 d]⟩] => some (a, b, c, d)
  | _ => none
noncomputable def enc74 (x : Int × Int × Int × Int) : List Value := [.agg #[.int .u64 x.1, .int .u64 x.2.1], .agg #[.int .u64 x.2.2.1, .int .u64 x.2.2.2]]
theorem dec74_enc {args : List Value} {a : Int × Int × Int × Int} (h : dec74 args = some a) : args = enc74 a := by
  unfold dec74 at h
  split at h
  case h_2 => cases h
  cases h; rfl
noncomputable def enr74 (y : Int × Int) : Value := .agg #[.int .u64 y.1, .int .u64 y.2]
noncomputable def con74 : Con := Con.opt dec74 (fun x => quad_Or.f x.1 x.2.1 x.2.2.1 x.2.2.2) enr74
noncomputable def L74 : List (Nat × Con) := []
noncomputable def dec72 : List Value → Option (Int × Int)
  | [.agg ⟨[.int .u64 a, .int .u64 b]⟩] => some (a, b)
  | _ => none
noncomputable def enc72 (x : Int × Int) : List Value := [.agg #[.int .u64 x.1, .int .u64 x.2]]
theorem dec72_enc {args : List Value} {a : Int × Int} (h : dec72 args = some a) : args = enc72 a := by
  unfold dec72 at h
  split at h
  case h_2 => cases h
  cases h; rfl
noncomputable def enr72 (y : Int × Int) : Value := .agg #[.int .u64 y.1, .int .u64 y.2]
noncomputable def con72 : Con := Con.opt dec72 (fun x => quad_Not.f x.1 x.2) enr72
noncomputable def L72 : List (Nat × Con) := []
noncomputable def dec69 : List Value → Option (Int)
  | [.int .i64 a] => some (a)
  | _ => none
noncomputable def enc69 (x : Int) : List Value := [.int .i64 x]
theorem dec69_enc {args : List Value} {a : Int} (h : dec69 args = some a) : args = enc69 a := by
  unfold dec69 at h
  split at h
  case h_2 => cases h
  cases h; rfl
noncomputable def enr69 (y : Int) : Value := .int .i64 y
noncomputable def con69 : Con := Con.opt dec69 (fun x => addr_Bits.f x) enr69
noncomputable def L69 : List (Nat × Con) := []
noncomputable def dec73 : List Value → Option (Int)
  | [.int .i64 a] => some (a)
  | _ => none
noncomputable def enc73 (x : Int) : List Value := [.int .i64 x]
theorem dec73_enc {args : List Value} {a : Int} (h : dec73 args = some a) : args = enc73 a := by
  unfold dec73 at h
  split at h
  case h_2 => cases h
  cases h; rfl
noncomputable def enr73 (y : Int × Int) : Value := .agg #[.int .u64 y.1, .int .u64 y.2]
noncomputable def con73 : Con := Con.opt dec73 (fun x => quad_Mask.f x) enr73
noncomputable def L73 : List (Nat × Con) := [(95, con95)]
noncomputable def dec67 : List Value → Option (Int × Int)
  | [.int .i64 a, .int .i64 b] => some (a, b)
  | _ => none
noncomputable def enc67 (x : Int × Int) : List Value := [.int .i64 x.1, .int .i64 x.2]
theorem dec67_enc {args : List Value} {a : Int × Int} (h : dec67 args = some a) : args = enc67 a := by
  unfold dec67 at h
  split at h
  case h_2 => cases h
  cases h; rfl
noncomputable def enr67 (y : Int × Int) : Value := .agg #[.int .u64 y.1, .int .u64 y.2]
noncomputable def con67 : Con := Con.opt dec67 (fun x => pref_mask.f x.1 x.2) enr67
noncomputable def L67 : List (Nat × Con) := [(69, con69), (73, con73)]
noncomputable def dec68 : List Value → Option (Int × Int × Int)
  | [.agg ⟨[.int .i64 a, .int .u64 b, .int .u64 c]⟩] => some (a, b, c)
  | _ => none
noncomputable def enc68 (x : Int × Int × Int) : List Value := [.agg #[.int .i64 x.1, .int .u64 x.2.1, .int .u64 x.2.2]]
theorem dec68_enc {args : List Value} {a : Int × Int × Int} (h : dec68 args = some a) : args = enc68 a := by
  unfold dec68 at h
  split at h
  case h_2 => cases h
  cases h; rfl
noncomputable def enr68 (y : Bool) : Value := .bool y
noncomputable def con68 : Con := Con.opt dec68 (fun x => addr_Ok.f x.1 x.2.1 x.2.2) enr68
noncomputable def L68 : List (Nat × Con) := []
noncomputable def dec22 : List Value → Option (Int × Int × Int × Int)
  | [.agg ⟨[.int .i64 a, .int .u64 b, .int .u64 c, .int .i64 d]⟩] => some (a, b, c, d)
  | _ => none
noncomputable def enc22 (x : Int × Int × Int × Int) : List Value := [.agg #[.int .i64 x.1, .int .u64 x.2.1, .int .u64 x.2.2.1, .int .i64 x.2.2.2]]
theorem dec22_enc {args : List Value} {a : Int × Int × Int × Int} (h : dec22 args = some a) : args = enc22 a := by
  unfold dec22 at h
  split at h
  case h_2 => cases h
  cases h; rfl
noncomputable def enr22 (y : Bool) : Value := .bool y
noncomputable def con22 : Con := Con.opt dec22 (fun x => pref_Ok.f x.1 x.2.1 x.2.2.1 x.2.2.2) enr22
noncomputable def L22 : List (Nat × Con) := [(68, con68), (69, con69), (67, con67), (72, con72), (66, con66)]
noncomputable def dec24 : List Value → Option (Int × Int × Int × Int)
  | [.agg ⟨[.int .i64 a, .int .u64 b, .int .u64 c, .int .i64 d]⟩] => some (a, b, c, d)
  | _ => none
noncomputable def enc24 (x : Int × Int × Int × Int) : List Value := [.agg #[.int .i64 x.1, .int .u64 x.2.1, .int .u64 x.2.2.1, .int .i64 x.2.2.2]]
theorem dec24_enc {args : List Value} {a : Int × Int × Int × Int} (h : dec24 args = some a) : args = enc24 a := by
  unfold dec24 at h
  split at h
  case h_2 => cases h
  cases h; rfl
noncomputable def enr24 (y : Int × Int × Int) : Value := .agg #[.int .i64 y.1, .int .u64 y.2.1, .int .u64 y.2.2]
noncomputable def con24 : Con := Con.opt dec24 (fun x => pref_Last.f x.1 x.2.1 x.2.2.1 x.2.2.2) enr24
noncomputable def L24 : List (Nat × Con) := [(22, con22), (69, con69), (73, con73), (67, con67), (72, con72), (66, con66), (74, con74)]
noncomputable def dec96 : List Value → Option (Int × Int × Int × Int)
  | [.agg ⟨[.int .u64 a, .int .u64 b]⟩, .agg ⟨[.int .u64 c, .int .u64 d]⟩] => some (a, b, c, d)
  | _ => none
noncomputable def enc96 (x : Int × Int × Int × Int) : List Value := [.agg #[.int .u64 x.1, .int .u64 x.2.1], .agg #[.int .u64 x.2.2.1, .int .u64 x.2.2.2]]
theorem dec96_enc {args : List Value} {a : Int × Int × Int × Int} (h : dec96 args = some a) : args = enc96 a := by
  unfold dec96 at h
  split at h
  case h_2 => cases h
  cases h; rfl
noncomputable def enr96 (y : Bool) : Value := .bool y
noncomputable def con96 : Con := Con.opt dec96 (fun x => quad_Less.f x.1 x.2.1 x.2.2.1 x.2.2.2) enr96
noncomputable def L96 : List (Nat × Con) := []
noncomputable def dec75 : List Value → Option (Int × Int × Int × Int × Int × Int)
  | [.agg ⟨[.int .i64 a, .int .u64 b, .int .u64 c]⟩, .agg ⟨[.int .i64 d, .int .u64 e, .int .u64 f]⟩] => some (a, b, c, d, e, f)
  | _ => none
noncomputable def enc75 (x : Int × Int × Int × Int × Int × Int) : List Value := [.agg #[.int .i64 x.1, .int .u64 x.2.1, .int .u64 x.2.2.1], .agg #[.int .i64 x.2.2.2.1, .int .u64 x.2.2.2.2.1, .int .u64 x.2.2.2.2.2]]
theorem dec75_enc {args : List Value} {a : Int × Int × Int × Int × Int × Int} (h : dec75 args = some a) : args = enc75 a := by
  unfold dec75 at h
  split at h
  case h_2 => cases h
  cases h; rfl
noncomputable def enr75 (y : Bool) : Value := .bool y
noncomputable def con75 : Con := Con.opt dec75 (fun x => addr_Less.f x.1 x.2.1 x.2.2.1 x.2.2.2.1 x.2.2.2.2.1 x.2.2.2.2.2) enr75
noncomputable def L75 : List (Nat × Con) := [(96, con96)]
noncomputable def dec48 : List Value → Option (Int × Int × Int × Int × Int × Int)
  | [.agg ⟨[.int .i64 a, .int .u64 b, .int .u64 c, .int .i64 d, .int .u64 e, .int .u64 f]⟩] => some (a, b, c, d, e, f)
  | _ => none
noncomputable def enc48 (x : Int × Int × Int × Int × Int × Int) : List Value := [.agg #[.int .i64 x.1, .int .u64 x.2.1, .int .u64 x.2.2.1, .int .i64 x.2.2.2.1, .int .u64 x.2.2.2.2.1, .int .u64 x.2.2.2.2.2]]
theorem dec48_enc {args : List Value} {a : Int × Int × Int × Int × Int × Int} (h : dec48 args = some a) : args = enc48 a := by
  unfold dec48 at h
  split at h
  case h_2 => cases h
  cases h; rfl
noncomputable def enr48 (y : Bool) : Value := .bool y
noncomputable def con48 : Con := Con.opt dec48 (fun x => rang_Ok.f x.1 x.2.1 x.2.2.1 x.2.2.2.1 x.2.2.2.2.1 x.2.2.2.2.2) enr48
noncomputable def L48 : List (Nat × Con) := [(68, con68), (75, con75)]
noncomputable def dec97 : List Value → Option (Int × Int)
  | [.agg ⟨[.int .u64 a, .int .u64 b]⟩] => some (a, b)
  | _ => none
noncomputable def enc97 (x : Int × Int) : List Value := [.agg #[.int .u64 x.1, .int .u64 x.2]]
theorem dec97_enc {args : List Value} {a : Int × Int} (h : dec97 args = some a) : args = enc97 a := by
  unfold dec97 at h
  split at h
  case h_2 => cases h
  cases h; rfl
noncomputable def enr97 (y : Int) : Value := .int .i64 y
noncomputable def con97 : Con := Con.opt dec97 (fun x => quad_Low.f x.1 x.2) enr97
noncomputable def L97 : List (Nat × Con) := [(109, con109)]
noncomputable def dec78 : List Value → Option (Int × Int × Int)
  | [.agg ⟨[.int .i64 a, .int .u64 b, .int .u64 c]⟩] => some (a, b, c)
  | _ => none
noncomputable def enc78 (x : Int × Int × Int) : List Value := [.agg #[.int .i64 x.1, .int .u64 x.2.1, .int .u64 x.2.2]]
theorem dec78_enc {args : List Value} {a : Int × Int × Int} (h : dec78 args = some a) : args = enc78 a := by
  unfold dec78 at h
  split at h
  case h_2 => cases h
  cases h; rfl
noncomputable def enr78 (y : Int × Int × Int × Bool) : Value := .tuple #[.agg #[.int .i64 y.1, .int .u64 y.2.1, .int .u64 y.2.2.1], .bool y.2.2.2]
noncomputable def con78 : Con := Con.opt dec78 (fun x => addr_Next.f x.1 x.2.1 x.2.2) enr78
noncomputable def L78 : List (Nat × Con) := [(99, con99), (98, con98), (68, con68)]
end Go.Proofs.YtfnacgojmdbjmaaGreatDoor
end

section
/- The conditions of the functions without loops, reckoned by the kernel. -/
namespace Go.Proofs.YtfnacgojmdbjmaaGreatDoor
open Go.Det Go.RowKit Go.Proofs.YtfnacgojmdbjmaaGreatDoor.PRD Go.Proofs.YtfnacgojmdbjmaaGreatDoorW.PrintWords
set_option maxRecDepth 100000
theorem vc45 (a : Int) (Q : Value → Prop) : codeW Tryz.prog (cwC L45) (bodyOf Tryz.f45) (inTab [.int .i64 a] 8) (birth [] 64) (retW Tryz.prog Tryz.f45 fun v _ => Q v) = (bifW (cdec (a = 4)) (Q (Value.int IntKind.i64 32)) (bifW (cdec (a = 6)) (Q (Value.int IntKind.i64 128)) (Q (Value.int IntKind.i64 0)))) := by kernel_rfl
theorem vc55 (a b c d : Int) (Q : Value → Prop) : codeW Tryz.prog (cwC L55) (bodyOf Tryz.f55) (inTab [.agg #[.int .u64 a, .int .u64 b], .agg #[.int .u64 c, .int .u64 d]] 8) (birth [] 64) (retW Tryz.prog Tryz.f55 fun v _ => Q v) = (Q (Value.agg #[Value.int IntKind.u64 (andI IntKind.u64 a c), Value.int IntKind.u64 (andI IntKind.u64 b d)])) := by kernel_rfl
theorem vc57 (a b : Int) (Q : Value → Prop) : codeW Tryz.prog (cwC L57) (bodyOf Tryz.f57) (inTab [.agg #[.int .u64 a, .int .u64 b]] 8) (birth [] 64) (retW Tryz.prog Tryz.f57 fun v _ => Q v) = (Q (Value.agg #[Value.int IntKind.u64 (IntKind.wrap IntKind.u64 (↑(BitVec.toNat (BitVec.ofInt 64 (if Bool.false = Bool.true then -1 else if Bool.false = Bool.true then 2 ^ (64 - 1) - 1 else 2 ^ 64 - 1) ^^^ BitVec.ofInt 64 a)) : Int)), Value.int IntKind.u64 (IntKind.wrap IntKind.u64 (↑(BitVec.toNat (BitVec.ofInt 64 (if Bool.false = Bool.true then -1 else if Bool.false = Bool.true then 2 ^ (64 - 1) - 1 else 2 ^ 64 - 1) ^^^ BitVec.ofInt 64 b)) : Int))])) := by kernel_rfl
theorem vc65 (a b : Int) (Q : Value → Prop) : codeW Tryz.prog (cwC L65) (bodyOf Tryz.f65) (inTab [.int .i64 a, .int .i64 b] 8) (birth [] 64) (retW Tryz.prog Tryz.f65 fun v _ => Q v) = ((∃ x0 : Int, ((gleberef1_Bits.f a = Option.some x0) ∧ (∃ x1 : Int × Int, ((gleberef1_Mask.f 300 (IntKind.wrap IntKind.i64 (IntKind.wrap IntKind.i64 (128 - x0) + b)) = Option.some x1) ∧ (∃ x2 : Int, ((gleberef1_Bits.f a = Option.some x2) ∧ (∃ x3 : Int × Int, ((gleberef1_Mask.f 300 (IntKind.wrap IntKind.i64 (128 - x2)) = Option.some x3) ∧ (∃ x4 : Int × Int, ((gleberef1_Not.f (Prod.fst x3) (Prod.snd x3) = Option.some x4) ∧ (∃ x5 : Int × Int, ((gleberef1_And.f (Prod.fst x1) (Prod.snd x1) (Prod.fst x4) (Prod.snd x4) = Option.some x5) ∧ Q (Value.agg #[Value.int IntKind.u64 (Prod.fst x5), Value.int IntKind.u64 (Prod.snd x5)])))))))))))))) := by kernel_rfl
theorem vc44 (a b c : Int) (Q : Value → Prop) : codeW Tryz.prog (cwC L44) (bodyOf Tryz.f44) (inTab [.agg #[.int .i64 a, .int .u64 b, .int .u64 c]] 8) (birth [] 64) (retW Tryz.prog Tryz.f44 fun v _ => Q v) = (bifW (cdec (a = 6)) (Q (Value.bool Bool.true)) (bifW (cdec (a = 4)) (bifW (cdec (b = 0)) (Q (Value.bool (cdec (c < 4294967296)))) (Q (Value.bool Bool.false))) (Q (Value.bool Bool.false)))) := by kernel_rfl
theorem vc16 (a b c d : Int) (Q : Value → Prop) : codeW Tryz.prog (cwC L16) (bodyOf Tryz.f16) (inTab [.agg #[.int .i64 a, .int .u64 b, .int .u64 c, .int .i64 d]] 8) (birth [] 64) (retW Tryz.prog Tryz.f16 fun v _ => Q v) = ((∃ x0 : Bool, ((gleberef1_Ok.f a b c = Option.some x0) ∧ bifW (x0) (bifW (cdec (0 ≤ d)) ((∃ x1 : Int, ((gleberef1_Bits.f a = Option.some x1) ∧ bifW (cdec (d ≤ x1)) ((∃ x2 : Int × Int, ((gleberef1_all.f a d = Option.some x2) ∧ (∃ x3 : Int × Int, ((gleberef1_And.f b c (Prod.fst x2) (Prod.snd x2) = Option.some x3) ∧ Q (Value.bool (cdec (Prod.fst x3 = b) && (cdec (Prod.snd x3 = c) && Bool.true)))))))) (Q (Value.bool Bool.false))))) (Q (Value.bool Bool.false))) (Q (Value.bool Bool.false))))) := by kernel_rfl
theorem vc25 (a b c d : Int) (Q : Value → Prop) : codeW Tryz.prog (cwC L25) (bodyOf Tryz.f25) (inTab [.agg #[.int .i64 a, .int .u64 b, .int .u64 c, .int .i64 d]] 8) (birth [] 64) (retW Tryz.prog Tryz.f25 fun v _ => Q v) = ((∃ x0 : Bool, ((gleberef1_OkPrefix.f a b c d = Option.some x0) ∧ bifW (!x0) (Q (Value.agg #[Value.int IntKind.i64 0, Value.int IntKind.u64 0, Value.int IntKind.u64 0])) ((∃ x1 : Int × Int, ((gleberef1_all.f a d = Option.some x1) ∧ (∃ x2 : Int × Int, ((gleberef1_Not.f (Prod.fst x1) (Prod.snd x1) = Option.some x2) ∧ (∃ x3 : Int, ((gleberef1_Bits.f a = Option.some x3) ∧ (∃ x4 : Int × Int, ((gleberef1_Mask.f 300 (IntKind.wrap IntKind.i64 (128 - x3)) = Option.some x4) ∧ (∃ x5 : Int × Int, ((gleberef1_Not.f (Prod.fst x4) (Prod.snd x4) = Option.some x5) ∧ (∃ x6 : Int × Int, ((gleberef1_And.f (Prod.fst x2) (Prod.snd x2) (Prod.fst x5) (Prod.snd x5) = Option.some x6) ∧ Q (Value.agg #[Value.int IntKind.i64 a, Value.int IntKind.u64 (orI IntKind.u64 b (Prod.fst x6)), Value.int IntKind.u64 (orI IntKind.u64 c (Prod.snd x6))]))))))))))))))))) := by kernel_rfl
theorem vc43 (a b c d : Int) (Q : Value → Prop) : codeW Tryz.prog (cwC L43) (bodyOf Tryz.f43) (inTab [.agg #[.int .u64 a, .int .u64 b], .agg #[.int .u64 c, .int .u64 d]] 8) (birth [] 64) (retW Tryz.prog Tryz.f43 fun v _ => Q v) = (bifW (cdec (IntKind.wrap IntKind.u64 (b + d) < b)) (bifW (cdec (IntKind.wrap IntKind.u64 (a + c) < a)) (Q (Value.tuple #[Value.agg #[Value.int IntKind.u64 0, Value.int IntKind.u64 0], Value.bool Bool.false])) (bifW (cdec (IntKind.wrap IntKind.u64 (IntKind.wrap IntKind.u64 (a + c) + 1) < IntKind.wrap IntKind.u64 (a + c))) (Q (Value.tuple #[Value.agg #[Value.int IntKind.u64 0, Value.int IntKind.u64 0], Value.bool Bool.false])) (Q (Value.tuple #[Value.agg #[Value.int IntKind.u64 (IntKind.wrap IntKind.u64 (IntKind.wrap IntKind.u64 (a + c) + 1)), Value.int IntKind.u64 (IntKind.wrap IntKind.u64 (b + d))], Value.bool Bool.true])))) (bifW (cdec (IntKind.wrap IntKind.u64 (a + c) < a)) (Q (Value.tuple #[Value.agg #[Value.int IntKind.u64 0, Value.int IntKind.u64 0], Value.bool Bool.false])) (bifW (cdec (IntKind.wrap IntKind.u64 (IntKind.wrap IntKind.u64 (a + c) + 0) < IntKind.wrap IntKind.u64 (a + c))) (Q (Value.tuple #[Value.agg #[Value.int IntKind.u64 0, Value.int IntKind.u64 0], Value.bool Bool.false])) (Q (Value.tuple #[Value.agg #[Value.int IntKind.u64 (IntKind.wrap IntKind.u64 (IntKind.wrap IntKind.u64 (a + c) + 0)), Value.int IntKind.u64 (IntKind.wrap IntKind.u64 (b + d))], Value.bool Bool.true]))))) := by kernel_rfl
theorem vc10 (a b c d : Int) (Q : Value → Prop) : codeW Tryz.prog (cwC L10) (bodyOf Tryz.f10) (inTab [.int .i64 a, .int .u64 b, .int .u64 c, .int .i64 d] 8) (birth [] 64) (retW Tryz.prog Tryz.f10 fun v _ => Q v) = ((∃ x0 : Int × Int × Int, ((glebelaw2_Addr.f 300 a b c = Option.some x0) ∧ (∃ x1 : Int, ((gleberef1_Bits.f (Prod.fst x0) = Option.some x1) ∧ ((IntKind.wrap IntKind.i64 (x1 + 1) ≠ 0) ∧ (∃ x2 : Int, ((gleberef1_Bits.f (Prod.fst x0) = Option.some x2) ∧ (∃ x3 : Int × Int, ((gleberef1_Mask.f 300 (IntKind.wrap IntKind.i64 (IntKind.wrap IntKind.i64 (128 - x2) + Int.tmod (andI IntKind.i64 d 255) (IntKind.wrap IntKind.i64 (x1 + 1)))) = Option.some x3) ∧ (∃ x4 : Int, ((gleberef1_Bits.f (Prod.fst x0) = Option.some x4) ∧ (∃ x5 : Int × Int, ((gleberef1_Mask.f 300 (IntKind.wrap IntKind.i64 (128 - x4)) = Option.some x5) ∧ (∃ x6 : Int × Int, ((gleberef1_Not.f (Prod.fst x5) (Prod.snd x5) = Option.some x6) ∧ (∃ x7 : Int × Int, ((gleberef1_And.f (Prod.fst x3) (Prod.snd x3) (Prod.fst x6) (Prod.snd x6) = Option.some x7) ∧ (∃ x8 : Int × Int, ((gleberef1_And.f (Prod.fst (Prod.snd x0)) (Prod.snd (Prod.snd x0)) (Prod.fst x7) (Prod.snd x7) = Option.some x8) ∧ Q (Value.agg #[Value.int IntKind.i64 (Prod.fst x0), Value.int IntKind.u64 (Prod.fst x8), Value.int IntKind.u64 (Prod.snd x8), Value.int IntKind.i64 (Int.tmod (andI IntKind.i64 d 255) (IntKind.wrap IntKind.i64 (x1 + 1)))]))))))))))))))))))))) := by kernel_rfl
theorem vc66 (a b c d : Int) (Q : Value → Prop) : codeW Tryz.prog (cwC L66) (bodyOf Tryz.f66) (inTab [.agg #[.int .u64 a, .int .u64 b], .agg #[.int .u64 c, .int .u64 d]] 8) (birth [] 64) (retW Tryz.prog Tryz.f66 fun v _ => Q v) = (Q (Value.agg #[Value.int IntKind.u64 (andI IntKind.u64 a c), Value.int IntKind.u64 (andI IntKind.u64 b d)])) := by kernel_rfl
theorem vc74 (a b c d : Int) (Q : Value → Prop) : codeW Tryz.prog (cwC L74) (bodyOf Tryz.f74) (inTab [.agg #[.int .u64 a, .int .u64 b], .agg #[.int .u64 c, .int .u64 d]] 8) (birth [] 64) (retW Tryz.prog Tryz.f74 fun v _ => Q v) = (Q (Value.agg #[Value.int IntKind.u64 (orI IntKind.u64 a c), Value.int IntKind.u64 (orI IntKind.u64 b d)])) := by kernel_rfl
theorem vc72 (a b : Int) (Q : Value → Prop) : codeW Tryz.prog (cwC L72) (bodyOf Tryz.f72) (inTab [.agg #[.int .u64 a, .int .u64 b]] 8) (birth [] 64) (retW Tryz.prog Tryz.f72 fun v _ => Q v) = (Q (Value.agg #[Value.int IntKind.u64 (IntKind.wrap IntKind.u64 (↑(BitVec.toNat (BitVec.ofInt 64 (if Bool.false = Bool.true then -1 else if Bool.false = Bool.true then 2 ^ (64 - 1) - 1 else 2 ^ 64 - 1) ^^^ BitVec.ofInt 64 a)) : Int)), Value.int IntKind.u64 (IntKind.wrap IntKind.u64 (↑(BitVec.toNat (BitVec.ofInt 64 (if Bool.false = Bool.true then -1 else if Bool.false = Bool.true then 2 ^ (64 - 1) - 1 else 2 ^ 64 - 1) ^^^ BitVec.ofInt 64 b)) : Int))])) := by kernel_rfl
theorem vc69 (a : Int) (Q : Value → Prop) : codeW Tryz.prog (cwC L69) (bodyOf Tryz.f69) (inTab [.int .i64 a] 8) (birth [] 64) (retW Tryz.prog Tryz.f69 fun v _ => Q v) = (bifW (cdec (a = 4)) (Q (Value.int IntKind.i64 32)) (bifW (cdec (a = 6)) (Q (Value.int IntKind.i64 128)) (Q (Value.int IntKind.i64 0)))) := by kernel_rfl
theorem vc73 (a : Int) (Q : Value → Prop) : codeW Tryz.prog (cwC L73) (bodyOf Tryz.f73) (inTab [.int .i64 a] 8) (birth [] 64) (retW Tryz.prog Tryz.f73 fun v _ => Q v) = ((∃ x0 : Int, ((quad_high.f a = Option.some x0) ∧ (∃ x1 : Int, ((quad_high.f (IntKind.wrap IntKind.i64 ((if 128 < a then 128 else a) - 64)) = Option.some x1) ∧ Q (Value.agg #[Value.int IntKind.u64 x0, Value.int IntKind.u64 x1])))))) := by kernel_rfl
theorem vc67 (a b : Int) (Q : Value → Prop) : codeW Tryz.prog (cwC L67) (bodyOf Tryz.f67) (inTab [.int .i64 a, .int .i64 b] 8) (birth [] 64) (retW Tryz.prog Tryz.f67 fun v _ => Q v) = ((∃ x0 : Int, ((addr_Bits.f a = Option.some x0) ∧ (∃ x1 : Int × Int, ((quad_Mask.f (IntKind.wrap IntKind.i64 (IntKind.wrap IntKind.i64 (128 - x0) + b)) = Option.some x1) ∧ Q (Value.agg #[Value.int IntKind.u64 (Prod.fst x1), Value.int IntKind.u64 (Prod.snd x1)])))))) := by kernel_rfl
theorem vc68 (a b c : Int) (Q : Value → Prop) : codeW Tryz.prog (cwC L68) (bodyOf Tryz.f68) (inTab [.agg #[.int .i64 a, .int .u64 b, .int .u64 c]] 8) (birth [] 64) (retW Tryz.prog Tryz.f68 fun v _ => Q v) = (bifW (cdec (a = 6)) (Q (Value.bool Bool.true)) (bifW (cdec (a = 4)) (bifW (cdec (b = 0)) (Q (Value.bool (cdec (c < 4294967296)))) (Q (Value.bool Bool.false))) (Q (Value.bool Bool.false)))) := by kernel_rfl
theorem vc22 (a b c d : Int) (Q : Value → Prop) : codeW Tryz.prog (cwC L22) (bodyOf Tryz.f22) (inTab [.agg #[.int .i64 a, .int .u64 b, .int .u64 c, .int .i64 d]] 8) (birth [] 64) (retW Tryz.prog Tryz.f22 fun v _ => Q v) = ((∃ x0 : Bool, ((addr_Ok.f a b c = Option.some x0) ∧ bifW (!x0) (Q (Value.bool Bool.false)) (bifW (cdec (d < 0)) (Q (Value.bool Bool.false)) ((∃ x1 : Int, ((addr_Bits.f a = Option.some x1) ∧ bifW (cdec (x1 < d)) (Q (Value.bool Bool.false)) ((∃ x2 : Int × Int, ((pref_mask.f a d = Option.some x2) ∧ (∃ x3 : Int × Int, ((quad_Not.f (Prod.fst x2) (Prod.snd x2) = Option.some x3) ∧ (∃ x4 : Int × Int, ((quad_And.f b c (Prod.fst x3) (Prod.snd x3) = Option.some x4) ∧ Q (Value.bool (cdec (Prod.fst x4 = 0) && (cdec (Prod.snd x4 = 0) && Bool.true))))))))))))))))) := by kernel_rfl
theorem vc24 (a b c d : Int) (Q : Value → Prop) : codeW Tryz.prog (cwC L24) (bodyOf Tryz.f24) (inTab [.agg #[.int .i64 a, .int .u64 b, .int .u64 c, .int .i64 d]] 8) (birth [] 64) (retW Tryz.prog Tryz.f24 fun v _ => Q v) = ((∃ x0 : Bool, ((pref_Ok.f a b c d = Option.some x0) ∧ bifW (!x0) (Q (Value.agg #[Value.int IntKind.i64 0, Value.int IntKind.u64 0, Value.int IntKind.u64 0])) ((∃ x1 : Int, ((addr_Bits.f a = Option.some x1) ∧ (∃ x2 : Int × Int, ((quad_Mask.f (IntKind.wrap IntKind.i64 (128 - x1)) = Option.some x2) ∧ (∃ x3 : Int × Int, ((pref_mask.f a d = Option.some x3) ∧ (∃ x4 : Int × Int, ((quad_Not.f (Prod.fst x3) (Prod.snd x3) = Option.some x4) ∧ (∃ x5 : Int × Int, ((quad_Not.f (Prod.fst x2) (Prod.snd x2) = Option.some x5) ∧ (∃ x6 : Int × Int, ((quad_And.f (Prod.fst x4) (Prod.snd x4) (Prod.fst x5) (Prod.snd x5) = Option.some x6) ∧ (∃ x7 : Int × Int, ((quad_Or.f b c (Prod.fst x6) (Prod.snd x6) = Option.some x7) ∧ Q (Value.agg #[Value.int IntKind.i64 a, Value.int IntKind.u64 (Prod.fst x7), Value.int IntKind.u64 (Prod.snd x7)]))))))))))))))))))) := by kernel_rfl
theorem vc96 (a b c d : Int) (Q : Value → Prop) : codeW Tryz.prog (cwC L96) (bodyOf Tryz.f96) (inTab [.agg #[.int .u64 a, .int .u64 b], .agg #[.int .u64 c, .int .u64 d]] 8) (birth [] 64) (retW Tryz.prog Tryz.f96 fun v _ => Q v) = (bifW (cdec (a < c)) (Q (Value.bool Bool.true)) (bifW (cdec (a = c)) (Q (Value.bool (cdec (b < d)))) (Q (Value.bool Bool.false)))) := by kernel_rfl
theorem vc75 (a b c d e f : Int) (Q : Value → Prop) : codeW Tryz.prog (cwC L75) (bodyOf Tryz.f75) (inTab [.agg #[.int .i64 a, .int .u64 b, .int .u64 c], .agg #[.int .i64 d, .int .u64 e, .int .u64 f]] 8) (birth [] 64) (retW Tryz.prog Tryz.f75 fun v _ => Q v) = (bifW (cdec (a < d)) (Q (Value.bool Bool.true)) (bifW (cdec (a = d)) ((∃ x0 : Bool, ((quad_Less.f b c e f = Option.some x0) ∧ Q (Value.bool x0)))) (Q (Value.bool Bool.false)))) := by kernel_rfl
theorem vc48 (a b c d e f : Int) (Q : Value → Prop) : codeW Tryz.prog (cwC L48) (bodyOf Tryz.f48) (inTab [.agg #[.int .i64 a, .int .u64 b, .int .u64 c, .int .i64 d, .int .u64 e, .int .u64 f]] 8) (birth [] 64) (retW Tryz.prog Tryz.f48 fun v _ => Q v) = ((∃ x0 : Bool, ((addr_Ok.f a b c = Option.some x0) ∧ bifW (x0) ((∃ x1 : Bool, ((addr_Ok.f d e f = Option.some x1) ∧ bifW (x1) (bifW (cdec (a = d)) ((∃ x2 : Bool, ((addr_Less.f d e f a b c = Option.some x2) ∧ Q (Value.bool !x2)))) (Q (Value.bool Bool.false))) (Q (Value.bool Bool.false))))) (Q (Value.bool Bool.false))))) := by kernel_rfl
theorem vc97 (a b : Int) (Q : Value → Prop) : codeW Tryz.prog (cwC L97) (bodyOf Tryz.f97) (inTab [.agg #[.int .u64 a, .int .u64 b]] 8) (birth [] 64) (retW Tryz.prog Tryz.f97 fun v _ => Q v) = (bifW (cdec (b ≠ 0)) ((∃ x0 : Int, ((bits_TrailingZeros64.f b = Option.some x0) ∧ Q (Value.int IntKind.i64 x0)))) ((∃ x0 : Int, ((bits_TrailingZeros64.f a = Option.some x0) ∧ Q (Value.int IntKind.i64 (IntKind.wrap IntKind.i64 (64 + x0))))))) := by kernel_rfl
theorem vc78 (a b c : Int) (Q : Value → Prop) : codeW Tryz.prog (cwC L78) (bodyOf Tryz.f78) (inTab [.agg #[.int .i64 a, .int .u64 b, .int .u64 c]] 8) (birth [] 64) (retW Tryz.prog Tryz.f78 fun v _ => Q v) = ((∃ x0 : Int × Int, ((quad_Bit.f 300 0 = Option.some x0) ∧ (∃ x1 : Int × Int × Bool, ((quad_Add.f b c (Prod.fst x0) (Prod.snd x0) = Option.some x1) ∧ bifW (!Prod.snd (Prod.snd x1)) (Q (Value.tuple #[Value.agg #[Value.int IntKind.i64 0, Value.int IntKind.u64 0, Value.int IntKind.u64 0], Value.bool Bool.false])) ((∃ x2 : Bool, ((addr_Ok.f a b c = Option.some x2) ∧ bifW (!x2) (Q (Value.tuple #[Value.agg #[Value.int IntKind.i64 0, Value.int IntKind.u64 0, Value.int IntKind.u64 0], Value.bool Bool.false])) ((∃ x3 : Bool, ((addr_Ok.f a (Prod.fst x1) (Prod.fst (Prod.snd x1)) = Option.some x3) ∧ bifW (!x3) (Q (Value.tuple #[Value.agg #[Value.int IntKind.i64 0, Value.int IntKind.u64 0, Value.int IntKind.u64 0], Value.bool Bool.false])) (Q (Value.tuple #[Value.agg #[Value.int IntKind.i64 a, Value.int IntKind.u64 (Prod.fst x1), Value.int IntKind.u64 (Prod.fst (Prod.snd x1))], Value.bool Bool.true]))))))))))))) := by kernel_rfl
end Go.Proofs.YtfnacgojmdbjmaaGreatDoor
end

section
/- The functions without loops come to what they are told to be. No conditions. -/
namespace Go.Proofs.YtfnacgojmdbjmaaGreatDoor
open Go.Det Go.RowKit Go.Proofs.YtfnacgojmdbjmaaGreatDoor.PRD Go.Proofs.YtfnacgojmdbjmaaGreatDoorW.PrintWords
set_option maxRecDepth 100000
theorem bifW_c {p : Prop} {A B : Prop} (h1 : p → A) (h2 : ¬ p → B) : bifW (cdec p) A B := bifW_intro (fun h => h1 (cdec_true.1 h)) (fun h => h2 (cdec_false.1 h))
theorem bifW_b {b : Bool} {A B : Prop} (h1 : b = true → A) (h2 : ¬ b = true → B) : bifW b A B := bifW_intro h1 (fun h => h2 (by rw [h]; decide))
theorem bifW_n {b : Bool} {A B : Prop} (h1 : b = true → B) (h2 : ¬ b = true → A) : bifW (!b) A B := by cases b; exact h2 (by decide); exact h1 rfl
theorem w45 (x : Int) (y : Int) (hx : gleberef1_Bits.f x = some y) : codeW Tryz.prog (cwC L45) (bodyOf Tryz.f45) (inTab (enc45 x) 8) (birth [] 64) (retW Tryz.prog Tryz.f45 fun v' _ => v' = enr45 y) := by
  refine (vc45 x _).mpr ?_
  unfold gleberef1_Bits.f at hx
  try simp only [wrapE, andI_eq, orI_eq]
  repeat' first
    | (obtain ⟨y, hy, hx⟩ := Option.bind_eq_some_iff.1 hx; refine ⟨y, hy, ?_⟩)
    | ((refine bifW_c (fun hc => ?_) (fun hc => ?_)) <;> first | rw [if_pos hc] at hx | rw [if_neg hc] at hx | rw [if_pos (Decidable.not_not.1 hc)] at hx)
    | ((refine bifW_n (fun hc => ?_) (fun hc => ?_)) <;> first | rw [if_pos hc] at hx | rw [if_neg hc] at hx)
    | ((refine bifW_b (fun hc => ?_) (fun hc => ?_)) <;> first | rw [if_pos hc] at hx | rw [if_neg hc] at hx)
    | (split at hx <;> first | (cases hx; done) | (refine And.intro (by assumption) ?_))
    | (cases hx; rfl)
    | (cases hx; simp only [enr45, cdec_eq, cdec_beq, Bool.and_true])
theorem om45 {W : World} (hW : GoodW W) : OwnAll Tryz.prog W 6 45 con45.own :=
  con_opt enc45 (Laying.empty hW.size) hW.size (by decide) dt_mixed (ownsAll_nil W 6) Tryz.func45 (fn := Tryz.f45) (c := bodyOf Tryz.f45) (by kernel_rfl) (by kernel_rfl) (fun _ _ h => dec45_enc h) (fun a => ⟨rfl, (by kernel_rfl)⟩) (fun b => rfl) w45
theorem w55 (x : Int × Int × Int × Int) (y : Int × Int) (hx : gleberef1_And.f x.1 x.2.1 x.2.2.1 x.2.2.2 = some y) : codeW Tryz.prog (cwC L55) (bodyOf Tryz.f55) (inTab (enc55 x) 8) (birth [] 64) (retW Tryz.prog Tryz.f55 fun v' _ => v' = enr55 y) := by
  obtain ⟨a, b, c, d⟩ := x
  refine (vc55 a b c d _).mpr ?_
  unfold gleberef1_And.f at hx
  try simp only [wrapE, andI_eq, orI_eq]
  repeat' first
    | (obtain ⟨y, hy, hx⟩ := Option.bind_eq_some_iff.1 hx; refine ⟨y, hy, ?_⟩)
    | ((refine bifW_c (fun hc => ?_) (fun hc => ?_)) <;> first | rw [if_pos hc] at hx | rw [if_neg hc] at hx | rw [if_pos (Decidable.not_not.1 hc)] at hx)
    | ((refine bifW_n (fun hc => ?_) (fun hc => ?_)) <;> first | rw [if_pos hc] at hx | rw [if_neg hc] at hx)
    | ((refine bifW_b (fun hc => ?_) (fun hc => ?_)) <;> first | rw [if_pos hc] at hx | rw [if_neg hc] at hx)
    | (split at hx <;> first | (cases hx; done) | (refine And.intro (by assumption) ?_))
    | (cases hx; rfl)
    | (cases hx; simp only [enr55, cdec_eq, cdec_beq, Bool.and_true])
theorem om55 {W : World} (hW : GoodW W) : OwnAll Tryz.prog W 6 55 con55.own :=
  con_opt enc55 (Laying.empty hW.size) hW.size (by decide) dt_mixed (ownsAll_nil W 6) Tryz.func55 (fn := Tryz.f55) (c := bodyOf Tryz.f55) (by kernel_rfl) (by kernel_rfl) (fun _ _ h => dec55_enc h) (fun a => ⟨rfl, (by kernel_rfl)⟩) (fun b => rfl) w55
theorem w57 (x : Int × Int) (y : Int × Int) (hx : gleberef1_Not.f x.1 x.2 = some y) : codeW Tryz.prog (cwC L57) (bodyOf Tryz.f57) (inTab (enc57 x) 8) (birth [] 64) (retW Tryz.prog Tryz.f57 fun v' _ => v' = enr57 y) := by
  obtain ⟨a, b⟩ := x
  refine (vc57 a b _).mpr ?_
  unfold gleberef1_Not.f at hx
  try simp only [wrapE, andI_eq, orI_eq]
  repeat' first
    | (obtain ⟨y, hy, hx⟩ := Option.bind_eq_some_iff.1 hx; refine ⟨y, hy, ?_⟩)
    | ((refine bifW_c (fun hc => ?_) (fun hc => ?_)) <;> first | rw [if_pos hc] at hx | rw [if_neg hc] at hx | rw [if_pos (Decidable.not_not.1 hc)] at hx)
    | ((refine bifW_n (fun hc => ?_) (fun hc => ?_)) <;> first | rw [if_pos hc] at hx | rw [if_neg hc] at hx)
    | ((refine bifW_b (fun hc => ?_) (fun hc => ?_)) <;> first | rw [if_pos hc] at hx | rw [if_neg hc] at hx)
    | (split at hx <;> first | (cases hx; done) | (refine And.intro (by assumption) ?_))
    | (cases hx; rfl)
    | (cases hx; simp only [enr57, cdec_eq, cdec_beq, Bool.and_true])
theorem om57 {W : World} (hW : GoodW W) : OwnAll Tryz.prog W 6 57 con57.own :=
  con_opt enc57 (Laying.empty hW.size) hW.size (by decide) dt_mixed (ownsAll_nil W 6) Tryz.func57 (fn := Tryz.f57) (c := bodyOf Tryz.f57) (by kernel_rfl) (by kernel_rfl) (fun _ _ h => dec57_enc h) (fun a => ⟨rfl, (by kernel_rfl)⟩) (fun b => rfl) w57
theorem w65 (x : Int × Int) (y : Int × Int) (hx : gleberef1_all.f x.1 x.2 = some y) : codeW Tryz.prog (cwC L65) (bodyOf Tryz.f65) (inTab (enc65 x) 8) (birth [] 64) (retW Tryz.prog Tryz.f65 fun v' _ => v' = enr65 y) := by
  obtain ⟨a, b⟩ := x
  refine (vc65 a b _).mpr ?_
  unfold gleberef1_all.f at hx
  try simp only [wrapE, andI_eq, orI_eq]
  repeat' first
    | (obtain ⟨y, hy, hx⟩ := Option.bind_eq_some_iff.1 hx; refine ⟨y, hy, ?_⟩)
    | ((refine bifW_c (fun hc => ?_) (fun hc => ?_)) <;> first | rw [if_pos hc] at hx | rw [if_neg hc] at hx | rw [if_pos (Decidable.not_not.1 hc)] at hx)
    | ((refine bifW_n (fun hc => ?_) (fun hc => ?_)) <;> first | rw [if_pos hc] at hx | rw [if_neg hc] at hx)
    | ((refine bifW_b (fun hc => ?_) (fun hc => ?_)) <;> first | rw [if_pos hc] at hx | rw [if_neg hc] at hx)
    | (split at hx <;> first | (cases hx; done) | (refine And.intro (by assumption) ?_))
    | (cases hx; rfl)
    | (cases hx; simp only [enr65, cdec_eq, cdec_beq, Bool.and_true])
theorem om65 {W : World} (hW : GoodW W) : OwnAll Tryz.prog W 6 65 con65.own :=
  con_opt enc65 (Laying.empty hW.size) hW.size (by decide) dt_mixed (OwnsAll.con (om45 hW) (OwnsAll.con (om56 hW) (OwnsAll.con (om57 hW) (OwnsAll.con (om55 hW) (ownsAll_nil W 6))))) Tryz.func65 (fn := Tryz.f65) (c := bodyOf Tryz.f65) (by kernel_rfl) (by kernel_rfl) (fun _ _ h => dec65_enc h) (fun a => ⟨rfl, (by kernel_rfl)⟩) (fun b => rfl) w65
theorem w44 (x : Int × Int × Int) (y : Bool) (hx : gleberef1_Ok.f x.1 x.2.1 x.2.2 = some y) : codeW Tryz.prog (cwC L44) (bodyOf Tryz.f44) (inTab (enc44 x) 8) (birth [] 64) (retW Tryz.prog Tryz.f44 fun v' _ => v' = enr44 y) := by
  obtain ⟨a, b, c⟩ := x
  refine (vc44 a b c _).mpr ?_
  unfold gleberef1_Ok.f at hx
  try simp only [wrapE, andI_eq, orI_eq]
  repeat' first
    | (obtain ⟨y, hy, hx⟩ := Option.bind_eq_some_iff.1 hx; refine ⟨y, hy, ?_⟩)
    | ((refine bifW_c (fun hc => ?_) (fun hc => ?_)) <;> first | rw [if_pos hc] at hx | rw [if_neg hc] at hx | rw [if_pos (Decidable.not_not.1 hc)] at hx)
    | ((refine bifW_n (fun hc => ?_) (fun hc => ?_)) <;> first | rw [if_pos hc] at hx | rw [if_neg hc] at hx)
    | ((refine bifW_b (fun hc => ?_) (fun hc => ?_)) <;> first | rw [if_pos hc] at hx | rw [if_neg hc] at hx)
    | (split at hx <;> first | (cases hx; done) | (refine And.intro (by assumption) ?_))
    | (cases hx; rfl)
    | (cases hx; simp only [enr44, cdec_eq, cdec_beq, Bool.and_true])
theorem om44 {W : World} (hW : GoodW W) : OwnAll Tryz.prog W 6 44 con44.own :=
  con_opt enc44 (Laying.empty hW.size) hW.size (by decide) dt_mixed (ownsAll_nil W 6) Tryz.func44 (fn := Tryz.f44) (c := bodyOf Tryz.f44) (by kernel_rfl) (by kernel_rfl) (fun _ _ h => dec44_enc h) (fun a => ⟨rfl, (by kernel_rfl)⟩) (fun b => rfl) w44
theorem w16 (x : Int × Int × Int × Int) (y : Bool) (hx : gleberef1_OkPrefix.f x.1 x.2.1 x.2.2.1 x.2.2.2 = some y) : codeW Tryz.prog (cwC L16) (bodyOf Tryz.f16) (inTab (enc16 x) 8) (birth [] 64) (retW Tryz.prog Tryz.f16 fun v' _ => v' = enr16 y) := by
  obtain ⟨a, b, c, d⟩ := x
  refine (vc16 a b c d _).mpr ?_
  unfold gleberef1_OkPrefix.f at hx
  try simp only [wrapE, andI_eq, orI_eq]
  repeat' first
    | (obtain ⟨y, hy, hx⟩ := Option.bind_eq_some_iff.1 hx; refine ⟨y, hy, ?_⟩)
    | ((refine bifW_c (fun hc => ?_) (fun hc => ?_)) <;> first | rw [if_pos hc] at hx | rw [if_neg hc] at hx | rw [if_pos (Decidable.not_not.1 hc)] at hx)
    | ((refine bifW_n (fun hc => ?_) (fun hc => ?_)) <;> first | rw [if_pos hc] at hx | rw [if_neg hc] at hx)
    | ((refine bifW_b (fun hc => ?_) (fun hc => ?_)) <;> first | rw [if_pos hc] at hx | rw [if_neg hc] at hx)
    | (split at hx <;> first | (cases hx; done) | (refine And.intro (by assumption) ?_))
    | (cases hx; rfl)
    | (cases hx; simp only [enr16, cdec_eq, cdec_beq, Bool.and_true])
theorem om16 {W : World} (hW : GoodW W) : OwnAll Tryz.prog W 6 16 con16.own :=
  con_opt enc16 (Laying.empty hW.size) hW.size (by decide) dt_mixed (OwnsAll.con (om44 hW) (OwnsAll.con (om45 hW) (OwnsAll.con (om65 hW) (OwnsAll.con (om55 hW) (ownsAll_nil W 6))))) Tryz.func16 (fn := Tryz.f16) (c := bodyOf Tryz.f16) (by kernel_rfl) (by kernel_rfl) (fun _ _ h => dec16_enc h) (fun a => ⟨rfl, (by kernel_rfl)⟩) (fun b => rfl) w16
theorem w25 (x : Int × Int × Int × Int) (y : Int × Int × Int) (hx : gleberef1_Last.f x.1 x.2.1 x.2.2.1 x.2.2.2 = some y) : codeW Tryz.prog (cwC L25) (bodyOf Tryz.f25) (inTab (enc25 x) 8) (birth [] 64) (retW Tryz.prog Tryz.f25 fun v' _ => v' = enr25 y) := by
  obtain ⟨a, b, c, d⟩ := x
  refine (vc25 a b c d _).mpr ?_
  unfold gleberef1_Last.f at hx
  try simp only [wrapE, andI_eq, orI_eq]
  repeat' first
    | (obtain ⟨y, hy, hx⟩ := Option.bind_eq_some_iff.1 hx; refine ⟨y, hy, ?_⟩)
    | ((refine bifW_c (fun hc => ?_) (fun hc => ?_)) <;> first | rw [if_pos hc] at hx | rw [if_neg hc] at hx | rw [if_pos (Decidable.not_not.1 hc)] at hx)
    | ((refine bifW_n (fun hc => ?_) (fun hc => ?_)) <;> first | rw [if_pos hc] at hx | rw [if_neg hc] at hx)
    | ((refine bifW_b (fun hc => ?_) (fun hc => ?_)) <;> first | rw [if_pos hc] at hx | rw [if_neg hc] at hx)
    | (split at hx <;> first | (cases hx; done) | (refine And.intro (by assumption) ?_))
    | (cases hx; rfl)
    | (cases hx; simp only [enr25, cdec_eq, cdec_beq, Bool.and_true])
theorem om25 {W : World} (hW : GoodW W) : OwnAll Tryz.prog W 6 25 con25.own :=
  con_opt enc25 (Laying.empty hW.size) hW.size (by decide) dt_mixed (OwnsAll.con (om16 hW) (OwnsAll.con (om65 hW) (OwnsAll.con (om57 hW) (OwnsAll.con (om45 hW) (OwnsAll.con (om56 hW) (OwnsAll.con (om55 hW) (ownsAll_nil W 6))))))) Tryz.func25 (fn := Tryz.f25) (c := bodyOf Tryz.f25) (by kernel_rfl) (by kernel_rfl) (fun _ _ h => dec25_enc h) (fun a => ⟨rfl, (by kernel_rfl)⟩) (fun b => rfl) w25
theorem w43 (x : Int × Int × Int × Int) (y : Int × Int × Bool) (hx : gleberef1_Add.f x.1 x.2.1 x.2.2.1 x.2.2.2 = some y) : codeW Tryz.prog (cwC L43) (bodyOf Tryz.f43) (inTab (enc43 x) 8) (birth [] 64) (retW Tryz.prog Tryz.f43 fun v' _ => v' = enr43 y) := by
  obtain ⟨a, b, c, d⟩ := x
  refine (vc43 a b c d _).mpr ?_
  unfold gleberef1_Add.f at hx
  try simp only [wrapE, andI_eq, orI_eq]
  repeat' first
    | (obtain ⟨y, hy, hx⟩ := Option.bind_eq_some_iff.1 hx; refine ⟨y, hy, ?_⟩)
    | ((refine bifW_c (fun hc => ?_) (fun hc => ?_)) <;> first | rw [if_pos hc] at hx | rw [if_neg hc] at hx | rw [if_pos (Decidable.not_not.1 hc)] at hx)
    | ((refine bifW_n (fun hc => ?_) (fun hc => ?_)) <;> first | rw [if_pos hc] at hx | rw [if_neg hc] at hx)
    | ((refine bifW_b (fun hc => ?_) (fun hc => ?_)) <;> first | rw [if_pos hc] at hx | rw [if_neg hc] at hx)
    | (split at hx <;> first | (cases hx; done) | (refine And.intro (by assumption) ?_))
    | (cases hx; rfl)
    | (cases hx; simp only [enr43, cdec_eq, cdec_beq, Bool.and_true])
theorem om43 {W : World} (hW : GoodW W) : OwnAll Tryz.prog W 6 43 con43.own :=
  con_opt enc43 (Laying.empty hW.size) hW.size (by decide) dt_mixed (ownsAll_nil W 6) Tryz.func43 (fn := Tryz.f43) (c := bodyOf Tryz.f43) (by kernel_rfl) (by kernel_rfl) (fun _ _ h => dec43_enc h) (fun a => ⟨rfl, (by kernel_rfl)⟩) (fun b => rfl) w43
theorem w10 (x : Int × Int × Int × Int) (y : Int × Int × Int × Int) (hx : glebelaw3_Pre.f x.1 x.2.1 x.2.2.1 x.2.2.2 = some y) : codeW Tryz.prog (cwC L10) (bodyOf Tryz.f10) (inTab (enc10 x) 8) (birth [] 64) (retW Tryz.prog Tryz.f10 fun v' _ => v' = enr10 y) := by
  obtain ⟨a, b, c, d⟩ := x
  refine (vc10 a b c d _).mpr ?_
  unfold glebelaw3_Pre.f at hx
  try simp only [wrapE, andI_eq, orI_eq]
  repeat' first
    | (obtain ⟨y, hy, hx⟩ := Option.bind_eq_some_iff.1 hx; refine ⟨y, hy, ?_⟩)
    | ((refine bifW_c (fun hc => ?_) (fun hc => ?_)) <;> first | rw [if_pos hc] at hx | rw [if_neg hc] at hx | rw [if_pos (Decidable.not_not.1 hc)] at hx)
    | ((refine bifW_n (fun hc => ?_) (fun hc => ?_)) <;> first | rw [if_pos hc] at hx | rw [if_neg hc] at hx)
    | ((refine bifW_b (fun hc => ?_) (fun hc => ?_)) <;> first | rw [if_pos hc] at hx | rw [if_neg hc] at hx)
    | (split at hx <;> first | (cases hx; done) | (refine And.intro (by assumption) ?_))
    | (cases hx; rfl)
    | (cases hx; simp only [enr10, cdec_eq, cdec_beq, Bool.and_true])
theorem w66 (x : Int × Int × Int × Int) (y : Int × Int) (hx : quad_And.f x.1 x.2.1 x.2.2.1 x.2.2.2 = some y) : codeW Tryz.prog (cwC L66) (bodyOf Tryz.f66) (inTab (enc66 x) 8) (birth [] 64) (retW Tryz.prog Tryz.f66 fun v' _ => v' = enr66 y) := by
  obtain ⟨a, b, c, d⟩ := x
  refine (vc66 a b c d _).mpr ?_
  unfold quad_And.f at hx
  try simp only [wrapE, andI_eq, orI_eq]
  repeat' first
    | (obtain ⟨y, hy, hx⟩ := Option.bind_eq_some_iff.1 hx; refine ⟨y, hy, ?_⟩)
    | ((refine bifW_c (fun hc => ?_) (fun hc => ?_)) <;> first | rw [if_pos hc] at hx | rw [if_neg hc] at hx | rw [if_pos (Decidable.not_not.1 hc)] at hx)
    | ((refine bifW_n (fun hc => ?_) (fun hc => ?_)) <;> first | rw [if_pos hc] at hx | rw [if_neg hc] at hx)
    | ((refine bifW_b (fun hc => ?_) (fun hc => ?_)) <;> first | rw [if_pos hc] at hx | rw [if_neg hc] at hx)
    | (split at hx <;> first | (cases hx; done) | (refine And.intro (by assumption) ?_))
    | (cases hx; rfl)
    | (cases hx; simp only [enr66, cdec_eq, cdec_beq, Bool.and_true])
theorem om66 {W : World} (hW : GoodW W) : OwnAll Tryz.prog W 6 66 con66.own :=
  con_opt enc66 (Laying.empty hW.size) hW.size (by decide) dt_mixed (ownsAll_nil W 6) Tryz.func66 (fn := Tryz.f66) (c := bodyOf Tryz.f66) (by kernel_rfl) (by kernel_rfl) (fun _ _ h => dec66_enc h) (fun a => ⟨rfl, (by kernel_rfl)⟩) (fun b => rfl) w66
theorem w74 (x : Int × Int × Int × Int) (y : Int × Int) (hx : quad_Or.f x.1 x.2.1 x.2.2.1 x.2.2.2 = some y) : codeW Tryz.prog (cwC L74) (bodyOf Tryz.f74) (inTab (enc74 x) 8) (birth [] 64) (retW Tryz.prog Tryz.f74 fun v' _ => v' = enr74 y) := by
  obtain ⟨a, b, c, d⟩ := x
  refine (vc74 a b c d _).mpr ?_
  unfold quad_Or.f at hx
  try simp only [wrapE, andI_eq, orI_eq]
  repeat' first
    | (obtain ⟨y, hy, hx⟩ := Option.bind_eq_some_iff.1 hx; refine ⟨y, hy, ?_⟩)
    | ((refine bifW_c (fun hc => ?_) (fun hc => ?_)) <;> first | rw [if_pos hc] at hx | rw [if_neg hc] at hx | rw [if_pos (Decidable.not_not.1 hc)] at hx)
    | ((refine bifW_n (fun hc => ?_) (fun hc => ?_)) <;> first | rw [if_pos hc] at hx | rw [if_neg hc] at hx)
    | ((refine bifW_b (fun hc => ?_) (fun hc => ?_)) <;> first | rw [if_pos hc] at hx | rw [if_neg hc] at hx)
    | (split at hx <;> first | (cases hx; done) | (refine And.intro (by assumption) ?_))
    | (cases hx; rfl)
    | (cases hx; simp only [enr74, cdec_eq, cdec_beq, Bool.and_true])
theorem om74 {W : World} (hW : GoodW W) : OwnAll Tryz.prog W 6 74 con74.own :=
  con_opt enc74 (Laying.empty hW.size) hW.size (by decide) dt_mixed (ownsAll_nil W 6) Tryz.func74 (fn := Tryz.f74) (c := bodyOf Tryz.f74) (by kernel_rfl) (by kernel_rfl) (fun _ _ h => dec74_enc h) (fun a => ⟨rfl, (by kernel_rfl)⟩) (fun b => rfl) w74
theorem w72 (x : Int × Int) (y : Int × Int) (hx : quad_Not.f x.1 x.2 = some y) : codeW Tryz.prog (cwC L72) (bodyOf Tryz.f72) (inTab (enc72 x) 8) (birth [] 64) (retW Tryz.prog Tryz.f72 fun v' _ => v' = enr72 y) := by
  obtain ⟨a, b⟩ := x
  refine (vc72 a b _).mpr ?_
  unfold quad_Not.f at hx
  try simp only [wrapE, andI_eq, orI_eq]
  repeat' first
    | (obtain ⟨y, hy, hx⟩ := Option.bind_eq_some_iff.1 hx; refine ⟨y, hy, ?_⟩)
    | ((refine bifW_c (fun hc => ?_) (fun hc => ?_)) <;> first | rw [if_pos hc] at hx | rw [if_neg hc] at hx | rw [if_pos (Decidable.not_not.1 hc)] at hx)
    | ((refine bifW_n (fun hc => ?_) (fun hc => ?_)) <;> first | rw [if_pos hc] at hx | rw [if_neg hc] at hx)
    | ((refine bifW_b (fun hc => ?_) (fun hc => ?_)) <;> first | rw [if_pos hc] at hx | rw [if_neg hc] at hx)
    | (split at hx <;> first | (cases hx; done) | (refine And.intro (by assumption) ?_))
    | (cases hx; rfl)
    | (cases hx; simp only [enr72, cdec_eq, cdec_beq, Bool.and_true])
theorem om72 {W : World} (hW : GoodW W) : OwnAll Tryz.prog W 6 72 con72.own :=
  con_opt enc72 (Laying.empty hW.size) hW.size (by decide) dt_mixed (ownsAll_nil W 6) Tryz.func72 (fn := Tryz.f72) (c := bodyOf Tryz.f72) (by kernel_rfl) (by kernel_rfl) (fun _ _ h => dec72_enc h) (fun a => ⟨rfl, (by kernel_rfl)⟩) (fun b => rfl) w72
theorem w69 (x : Int) (y : Int) (hx : addr_Bits.f x = some y) : codeW Tryz.prog (cwC L69) (bodyOf Tryz.f69) (inTab (enc69 x) 8) (birth [] 64) (retW Tryz.prog Tryz.f69 fun v' _ => v' = enr69 y) := by
  refine (vc69 x _).mpr ?_
  unfold addr_Bits.f at hx
  try simp only [wrapE, andI_eq, orI_eq]
  repeat' first
    | (obtain ⟨y, hy, hx⟩ := Option.bind_eq_some_iff.1 hx; refine ⟨y, hy, ?_⟩)
    | ((refine bifW_c (fun hc => ?_) (fun hc => ?_)) <;> first | rw [if_pos hc] at hx | rw [if_neg hc] at hx | rw [if_pos (Decidable.not_not.1 hc)] at hx)
    | ((refine bifW_n (fun hc => ?_) (fun hc => ?_)) <;> first | rw [if_pos hc] at hx | rw [if_neg hc] at hx)
    | ((refine bifW_b (fun hc => ?_) (fun hc => ?_)) <;> first | rw [if_pos hc] at hx | rw [if_neg hc] at hx)
    | (split at hx <;> first | (cases hx; done) | (refine And.intro (by assumption) ?_))
    | (cases hx; rfl)
    | (cases hx; simp only [enr69, cdec_eq, cdec_beq, Bool.and_true])
theorem om69 {W : World} (hW : GoodW W) : OwnAll Tryz.prog W 6 69 con69.own :=
  con_opt enc69 (Laying.empty hW.size) hW.size (by decide) dt_mixed (ownsAll_nil W 6) Tryz.func69 (fn := Tryz.f69) (c := bodyOf Tryz.f69) (by kernel_rfl) (by kernel_rfl) (fun _ _ h => dec69_enc h) (fun a => ⟨rfl, (by kernel_rfl)⟩) (fun b => rfl) w69
theorem w73 (x : Int) (y : Int × Int) (hx : quad_Mask.f x = some y) : codeW Tryz.prog (cwC L73) (bodyOf Tryz.f73) (inTab (enc73 x) 8) (birth [] 64) (retW Tryz.prog Tryz.f73 fun v' _ => v' = enr73 y) := by
  refine (vc73 x _).mpr ?_
  unfold quad_Mask.f at hx
  try simp only [wrapE, andI_eq, orI_eq]
  repeat' first
    | (obtain ⟨y, hy, hx⟩ := Option.bind_eq_some_iff.1 hx; refine ⟨y, hy, ?_⟩)
    | ((refine bifW_c (fun hc => ?_) (fun hc => ?_)) <;> first | rw [if_pos hc] at hx | rw [if_neg hc] at hx | rw [if_pos (Decidable.not_not.1 hc)] at hx)
    | ((refine bifW_n (fun hc => ?_) (fun hc => ?_)) <;> first | rw [if_pos hc] at hx | rw [if_neg hc] at hx)
    | ((refine bifW_b (fun hc => ?_) (fun hc => ?_)) <;> first | rw [if_pos hc] at hx | rw [if_neg hc] at hx)
    | (split at hx <;> first | (cases hx; done) | (refine And.intro (by assumption) ?_))
    | (cases hx; rfl)
    | (cases hx; simp only [enr73, cdec_eq, cdec_beq, Bool.and_true])
theorem om73 {W : World} (hW : GoodW W) : OwnAll Tryz.prog W 6 73 con73.own :=
  con_opt enc73 (Laying.empty hW.size) hW.size (by decide) dt_mixed (OwnsAll.con (om95 hW) (ownsAll_nil W 6)) Tryz.func73 (fn := Tryz.f73) (c := bodyOf Tryz.f73) (by kernel_rfl) (by kernel_rfl) (fun _ _ h => dec73_enc h) (fun a => ⟨rfl, (by kernel_rfl)⟩) (fun b => rfl) w73
theorem w67 (x : Int × Int) (y : Int × Int) (hx : pref_mask.f x.1 x.2 = some y) : codeW Tryz.prog (cwC L67) (bodyOf Tryz.f67) (inTab (enc67 x) 8) (birth [] 64) (retW Tryz.prog Tryz.f67 fun v' _ => v' = enr67 y) := by
  obtain ⟨a, b⟩ := x
  refine (vc67 a b _).mpr ?_
  unfold pref_mask.f at hx
  try simp only [wrapE, andI_eq, orI_eq]
  repeat' first
    | (obtain ⟨y, hy, hx⟩ := Option.bind_eq_some_iff.1 hx; refine ⟨y, hy, ?_⟩)
    | ((refine bifW_c (fun hc => ?_) (fun hc => ?_)) <;> first | rw [if_pos hc] at hx | rw [if_neg hc] at hx | rw [if_pos (Decidable.not_not.1 hc)] at hx)
    | ((refine bifW_n (fun hc => ?_) (fun hc => ?_)) <;> first | rw [if_pos hc] at hx | rw [if_neg hc] at hx)
    | ((refine bifW_b (fun hc => ?_) (fun hc => ?_)) <;> first | rw [if_pos hc] at hx | rw [if_neg hc] at hx)
    | (split at hx <;> first | (cases hx; done) | (refine And.intro (by assumption) ?_))
    | (cases hx; rfl)
    | (cases hx; simp only [enr67, cdec_eq, cdec_beq, Bool.and_true])
theorem om67 {W : World} (hW : GoodW W) : OwnAll Tryz.prog W 6 67 con67.own :=
  con_opt enc67 (Laying.empty hW.size) hW.size (by decide) dt_mixed (OwnsAll.con (om69 hW) (OwnsAll.con (om73 hW) (ownsAll_nil W 6))) Tryz.func67 (fn := Tryz.f67) (c := bodyOf Tryz.f67) (by kernel_rfl) (by kernel_rfl) (fun _ _ h => dec67_enc h) (fun a => ⟨rfl, (by kernel_rfl)⟩) (fun b => rfl) w67
theorem w68 (x : Int × Int × Int) (y : Bool) (hx : addr_Ok.f x.1 x.2.1 x.2.2 = some y) : codeW Tryz.prog (cwC L68) (bodyOf Tryz.f68) (inTab (enc68 x) 8) (birth [] 64) (retW Tryz.prog Tryz.f68 fun v' _ => v' = enr68 y) := by
  obtain ⟨a, b, c⟩ := x
  refine (vc68 a b c _).mpr ?_
  unfold addr_Ok.f at hx
  try simp only [wrapE, andI_eq, orI_eq]
  repeat' first
    | (obtain ⟨y, hy, hx⟩ := Option.bind_eq_some_iff.1 hx; refine ⟨y, hy, ?_⟩)
    | ((refine bifW_c (fun hc => ?_) (fun hc => ?_)) <;> first | rw [if_pos hc] at hx | rw [if_neg hc] at hx | rw [if_pos (Decidable.not_not.1 hc)] at hx)
    | ((refine bifW_n (fun hc => ?_) (fun hc => ?_)) <;> first | rw [if_pos hc] at hx | rw [if_neg hc] at hx)
    | ((refine bifW_b (fun hc => ?_) (fun hc => ?_)) <;> first | rw [if_pos hc] at hx | rw [if_neg hc] at hx)
    | (split at hx <;> first | (cases hx; done) | (refine And.intro (by assumption) ?_))
    | (cases hx; rfl)
    | (cases hx; simp only [enr68, cdec_eq, cdec_beq, Bool.and_true])
theorem om68 {W : World} (hW : GoodW W) : OwnAll Tryz.prog W 6 68 con68.own :=
  con_opt enc68 (Laying.empty hW.size) hW.size (by decide) dt_mixed (ownsAll_nil W 6) Tryz.func68 (fn := Tryz.f68) (c := bodyOf Tryz.f68) (by kernel_rfl) (by kernel_rfl) (fun _ _ h => dec68_enc h) (fun a => ⟨rfl, (by kernel_rfl)⟩) (fun b => rfl) w68
theorem w22 (x : Int × Int × Int × Int) (y : Bool) (hx : pref_Ok.f x.1 x.2.1 x.2.2.1 x.2.2.2 = some y) : codeW Tryz.prog (cwC L22) (bodyOf Tryz.f22) (inTab (enc22 x) 8) (birth [] 64) (retW Tryz.prog Tryz.f22 fun v' _ => v' = enr22 y) := by
  obtain ⟨a, b, c, d⟩ := x
  refine (vc22 a b c d _).mpr ?_
  unfold pref_Ok.f at hx
  try simp only [wrapE, andI_eq, orI_eq]
  repeat' first
    | (obtain ⟨y, hy, hx⟩ := Option.bind_eq_some_iff.1 hx; refine ⟨y, hy, ?_⟩)
    | ((refine bifW_c (fun hc => ?_) (fun hc => ?_)) <;> first | rw [if_pos hc] at hx | rw [if_neg hc] at hx | rw [if_pos (Decidable.not_not.1 hc)] at hx)
    | ((refine bifW_n (fun hc => ?_) (fun hc => ?_)) <;> first | rw [if_pos hc] at hx | rw [if_neg hc] at hx)
    | ((refine bifW_b (fun hc => ?_) (fun hc => ?_)) <;> first | rw [if_pos hc] at hx | rw [if_neg hc] at hx)
    | (split at hx <;> first | (cases hx; done) | (refine And.intro (by assumption) ?_))
    | (cases hx; rfl)
    | (cases hx; simp only [enr22, cdec_eq, cdec_beq, Bool.and_true])
theorem om22 {W : World} (hW : GoodW W) : OwnAll Tryz.prog W 6 22 con22.own :=
  con_opt enc22 (Laying.empty hW.size) hW.size (by decide) dt_mixed (OwnsAll.con (om68 hW) (OwnsAll.con (om69 hW) (OwnsAll.con (om67 hW) (OwnsAll.con (om72 hW) (OwnsAll.con (om66 hW) (ownsAll_nil W 6)))))) Tryz.func22 (fn := Tryz.f22) (c := bodyOf Tryz.f22) (by kernel_rfl) (by kernel_rfl) (fun _ _ h => dec22_enc h) (fun a => ⟨rfl, (by kernel_rfl)⟩) (fun b => rfl) w22
theorem w24 (x : Int × Int × Int × Int) (y : Int × Int × Int) (hx : pref_Last.f x.1 x.2.1 x.2.2.1 x.2.2.2 = some y) : codeW Tryz.prog (cwC L24) (bodyOf Tryz.f24) (inTab (enc24 x) 8) (birth [] 64) (retW Tryz.prog Tryz.f24 fun v' _ => v' = enr24 y) := by
  obtain ⟨a, b, c, d⟩ := x
  refine (vc24 a b c d _).mpr ?_
  unfold pref_Last.f at hx
  try simp only [wrapE, andI_eq, orI_eq]
  repeat' first
    | (obtain ⟨y, hy, hx⟩ := Option.bind_eq_some_iff.1 hx; refine ⟨y, hy, ?_⟩)
    | ((refine bifW_c (fun hc => ?_) (fun hc => ?_)) <;> first | rw [if_pos hc] at hx | rw [if_neg hc] at hx | rw [if_pos (Decidable.not_not.1 hc)] at hx)
    | ((refine bifW_n (fun hc => ?_) (fun hc => ?_)) <;> first | rw [if_pos hc] at hx | rw [if_neg hc] at hx)
    | ((refine bifW_b (fun hc => ?_) (fun hc => ?_)) <;> first | rw [if_pos hc] at hx | rw [if_neg hc] at hx)
    | (split at hx <;> first | (cases hx; done) | (refine And.intro (by assumption) ?_))
    | (cases hx; rfl)
    | (cases hx; simp only [enr24, cdec_eq, cdec_beq, Bool.and_true])
theorem om24 {W : World} (hW : GoodW W) : OwnAll Tryz.prog W 6 24 con24.own :=
  con_opt enc24 (Laying.empty hW.size) hW.size (by decide) dt_mixed (OwnsAll.con (om22 hW) (OwnsAll.con (om69 hW) (OwnsAll.con (om73 hW) (OwnsAll.con (om67 hW) (OwnsAll.con (om72 hW) (OwnsAll.con (om66 hW) (OwnsAll.con (om74 hW) (ownsAll_nil W 6)))))))) Tryz.func24 (fn := Tryz.f24) (c := bodyOf Tryz.f24) (by kernel_rfl) (by kernel_rfl) (fun _ _ h => dec24_enc h) (fun a => ⟨rfl, (by kernel_rfl)⟩) (fun b => rfl) w24
theorem w96 (x : Int × Int × Int × Int) (y : Bool) (hx : quad_Less.f x.1 x.2.1 x.2.2.1 x.2.2.2 = some y) : codeW Tryz.prog (cwC L96) (bodyOf Tryz.f96) (inTab (enc96 x) 8) (birth [] 64) (retW Tryz.prog Tryz.f96 fun v' _ => v' = enr96 y) := by
  obtain ⟨a, b, c, d⟩ := x
  refine (vc96 a b c d _).mpr ?_
  unfold quad_Less.f at hx
  try simp only [wrapE, andI_eq, orI_eq]
  repeat' first
    | (obtain ⟨y, hy, hx⟩ := Option.bind_eq_some_iff.1 hx; refine ⟨y, hy, ?_⟩)
    | ((refine bifW_c (fun hc => ?_) (fun hc => ?_)) <;> first | rw [if_pos hc] at hx | rw [if_neg hc] at hx | rw [if_pos (Decidable.not_not.1 hc)] at hx)
    | ((refine bifW_n (fun hc => ?_) (fun hc => ?_)) <;> first | rw [if_pos hc] at hx | rw [if_neg hc] at hx)
    | ((refine bifW_b (fun hc => ?_) (fun hc => ?_)) <;> first | rw [if_pos hc] at hx | rw [if_neg hc] at hx)
    | (split at hx <;> first | (cases hx; done) | (refine And.intro (by assumption) ?_))
    | (cases hx; rfl)
    | (cases hx; simp only [enr96, cdec_eq, cdec_beq, Bool.and_true])
theorem om96 {W : World} (hW : GoodW W) : OwnAll Tryz.prog W 6 96 con96.own :=
  con_opt enc96 (Laying.empty hW.size) hW.size (by decide) dt_mixed (ownsAll_nil W 6) Tryz.func96 (fn := Tryz.f96) (c := bodyOf Tryz.f96) (by kernel_rfl) (by kernel_rfl) (fun _ _ h => dec96_enc h) (fun a => ⟨rfl, (by kernel_rfl)⟩) (fun b => rfl) w96
theorem w75 (x : Int × Int × Int × Int × Int × Int) (y : Bool) (hx : addr_Less.f x.1 x.2.1 x.2.2.1 x.2.2.2.1 x.2.2.2.2.1 x.2.2.2.2.2 = some y) : codeW Tryz.prog (cwC L75) (bodyOf Tryz.f75) (inTab (enc75 x) 8) (birth [] 64) (retW Tryz.prog Tryz.f75 fun v' _ => v' = enr75 y) := by
  obtain ⟨a, b, c, d, e, f⟩ := x
  refine (vc75 a b c d e f _).mpr ?_
  unfold addr_Less.f at hx
  try simp only [wrapE, andI_eq, orI_eq]
  repeat' first
    | (obtain ⟨y, hy, hx⟩ := Option.bind_eq_some_iff.1 hx; refine ⟨y, hy, ?_⟩)
    | ((refine bifW_c (fun hc => ?_) (fun hc => ?_)) <;> first | rw [if_pos hc] at hx | rw [if_neg hc] at hx | rw [if_pos (Decidable.not_not.1 hc)] at hx)
    | ((refine bifW_n (fun hc => ?_) (fun hc => ?_)) <;> first | rw [if_pos hc] at hx | rw [if_neg hc] at hx)
    | ((refine bifW_b (fun hc => ?_) (fun hc => ?_)) <;> first | rw [if_pos hc] at hx | rw [if_neg hc] at hx)
    | (split at hx <;> first | (cases hx; done) | (refine And.intro (by assumption) ?_))
    | (cases hx; rfl)
    | (cases hx; simp only [enr75, cdec_eq, cdec_beq, Bool.and_true])
theorem om75 {W : World} (hW : GoodW W) : OwnAll Tryz.prog W 6 75 con75.own :=
  con_opt enc75 (Laying.empty hW.size) hW.size (by decide) dt_mixed (OwnsAll.con (om96 hW) (ownsAll_nil W 6)) Tryz.func75 (fn := Tryz.f75) (c := bodyOf Tryz.f75) (by kernel_rfl) (by kernel_rfl) (fun _ _ h => dec75_enc h) (fun a => ⟨rfl, (by kernel_rfl)⟩) (fun b => rfl) w75
theorem w48 (x : Int × Int × Int × Int × Int × Int) (y : Bool) (hx : rang_Ok.f x.1 x.2.1 x.2.2.1 x.2.2.2.1 x.2.2.2.2.1 x.2.2.2.2.2 = some y) : codeW Tryz.prog (cwC L48) (bodyOf Tryz.f48) (inTab (enc48 x) 8) (birth [] 64) (retW Tryz.prog Tryz.f48 fun v' _ => v' = enr48 y) := by
  obtain ⟨a, b, c, d, e, f⟩ := x
  refine (vc48 a b c d e f _).mpr ?_
  unfold rang_Ok.f at hx
  try simp only [wrapE, andI_eq, orI_eq]
  repeat' first
    | (obtain ⟨y, hy, hx⟩ := Option.bind_eq_some_iff.1 hx; refine ⟨y, hy, ?_⟩)
    | ((refine bifW_c (fun hc => ?_) (fun hc => ?_)) <;> first | rw [if_pos hc] at hx | rw [if_neg hc] at hx | rw [if_pos (Decidable.not_not.1 hc)] at hx)
    | ((refine bifW_n (fun hc => ?_) (fun hc => ?_)) <;> first | rw [if_pos hc] at hx | rw [if_neg hc] at hx)
    | ((refine bifW_b (fun hc => ?_) (fun hc => ?_)) <;> first | rw [if_pos hc] at hx | rw [if_neg hc] at hx)
    | (split at hx <;> first | (cases hx; done) | (refine And.intro (by assumption) ?_))
    | (cases hx; rfl)
    | (cases hx; simp only [enr48, cdec_eq, cdec_beq, Bool.and_true])
theorem om48 {W : World} (hW : GoodW W) : OwnAll Tryz.prog W 6 48 con48.own :=
  con_opt enc48 (Laying.empty hW.size) hW.size (by decide) dt_mixed (OwnsAll.con (om68 hW) (OwnsAll.con (om75 hW) (ownsAll_nil W 6))) Tryz.func48 (fn := Tryz.f48) (c := bodyOf Tryz.f48) (by kernel_rfl) (by kernel_rfl) (fun _ _ h => dec48_enc h) (fun a => ⟨rfl, (by kernel_rfl)⟩) (fun b => rfl) w48
theorem w97 (x : Int × Int) (y : Int) (hx : quad_Low.f x.1 x.2 = some y) : codeW Tryz.prog (cwC L97) (bodyOf Tryz.f97) (inTab (enc97 x) 8) (birth [] 64) (retW Tryz.prog Tryz.f97 fun v' _ => v' = enr97 y) := by
  obtain ⟨a, b⟩ := x
  refine (vc97 a b _).mpr ?_
  unfold quad_Low.f at hx
  try simp only [wrapE, andI_eq, orI_eq]
  repeat' first
    | (obtain ⟨y, hy, hx⟩ := Option.bind_eq_some_iff.1 hx; refine ⟨y, hy, ?_⟩)
    | ((refine bifW_c (fun hc => ?_) (fun hc => ?_)) <;> first | rw [if_pos hc] at hx | rw [if_neg hc] at hx | rw [if_pos (Decidable.not_not.1 hc)] at hx)
    | ((refine bifW_n (fun hc => ?_) (fun hc => ?_)) <;> first | rw [if_pos hc] at hx | rw [if_neg hc] at hx)
    | ((refine bifW_b (fun hc => ?_) (fun hc => ?_)) <;> first | rw [if_pos hc] at hx | rw [if_neg hc] at hx)
    | (split at hx <;> first | (cases hx; done) | (refine And.intro (by assumption) ?_))
    | (cases hx; rfl)
    | (cases hx; simp only [enr97, cdec_eq, cdec_beq, Bool.and_true])
theorem om97 {W : World} (hW : GoodW W) : OwnAll Tryz.prog W 6 97 con97.own :=
  con_opt enc97 (Laying.empty hW.size) hW.size (by decide) dt_mixed (OwnsAll.con (om109 hW) (ownsAll_nil W 6)) Tryz.func97 (fn := Tryz.f97) (c := bodyOf Tryz.f97) (by kernel_rfl) (by kernel_rfl) (fun _ _ h => dec97_enc h) (fun a => ⟨rfl, (by kernel_rfl)⟩) (fun b => rfl) w97
theorem w78 (x : Int × Int × Int) (y : Int × Int × Int × Bool) (hx : addr_Next.f x.1 x.2.1 x.2.2 = some y) : codeW Tryz.prog (cwC L78) (bodyOf Tryz.f78) (inTab (enc78 x) 8) (birth [] 64) (retW Tryz.prog Tryz.f78 fun v' _ => v' = enr78 y) := by
  obtain ⟨a, b, c⟩ := x
  refine (vc78 a b c _).mpr ?_
  unfold addr_Next.f at hx
  try simp only [wrapE, andI_eq, orI_eq]
  repeat' first
    | (obtain ⟨y, hy, hx⟩ := Option.bind_eq_some_iff.1 hx; refine ⟨y, hy, ?_⟩)
    | ((refine bifW_c (fun hc => ?_) (fun hc => ?_)) <;> first | rw [if_pos hc] at hx | rw [if_neg hc] at hx | rw [if_pos (Decidable.not_not.1 hc)] at hx)
    | ((refine bifW_n (fun hc => ?_) (fun hc => ?_)) <;> first | rw [if_pos hc] at hx | rw [if_neg hc] at hx)
    | ((refine bifW_b (fun hc => ?_) (fun hc => ?_)) <;> first | rw [if_pos hc] at hx | rw [if_neg hc] at hx)
    | (split at hx <;> first | (cases hx; done) | (refine And.intro (by assumption) ?_))
    | (cases hx; rfl)
    | (cases hx; simp only [enr78, cdec_eq, cdec_beq, Bool.and_true])
theorem om78 {W : World} (hW : GoodW W) : OwnAll Tryz.prog W 6 78 con78.own :=
  con_opt enc78 (Laying.empty hW.size) hW.size (by decide) dt_mixed (OwnsAll.con (om99 hW) (OwnsAll.con (om98 hW) (OwnsAll.con (om68 hW) (ownsAll_nil W 6)))) Tryz.func78 (fn := Tryz.f78) (c := bodyOf Tryz.f78) (by kernel_rfl) (by kernel_rfl) (fun _ _ h => dec78_enc h) (fun a => ⟨rfl, (by kernel_rfl)⟩) (fun b => rfl) w78
end Go.Proofs.YtfnacgojmdbjmaaGreatDoor
namespace Go.Proofs.YtfnacgojmdbjmaaGreatDoor.PRD
open Go.Det Go.RowKit Go.Proofs.YtfnacgojmdbjmaaGreatDoor Go.Proofs.YtfnacgojmdbjmaaGreatDoorW.PrintWords
theorem pref_Last.calls (a0_0 : Int) (a0_1 : Int) (a0_2 : Int) (a0_3 : Int) (r1 : Int) (r2 : Int) (r3 : Int) (w : World) (hG : GoodW w) (h : pref_Last.f a0_0 a0_1 a0_2 a0_3 = some (r1, r2, r3)) :
    Calls Tryz.prog 24 #[.agg #[.int .i64 a0_0, .int .u64 a0_1, .int .u64 a0_2, .int .i64 a0_3]] w fun e w' => e = .returned (.agg #[.int .i64 r1, .int .u64 r2, .int .u64 r3]) ∧ Below w.heap.size w w' :=
  calls_of_own (fn := Tryz.f24) (c := bodyOf Tryz.f24) (om24 hG) hG Tryz.func24 (by kernel_rfl) (by kernel_rfl) (args := enc24 (a0_0, a0_1, a0_2, a0_3)) (v := .agg #[.int .i64 r1, .int .u64 r2, .int .u64 r3]) (opt_own (dec := dec24) (enc := enr24) (a := (a0_0, a0_1, a0_2, a0_3)) (b := (r1, r2, r3)) rfl h _) rfl rfl (by intro h; cases h)
theorem addr_Less.calls (a0_0 : Int) (a0_1 : Int) (a0_2 : Int) (a1_0 : Int) (a1_1 : Int) (a1_2 : Int) (r : Bool) (w : World) (hG : GoodW w) (h : addr_Less.f a0_0 a0_1 a0_2 a1_0 a1_1 a1_2 = some r) :
    Calls Tryz.prog 75 #[.agg #[.int .i64 a0_0, .int .u64 a0_1, .int .u64 a0_2], .agg #[.int .i64 a1_0, .int .u64 a1_1, .int .u64 a1_2]] w fun e w' => e = .returned (.bool r) ∧ Below w.heap.size w w' :=
  calls_of_own (fn := Tryz.f75) (c := bodyOf Tryz.f75) (om75 hG) hG Tryz.func75 (by kernel_rfl) (by kernel_rfl) (args := enc75 (a0_0, a0_1, a0_2, a1_0, a1_1, a1_2)) (v := .bool r) (opt_own (dec := dec75) (enc := enr75) (a := (a0_0, a0_1, a0_2, a1_0, a1_1, a1_2)) (b := r) rfl h _) rfl rfl (by intro h; cases h)
theorem rang_Ok.calls (a0_0 : Int) (a0_1 : Int) (a0_2 : Int) (a0_3 : Int) (a0_4 : Int) (a0_5 : Int) (r : Bool) (w : World) (hG : GoodW w) (h : rang_Ok.f a0_0 a0_1 a0_2 a0_3 a0_4 a0_5 = some r) :
    Calls Tryz.prog 48 #[.agg #[.int .i64 a0_0, .int .u64 a0_1, .int .u64 a0_2, .int .i64 a0_3, .int .u64 a0_4, .int .u64 a0_5]] w fun e w' => e = .returned (.bool r) ∧ Below w.heap.size w w' :=
  calls_of_own (fn := Tryz.f48) (c := bodyOf Tryz.f48) (om48 hG) hG Tryz.func48 (by kernel_rfl) (by kernel_rfl) (args := enc48 (a0_0, a0_1, a0_2, a0_3, a0_4, a0_5)) (v := .bool r) (opt_own (dec := dec48) (enc := enr48) (a := (a0_0, a0_1, a0_2, a0_3, a0_4, a0_5)) (b := r) rfl h _) rfl rfl (by intro h; cases h)
theorem addr_Next.calls (a0_0 : Int) (a0_1 : Int) (a0_2 : Int) (r1 : Int) (r2 : Int) (r3 : Int) (r4 : Bool) (w : World) (hG : GoodW w) (h : addr_Next.f a0_0 a0_1 a0_2 = some (r1, r2, r3, r4)) :
    Calls Tryz.prog 78 #[.agg #[.int .i64 a0_0, .int .u64 a0_1, .int .u64 a0_2]] w fun e w' => e = .returned (.tuple #[.agg #[.int .i64 r1, .int .u64 r2, .int .u64 r3], .bool r4]) ∧ Below w.heap.size w w' :=
  calls_of_own (fn := Tryz.f78) (c := bodyOf Tryz.f78) (om78 hG) hG Tryz.func78 (by kernel_rfl) (by kernel_rfl) (args := enc78 (a0_0, a0_1, a0_2)) (v := .tuple #[.agg #[.int .i64 r1, .int .u64 r2, .int .u64 r3], .bool r4]) (opt_own (dec := dec78) (enc := enr78) (a := (a0_0, a0_1, a0_2)) (b := (r1, r2, r3, r4)) rfl h _) rfl rfl (by intro h; cases h)
end Go.Proofs.YtfnacgojmdbjmaaGreatDoor.PRD
end

section
/- Functions without loops, told as plain functions, and the contracts of these and of the printed ones. No conditions. -/
namespace Go.Proofs.YtfnacgojmdbjmaaGreatDoor.PRD
open Go.RowKit Go.Proofs.YtfnacgojmdbjmaaGreatDoorW.PrintWords Go.Proofs.YtfnacgojmdbjmaaGreatDoorW.PrintLast Go.Proofs.YtfnacgojmdbjmaaGreatDoorW.PrintMore
open Go.Det (inQ M64 M128 qn addN highN clampN)
def gleberef1_Has.f (a0_0 : Int) (a0_1 : Int) (a0_2 : Int) (a0_3 : Int) (a1_0 : Int) (a1_1 : Int) (a1_2 : Int) : Option (Bool) := (gleberef1_OkPrefix.f a0_0 a0_1 a0_2 a0_3).bind fun t103 => (if t103 = true then ((gleberef1_Ok.f a1_0 a1_1 a1_2).bind fun t104 => (if t104 = true then (if a1_0 = a0_0 then ((gleberef1_all.f a1_0 a0_3).bind fun bt105 => ((gleberef1_And.f a1_1 a1_2 bt105.1 bt105.2).bind fun bt107 => (some (bt107.1 == a0_1 && (bt107.2 == a0_2))))) else (some false)) else (some false))) else (some false))
def glebelaw4_Rang.f (a0 : Int) (a1 : Int) (a2 : Int) (a3 : Int) : Option (Int × Int × Int × Int × Int × Int) := (glebelaw2_Addr.f 300 a0 a1 a2).bind fun bt144 => ((gleberef1_Add.f bt144.2.1 bt144.2.2 0 (Go.Det.shrI .u64 a3 (IntKind.u64.wrap (Go.Det.andI .i64 (Go.Det.shrI .i64 a0 9) 63)))).bind fun bt149 => (if bt149.2.2 = true then ((gleberef1_Ok.f bt144.1 bt149.1 bt149.2.1).bind fun t153 => (if t153 = true then (some (bt144.1, bt144.2.1, bt144.2.2, bt144.1, bt149.1, bt149.2.1)) else (some (bt144.1, bt144.2.1, bt144.2.2, bt144.1, bt144.2.1, bt144.2.2)))) else (some (bt144.1, bt144.2.1, bt144.2.2, bt144.1, bt144.2.1, bt144.2.2))))
def pref_Has.f (a0_0 : Int) (a0_1 : Int) (a0_2 : Int) (a0_3 : Int) (a1_0 : Int) (a1_1 : Int) (a1_2 : Int) : Option (Bool) := (pref_Ok.f a0_0 a0_1 a0_2 a0_3).bind fun t162 => (if t162 = true then ((addr_Ok.f a1_0 a1_1 a1_2).bind fun t163 => (if t163 = true then (if a1_0 = a0_0 then ((pref_mask.f a0_0 a0_3).bind fun bt164 => ((quad_And.f a1_1 a1_2 bt164.1 bt164.2).bind fun bt166 => (some (bt166.1 == a0_1 && (bt166.2 == a0_2))))) else (some false)) else (some false))) else (some false))
def rang_In.f (a0_0 : Int) (a0_1 : Int) (a0_2 : Int) (a0_3 : Int) (a0_4 : Int) (a0_5 : Int) (a1_0 : Int) (a1_1 : Int) (a1_2 : Int) (a1_3 : Int) : Option (Bool) := (rang_Ok.f a0_0 a0_1 a0_2 a0_3 a0_4 a0_5).bind fun t170 => (if t170 = true then ((pref_Has.f a1_0 a1_1 a1_2 a1_3 a0_0 a0_1 a0_2).bind fun t171 => (if t171 = true then ((pref_Has.f a1_0 a1_1 a1_2 a1_3 a0_3 a0_4 a0_5).bind fun t172 => (some t172)) else (some false))) else (some false))
def rang_Less.f (a0_0 : Int) (a0_1 : Int) (a0_2 : Int) (a0_3 : Int) (a0_4 : Int) (a0_5 : Int) (a1_0 : Int) (a1_1 : Int) (a1_2 : Int) (a1_3 : Int) (a1_4 : Int) (a1_5 : Int) : Option (Bool) := (rang_Ok.f a0_0 a0_1 a0_2 a0_3 a0_4 a0_5).bind fun t175 => (if t175 = true then ((rang_Ok.f a1_0 a1_1 a1_2 a1_3 a1_4 a1_5).bind fun t176 => (if t176 = true then ((addr_Less.f a0_0 a0_1 a0_2 a1_0 a1_1 a1_2).bind fun t179 => (if t179 = true then (some true) else (if (a0_0 == a1_0 && ((a0_1 == a1_1 && (a0_2 == a1_2)))) = true then ((addr_Less.f a0_3 a0_4 a0_5 a1_3 a1_4 a1_5).bind fun t180 => (some t180)) else (some false)))) else (some false))) else (some false))
end Go.Proofs.YtfnacgojmdbjmaaGreatDoor.PRD
namespace Go.Proofs.YtfnacgojmdbjmaaGreatDoor
open Go.Det Go.RowKit Go.Proofs.YtfnacgojmdbjmaaGreatDoor.PRD Go.Proofs.YtfnacgojmdbjmaaGreatDoorW.PrintWords
set_option maxRecDepth 100000
noncomputable def dec27 : List Value → Option (Int × Int × Int × Int × Int × Int × Int)
  | [.agg ⟨[.int .i64 a, .int .u64 b, .int .u64 c, .int .i64 d]⟩, .agg ⟨[.int .i64 e, .int .u64 f, .int .u64 g]⟩] => some (a, b, c, d, e, f, g)
  | _ => none
noncomputable def enc27 (x : Int × Int × Int × Int × Int × Int × Int) : List Value := [.agg #[.int .i64 x.1, .int .u64 x.2.1, .int .u64 x.2.2.1, .int .i64 x.2.2.2.1], .agg #[.int .i64 x.2.2.2.2.1, .int .u64 x.2.2.2.2.2.1, .int .u64 x.2.2.2.2.2.2]]
noncomputable def enr27 (y : Bool) : Value := .bool y
noncomputable def L27 : List (Nat × Con) := [(16, con16), (44, con44), (65, con65), (55, con55)]
noncomputable def dec36 : List Value → Option (Int × Int × Int × Int)
  | [.int .i64 a, .int .u64 b, .int .u64 c, .int .u64 d] => some (a, b, c, d)
  | _ => none
noncomputable def enc36 (x : Int × Int × Int × Int) : List Value := [.int .i64 x.1, .int .u64 x.2.1, .int .u64 x.2.2.1, .int .u64 x.2.2.2]
theorem dec36_enc {args : List Value} {a : Int × Int × Int × Int} (h : dec36 args = some a) : args = enc36 a := by
  unfold dec36 at h
  split at h
  case h_2 => cases h
  cases h; rfl
noncomputable def enr36 (y : Int × Int × Int × Int × Int × Int) : Value := .agg #[.int .i64 y.1, .int .u64 y.2.1, .int .u64 y.2.2.1, .int .i64 y.2.2.2.1, .int .u64 y.2.2.2.2.1, .int .u64 y.2.2.2.2.2]
noncomputable def con36 : Con := Con.opt dec36 (fun x => glebelaw4_Rang.f x.1 x.2.1 x.2.2.1 x.2.2.2) enr36
noncomputable def L36 : List (Nat × Con) := [(42, con42), (43, con43), (44, con44)]
noncomputable def dec26 : List Value → Option (Int × Int × Int × Int × Int × Int × Int)
  | [.agg ⟨[.int .i64 a, .int .u64 b, .int .u64 c, .int .i64 d]⟩, .agg ⟨[.int .i64 e, .int .u64 f, .int .u64 g]⟩] => some (a, b, c, d, e, f, g)
  | _ => none
noncomputable def enc26 (x : Int × Int × Int × Int × Int × Int × Int) : List Value := [.agg #[.int .i64 x.1, .int .u64 x.2.1, .int .u64 x.2.2.1, .int .i64 x.2.2.2.1], .agg #[.int .i64 x.2.2.2.2.1, .int .u64 x.2.2.2.2.2.1, .int .u64 x.2.2.2.2.2.2]]
noncomputable def enr26 (y : Bool) : Value := .bool y
noncomputable def con26 : Con := Con.opt dec26 (fun x => pref_Has.f x.1 x.2.1 x.2.2.1 x.2.2.2.1 x.2.2.2.2.1 x.2.2.2.2.2.1 x.2.2.2.2.2.2) enr26
noncomputable def L26 : List (Nat × Con) := [(22, con22), (68, con68), (67, con67), (66, con66)]
noncomputable def enc40 (x : Int × Int × Int × Int × Int × Int × Int × Int × Int × Int) : List Value := [.agg #[.int .i64 x.1, .int .u64 x.2.1, .int .u64 x.2.2.1, .int .i64 x.2.2.2.1, .int .u64 x.2.2.2.2.1, .int .u64 x.2.2.2.2.2.1], .agg #[.int .i64 x.2.2.2.2.2.2.1, .int .u64 x.2.2.2.2.2.2.2.1, .int .u64 x.2.2.2.2.2.2.2.2.1, .int .i64 x.2.2.2.2.2.2.2.2.2]]
noncomputable def enr40 (y : Bool) : Value := .bool y
noncomputable def L40 : List (Nat × Con) := [(48, con48), (26, con26)]
noncomputable def enc41 (x : Int × Int × Int × Int × Int × Int × Int × Int × Int × Int × Int × Int) : List Value := [.agg #[.int .i64 x.1, .int .u64 x.2.1, .int .u64 x.2.2.1, .int .i64 x.2.2.2.1, .int .u64 x.2.2.2.2.1, .int .u64 x.2.2.2.2.2.1], .agg #[.int .i64 x.2.2.2.2.2.2.1, .int .u64 x.2.2.2.2.2.2.2.1, .int .u64 x.2.2.2.2.2.2.2.2.1, .int .i64 x.2.2.2.2.2.2.2.2.2.1, .int .u64 x.2.2.2.2.2.2.2.2.2.2.1, .int .u64 x.2.2.2.2.2.2.2.2.2.2.2]]
noncomputable def enr41 (y : Bool) : Value := .bool y
noncomputable def L41 : List (Nat × Con) := [(48, con48), (75, con75)]
end Go.Proofs.YtfnacgojmdbjmaaGreatDoor
end
