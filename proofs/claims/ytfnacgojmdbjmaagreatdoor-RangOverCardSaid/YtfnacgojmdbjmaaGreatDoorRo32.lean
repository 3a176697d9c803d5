/- RangOver: the law's words: the functions that it calls as contracts, what its loop keeps. No conditions. -/
import Derived.Test.YtfnacgojmdbjmaaGreatDoorRo29
import Derived.Test.YtfnacgojmdbjmaaGreatDoorRo26
import Derived.Test.YtfnacgojmdbjmaaGreatDoorRo24
namespace Go.Proofs.YtfnacgojmdbjmaaGreatDoor
open Go.Det Go.RowKit Go.Proofs.YtfnacgojmdbjmaaGreatDoor.PRD Go.Proofs.YtfnacgojmdbjmaaGreatDoorW.PrintWords
set_option maxRecDepth 100000

theorem reps_flat {α : Type} {R : α → List Value → Prop} {n : Nat} {enc : α → List Value} (hR : ∀ p c, R p c → c = enc p) : ∀ {ps : List α} {cs : List Value}, Reps R n ps cs → cs = ps.flatMap enc
  | [], cs, h => by
    have := h.1
    simp at this
    simpa using this
  | x :: t, cs, h => by
    have h0 := hR _ _ (h.2 0 x rfl)
    rw [Nat.zero_mul, List.drop_zero] at h0
    have ht : Reps R n t (cs.drop n) := by
      refine ⟨by rw [List.length_drop, h.1, List.length_cons, Nat.succ_mul]; omega, fun j p hj => ?_⟩
      have := h.2 (j + 1) p (by simpa using hj)
      rw [List.drop_drop, show n + j * n = (j + 1) * n by rw [Nat.succ_mul]; omega]
      exact this
    rw [List.flatMap_cons, ← h0, ← reps_flat hR ht, List.take_append_drop]

/-- a prefix's cells -/
def encS (x : S30) : List Value := [.int .i64 x.f0.f0, .int .u64 x.f0.f1.f0, .int .u64 x.f0.f1.f1, .int .i64 x.f1]
noncomputable def lim {β : Type} (f : Nat → Option β) : Option β := open Classical in if h : ∃ r k, f k = some r then some (Classical.choose h) else none
theorem lim_some {β : Type} {f : Nat → Option β} {r : β} (h : lim f = some r) : ∃ k, f k = some r := by
  unfold lim at h
  split at h
  · rename_i hx; cases h; exact Classical.choose_spec hx
  · cases h
theorem lim_of {β : Type} {f : Nat → Option β} {r : β} {k : Nat} (hm : ∀ i j x y, f i = some x → f j = some y → x = y) (h : f k = some r) : lim f = some r := by
  unfold lim
  rw [dif_pos ⟨r, k, h⟩]
  congr 1
  obtain ⟨j, hj⟩ := Classical.choose_spec (⟨r, k, h⟩ : ∃ r k, f k = some r)
  exact hm _ _ _ _ hj h

noncomputable def dec33 : List Value → Option (Int × Int × Int × Int × Int × Int)
  | [.agg ⟨[.int .i64 a, .int .u64 b, .int .u64 c, .int .i64 d, .int .u64 e, .int .u64 f]⟩] => some (a, b, c, d, e, f)
  | _ => none
noncomputable def covF (x : Int × Int × Int × Int × Int × Int) : Option (List S30) := lim fun k => rang_Cover.f k x.1 x.2.1 x.2.2.1 x.2.2.2.1 x.2.2.2.2.1 x.2.2.2.2.2
noncomputable def con33 : Con := Con.row dec33 covF encS 30 4
theorem om33 {W : World} (hW : GoodW W) : OwnAll Tryz.prog W 6 33 con33.own := by
  refine own_row (fn := Tryz.f33) (c := bodyOf Tryz.f33) (fun _ => rfl) (by decide) (fun x v hv => ?_) hW Tryz.func33 (by kernel_rfl) (by kernel_rfl) fun args a r ha hr => ?_
  · simp only [encS, List.mem_cons, List.not_mem_nil, or_false] at hv
    rcases hv with rfl | rfl | rfl | rfl <;> rfl
  unfold dec33 at ha
  split at ha
  case h_2 => cases ha
  cases ha
  obtain ⟨k, hk⟩ := lim_some hr
  refine ⟨rfl, fun w hG => (rang_Cover.calls k _ _ _ _ _ _ r w hG hk).mono ?_⟩
  rintro e w' ⟨v, rfl, hR, hB⟩
  obtain ⟨_, inner, ho, hreps⟩ := hR
  obtain rfl := reps_flat (enc := encS) (fun p c h => k30_openM h) hreps
  exact ⟨v, rfl, hB, ho⟩

noncomputable def dec34 : List Value → Option Unit
  | [] => some ()
  | _ => none
noncomputable def con34 : Con := Con.opt dec34 (fun _ => some true) fun b => .bool b
theorem om34 {W : World} (hW : GoodW W) : OwnAll Tryz.prog W 6 34 con34.own := by
  refine own_of_calls (fn := Tryz.f34) (c := bodyOf Tryz.f34) hW Tryz.func34 (by kernel_rfl) (by kernel_rfl) fun args v h => ?_
  split at h
  case h_2 => cases h
  rename_i a ha
  cases h
  unfold dec34 at ha
  split at ha
  case h_2 => cases ha
  exact ⟨rfl, rfl, fun w hG => st_awake34 w hG⟩

noncomputable def L5 : List (Nat × Con) := [(36, con36), (10, con10), (33, con33), (27, con27), (25, con25), (37, con37), (39, con39), (40, con40), (41, con41), (34, con34)]
theorem own5 {W : World} (hW : GoodW W) : OwnsAll Tryz.prog W 6 (extC L5) :=
  OwnsAll.con (om36 hW) (OwnsAll.con (om10 hW) (OwnsAll.con (om33 hW) (OwnsAll.con (om27 hW) (OwnsAll.con (om25 hW) (OwnsAll.con (om37 hW) (OwnsAll.con (om39 hW) (OwnsAll.con (om40 hW) (OwnsAll.con (om41 hW) (OwnsAll.con (om34 hW) (ownsAll_nil W 6))))))))))

/-- what stands at the loop's head: the two ranges, the prefix, the row, what was found, how far -/
structure RoV where
  r0 : Int
  r1 : Int
  r2 : Int
  r3 : Int
  r4 : Int
  r5 : Int
  s0 : Int
  s1 : Int
  s2 : Int
  s3 : Int
  s4 : Int
  s5 : Int
  p0 : Int
  p1 : Int
  p2 : Int
  p3 : Int
  t : List S30
  b : Bool
  i : Int
noncomputable def slRo (v : RoV) : Slots := [(14, .bool false), (15, .pointer (some ⟨64, 0, none⟩)), (16, .pointer (some ⟨65, 0, none⟩)), (17, .pointer (some ⟨66, 0, none⟩)), (18, .bool v.b), (42, .slice (some ⟨67, 0, none⟩) v.t.length (capU + 4)), (43, .int .i64 (v.t.length : Int)), (44, .int .i64 v.i)]
def cRo (v : RoV) : List Value := [.int .i64 v.r0, .int .u64 v.r1, .int .u64 v.r2, .int .i64 v.r3, .int .u64 v.r4, .int .u64 v.r5]
def cSo (v : RoV) : List Value := [.int .i64 v.s0, .int .u64 v.s1, .int .u64 v.s2, .int .i64 v.s3, .int .u64 v.s4, .int .u64 v.s5]
def cPo (v : RoV) : List Value := [.int .i64 v.p0, .int .u64 v.p1, .int .u64 v.p2, .int .i64 v.p3]
noncomputable def blRo (v : RoV) : Blks := [(64, cRo v, 105, false), (65, cSo v, 105, false), (66, cPo v, 61, false), (67, v.t.flatMap encS, 60, false)]
noncomputable def agreeRo (v : RoV) (l : Tmps) (s : St) : Prop :=
  slotsW l (slRo v) ∧ blkW s 64 (cRo v) 105 false ∧ blkW s 65 (cSo v) 105 false ∧ blkW s 66 (cPo v) 61 false ∧ rowW s 67 (v.t.flatMap encS) 60 false
theorem goodL_row (N : Nat) (t : List S30) : goodL N (t.flatMap encS) = true := by
  refine List.all_eq_true.2 fun v hv => ?_
  obtain ⟨y, _, hy⟩ := List.mem_flatMap.1 hv
  simp only [encS, List.mem_cons, List.not_mem_nil, or_false] at hy
  rcases hy with rfl | rfl | rfl | rfl <;> rfl
theorem agreeRo_weak {v : RoV} {l : Tmps} {s : St} (h : agreeRo v l s) : Weaker l s (tabOf (slRo v)) (stOf (blRo v) 68) := by
  obtain ⟨h1, h2, h3, h4, h5⟩ := h
  refine weak_pick (by decide) (fun x hx => ?_) (fun x hx => ?_) h1 ⟨blkW_get h2, blkW_get h3, blkW_get h4, rowW_get h5, trivial⟩
  · simp only [slRo, List.mem_cons, List.not_mem_nil, or_false] at hx
    rcases hx with rfl | rfl | rfl | rfl | rfl | rfl | rfl | rfl <;> rfl
  · simp only [blRo, List.mem_cons, List.not_mem_nil, or_false] at hx
    rcases hx with rfl | rfl | rfl | rfl
    · exact ⟨show (64 : Nat) ≤ 64 ∧ 64 < 68 by decide, rfl⟩
    · exact ⟨show (64 : Nat) ≤ 65 ∧ 65 < 68 by decide, rfl⟩
    · exact ⟨show (64 : Nat) ≤ 66 ∧ 66 < 68 by decide, rfl⟩
    · exact ⟨show (64 : Nat) ≤ 67 ∧ 67 < 68 by decide, goodL_row _ _⟩

noncomputable def bodyL : Code := match loopsOf (bodyOf Tryz.f5) with | a :: _ => a | [] => .skip
noncomputable def oxRo (n : Nat) : Option OpX := match Nat.beq n 47 with | true => some (rowX encS 30 4) | false => none
theorem oxRo_ok : OxOk Tryz.prog (cwC L5) oxRo := by
  intro n X hX o l s K h
  unfold oxRo at hX
  split at hX
  · cases hX
    exact rowX_ok (n := 3) (fun _ => rfl) (by kernel_rfl) (by kernel_rfl) h
  · cases hX
noncomputable def lx0 (_ : Nat) : Option LpX := none
theorem lx0_ok {P : Program} {cw : Cw} (l : List Code) : LxOk P cw lx0 l := fun _ _ _ h => by cases h
noncomputable def StepRo (v v1 : RoV) : Prop := codeX Tryz.prog (cwC L5) oxRo lx0 bodyL (tabOf (slRo v)) (stOf (blRo v) 68) (stepW (fun l s => agreeRo v1 l s) (fun _ _ _ => False))
noncomputable def LX5 : LpX := fun l s K => ∃ v : RoV, agreeRo v l s ∧ ∃ v' : RoV, Star StepRo v v' ∧ codeX Tryz.prog (cwC L5) oxRo lx0 bodyL (tabOf (slRo v')) (stOf (blRo v') 68) (stepW (fun _ _ => False) K)
noncomputable def lxRo (n : Nat) : Option LpX := match Nat.beq n 5 with | true => some LX5 | false => none
theorem lxRo_ok : LxOk Tryz.prog (cwC L5) lxRo (loopsOf (bodyOf Tryz.f5)) := by
  have e : loopsOf (bodyOf Tryz.f5) = [bodyL] := by kernel_rfl
  rw [e]
  intro a ha X hX l s K h
  obtain rfl := List.mem_singleton.1 ha
  have e2 : lxRo (frst bodyL) = some LX5 := by kernel_rfl
  rw [e2] at hX
  cases hX
  obtain ⟨v, hv, v', hs, he⟩ := h
  have hm := cwC_mono L5
  refine loop_star hm (fun v => tabOf (slRo v)) (fun v => stOf (blRo v) 68) (fun v v1 hstep => ?_) hs (agreeRo_weak hv) (codeX_codeW hm oxRo_ok _ (lx0_ok _) he)
  exact codeW_mono hm _ (stepW_mono (fun l s q => agreeRo_weak q) fun _ _ _ q => q) (codeX_codeW hm oxRo_ok _ (lx0_ok _) hstep)

end Go.Proofs.YtfnacgojmdbjmaaGreatDoor
