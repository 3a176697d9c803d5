/- QuadOrder: at every start, whatever the three numbers, the call returns true; the conditions: the one table that the row lists reads as the program lays it. -/
import Derived.Test.YtfnacgojmdbjmaaDoorQuadOwn
namespace Go.Proofs.YtfnacgojmdbjmaaDoor
open Go.ChangeShapes Go.WideShapes Go.ChangeAt Go.RowKit Go.Det
set_option maxRecDepth 100000

theorem inQ_of {a b : Int} (h : (0 ≤ a ∧ a < 18446744073709551616) ∧ (0 ≤ b ∧ b < 18446744073709551616)) : inQ a b = true := inQ_iff.2 h
theorem domQQ_of {a b c d : Int} (h : inQ a b = true) (k : inQ c d = true) : domQQ (a, b, c, d) = true := by unfold domQQ; rw [Bool.and_eq_true]; exact ⟨h, k⟩
theorem domQ_of {a b : Int} (h : inQ a b = true) : domQ (a, b) = true := h

theorem qo_w (ah al bh bl ch cl : Int) (ha : inQ ah al = true) (hb : inQ bh bl = true) (hc : inQ ch cl = true) :
    codeW Tryd.prog (cwC LQ) (bodyOf Tryd.f7) (inTab [.agg #[.int .u64 ah, .int .u64 al], .agg #[.int .u64 bh, .int .u64 bl], .agg #[.int .u64 ch, .int .u64 cl]] 8) (birth [] 64) (retW Tryd.prog Tryd.f7 fun v _ => v = .bool true) := by
  refine (vc7 ah al bh bl ch cl _).mpr ?_
  have la := qn_lt ha
  have lb := qn_lt hb
  have lc := qn_lt hc
  have iand : inQ ((qn ah al &&& qn bh bl) / M64 : Nat) ((qn ah al &&& qn bh bl) % M64 : Nat) = true := inQ_quad (land_lt128 la _)
  have ior : inQ ((qn ah al ||| qn bh bl) / M64 : Nat) ((qn ah al ||| qn bh bl) % M64 : Nat) = true := inQ_quad (lor_lt128 la lb)
  have inot : inQ ((M128 - 1 - qn ah al) / M64 : Nat) ((M128 - 1 - qn ah al) % M64 : Nat) = true := inQ_quad (by simp only [M128]; omega)
  have iadd : ∀ a b : Nat, inQ ((addN a b) / M64 : Nat) ((addN a b) % M64 : Nat) = true := fun a b => inQ_quad (by unfold addN; split; assumption; decide)
  simp only [domQQ_of ha hc, domQQ_of hb hc, domQQ_of ha hb, domQQ_of hb ha, domQQ_of ha iand, domQQ_of ior ha, domQ_of ha, domQ_of inot, domQQ_of ha inot, domQQ_of iand ha, domQQ_of (iadd _ _) (iadd _ _), qn_quad, pair_eq, pair_eq_raw ha, pair_eq_zero, true_and]
  have f1 : cdec (qn ah al < qn ah al &&& qn bh bl) = false := cdec_false.2 (Nat.not_lt.2 Nat.and_le_left)
  have f2 : cdec (qn ah al ||| qn bh bl < qn ah al) = false := cdec_false.2 (Nat.not_lt.2 Nat.left_le_or)
  have f3 : cdec (M128 - 1 - (M128 - 1 - qn ah al) = qn ah al) = true := cdec_true.2 (by simp only [M128] at *; omega)
  have f4 : cdec (qn ah al &&& qn bh bl = qn bh bl &&& qn ah al) = true := cdec_true.2 (Nat.and_comm _ _)
  have f5 : cdec (qn ah al &&& qn bh bl ||| qn ah al = qn ah al) = true := cdec_true.2 (lor_land_self _ _)
  have f6 : cdec (qn ah al &&& (M128 - 1 - qn ah al) = 0) = true := cdec_true.2 (land_not la)
  simp only [f1, f2, f3, f4, f5, f6, bifW_true, Bool.not_false]
  refine bifW_intro (fun h1 => bifW_intro (fun h2 => ?_) (fun _ => trivial)) (fun _ => trivial)
  rw [cdec_true] at h1 h2
  have e1 : addN (qn ah al) (qn ch cl) = qn ah al + qn ch cl := if_pos h1
  have e2 : addN (qn bh bl) (qn ch cl) = qn bh bl + qn ch cl := if_pos h2
  have e : (qn ah al + qn ch cl < qn bh bl + qn ch cl) = (qn ah al < qn bh bl) := propext ⟨Nat.lt_of_add_lt_add_right, fun h => Nat.add_lt_add_right h _⟩
  rw [e1, e2, e]
  cases cdec (qn ah al < qn bh bl) <;> exact trivial

theorem qo_calls {W : World} {t : TypeId} (L : Laying 1 W (heap1 t)) (hW : 1 ≤ W.heap.size) (ah al bh bl ch cl : Int) (ha : inQ ah al = true) (hb : inQ bh bl = true) (hc : inQ ch cl = true) :
    Calls Tryd.prog 7 #[.agg #[.int .u64 ah, .int .u64 al], .agg #[.int .u64 bh, .int .u64 bl], .agg #[.int .u64 ch, .int .u64 cl]] W fun e W' => e = .returned (.bool true) ∧ Kept W W' :=
  law_calls L hW Tryd.func7 (c := bodyOf Tryd.f7) (by kernel_rfl) (by kernel_rfl) rfl (by kernel_rfl) (qo_w ah al bh bl ch cl ha hb hc)

theorem quadOrder_lifted (os : Os) (started : os.Started) (H : Type) (enc : TypeId × Value → H) :
    ReturnsInHanded {} Tryd.checked os 7 .any (fun w args => (Rows.quadOrderSpec.pre enc Tryd.prog Tryd.f7 [] false w args ∧ laidMetH Tryd.prog Rows.quadOrderRow.laid w) ∧ sizedMet enc Tryd.prog Tryd.f7 (OpenSpec.ofChange Rows.quadOrderSpec) false w args)
      (Rows.quadOrderSpec.post enc Tryd.prog Tryd.f7 false true false false) := by
  refine returnsInHanded_of_change_and (C := Tryd.checked) (X := fun w _ => laidMetH Tryd.prog Rows.quadOrderRow.laid w) (fun _ _ _ hh h => h.of_heap hh) dt_own started (by kernel_rfl) Tryd.func7
    (ChangeSpec.witness_shaped (enc := enc) (C := Tryd.checked) (os := os) (X := fun w _ => laidMetH Tryd.prog Rows.quadOrderRow.laid w) false (World.doorLaid Tryd.prog 400 os) #[.agg #[.int .u64 0, .int .u64 0], .agg #[.int .u64 0, .int .u64 0], .agg #[.int .u64 0, .int .u64 0]] 8 rfl (World.shaped_of_RefB (by kernel_rfl) (by kernel_rfl)) (by kernel_rfl) (by kernel_rfl) (by kernel_rfl) (door_met1 os _)) ?_
  intro W base args ds gs before hval0 hW _ _ hL _
  obtain ⟨t, L⟩ := laid1 hL
  have hval : ∀ (j : Nat) t v, Tryd.f7.params[j]? = some t → args[j]? = some v → Value.okWide Tryd.prog W .any base t v := hval0
  have hW' := hW
  obtain ⟨p, q, hA0, hV, rfl, hfz, hnd⟩ := hW
  have hA : DataW.TrodAll enc Tryd.prog W 0 (fun _ => true) true Tryd.f7.params.toList args.toList ds p := hA0
  rw [Tryd.params7] at hA hval
  obtain ⟨v0, v1, v2, d0, d1, d2, p0, p1, p2, rfl, rfl, rfl, h0, h1, h2⟩ := trodAll_three hA
  obtain ⟨rfl, rfl⟩ := trodVars_none hV
  obtain ⟨x0, y0, rfl, rfl, rfl, wx0, wy0⟩ := open_quad (hval 0 29 v0 rfl rfl) h0
  obtain ⟨x1, y1, rfl, rfl, rfl, wx1, wy1⟩ := open_quad (hval 1 29 v1 rfl rfl) h1
  obtain ⟨x2, y2, rfl, rfl, rfl, wx2, wy2⟩ := open_quad (hval 2 29 v2 rfl rfl) h2
  have hs : 1 ≤ W.heap.size := size_of_laid L
  refine (qo_calls L hs x0 y0 x1 y1 x2 y2 (inQ_wf wx0 wy0) (inQ_wf wx1 wy1) (inQ_wf wx2 wy2)).mono fun e W' ⟨he, hw⟩ => ?_
  subst he
  exact ⟨_, rfl, _, _, _, [], [], [], hW', trodAll_mk1 (shut_bool Tryd.underlying4 true), trodAll_mk3 (shut_quad wx0 wy0) (shut_quad wx1 wy1) (shut_quad wx2 wy2), rfl, hw.but _, fun h => by cases h⟩

theorem quadOrder_holds : Rows.QuadOrderSaid :=
  OpenClaim.holds_of_wide 7 Tryd.f7 rfl rfl rfl rfl rfl rfl rfl ⟨rfl, rfl, rfl, rfl, rfl⟩ rfl rfl rfl rfl rfl (by kernel_rfl) Tryd.func7 (by kernel_rfl)
    (of_decide_eq_true (by kernel_rfl)) (by unfold Func.isWrapper; first | (rw [if_pos (by decide +kernel)]; kernel_rfl) | (rw [if_neg (by decide +kernel)]; exact ⟨rfl, rfl⟩))
    (fun os started H enc _ => quadOrder_lifted os started H enc)

theorem quadOrder_card_holds : Rows.QuadOrderCardSaid :=
  Claim7.holds_tied_plain_at .later [] [.data] true (true, "f4485812763653ffca44ca5064ea510697a50d409c0e67ea003c933eb6baadb5") false
    quadOrder_holds (fun _ h => by cases h) (by kernel_rfl) (fun _ h => by cases h) quadOrder_row_tie rfl ⟨rfl, rfl⟩ (by kernel_rfl) rfl
    (fun f fn hf hfn => by
      obtain rfl : f = 7 := Option.some.inj ((show Tryd.prog.funcNamed "glebe/glebelaw1.QuadOrder" = some 7 by kernel_rfl).symm.trans hf) |>.symm
      obtain rfl : fn = Tryd.f7 := (Option.some.inj (Tryd.func7.symm.trans hfn)).symm
      exact ⟨by kernel_rfl, fun j t ht => by
        rw [Tryd.params7] at ht
        have h3 : t = 3 ∨ t = 29 ∨ t = 27 := by
          match j, ht with
          | 0, ht => simp at ht; subst ht; first | exact .inl rfl | exact .inr (.inl rfl) | exact .inr (.inr rfl)
          | 1, ht => simp at ht; subst ht; first | exact .inl rfl | exact .inr (.inl rfl) | exact .inr (.inr rfl)
          | 2, ht => simp at ht; subst ht; first | exact .inl rfl | exact .inr (.inl rfl) | exact .inr (.inr rfl)
          | j + 3, ht => simp at ht
        rcases h3 with rfl | rfl | rfl
        · exact (show Tryd.prog.wantsStandIn 3 = false by kernel_rfl)
        · exact (show Tryd.prog.wantsStandIn 29 = false by kernel_rfl)
        · exact (show Tryd.prog.wantsStandIn 27 = false by kernel_rfl)⟩)
    (by kernel_rfl)
#print axioms quadOrder_card_holds

end Go.Proofs.YtfnacgojmdbjmaaDoor
