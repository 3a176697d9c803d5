/- PrefMasks: at every start, whatever the numbers, the call returns true; the conditions: the tables that the row lists read as the program lays them. -/
import Derived.Test.YtfnacgojmdbjmaaDoorPj27
namespace Go.Proofs.YtfnacgojmdbjmaaDoor
open Go.ChangeShapes Go.WideShapes Go.ChangeAt Go.RowKit Go.Det
set_option maxRecDepth 100000

/-- what the condition comes to, the call comes to -/
theorem prefMasks_calls {W : World} (hW : GoodW W) (x0 x1 x2 : Int) (h0 : 0 ≤ x0 ∧ x0 < 18446744073709551616) (_ : -9223372036854775808 ≤ x1 ∧ x1 ≤ 9223372036854775807) (h2 : 0 ≤ x2 ∧ x2 < 18446744073709551616) :
    Calls Tryd.prog 12 #[.int .u64 x0, .int .i64 x1, .int .u64 x2] W fun e W' => e = .returned (.bool true) ∧ Kept W W' := by
  have L0 := Laying.empty (G := 6) hW.size
  refine (fnW_calls (P := Tryd.prog) (w0 := W) (φ0 := glob 6 W) (G := 6) (fn := Tryd.f12) (c := bodyOf Tryd.f12) (args := [.int .u64 x0, .int .i64 x1, .int .u64 x2]) (cwC_ok LM) (ownCall_ok (ownLM hW) (Later.refl W)) (ownCall_tr (ownLM hW)) dt_mixed (glob_glob 6 W) (fun id q => glob_top 6 W (by decide) id q) Tryd.func12 (by kernel_rfl) (by kernel_rfl) (by kernel_rfl) L0.hr (flat2L_self (by rfl) _) (fun id q => glob_top 6 W (by decide) id q) (fun id q => L0.top id (Nat.le_trans (by decide) q)) (Nat.le_refl 64) (pm_w x0 x1 x2 h0 h2)).mono ?_
  rintro e W' ⟨v1, v', s1, φ', rfl, rfl, hv, H', _, _⟩
  rw [bool_inv hv]
  exact ⟨rfl, H'.kept⟩

theorem prefMasks_lifted (os : Os) (started : os.Started) (H : Type) (enc : TypeId × Value → H) :
    ReturnsInHanded {} Tryd.checked os 12 .any (fun w args => (Rows.prefMasksSpec.pre enc Tryd.prog Tryd.f12 [] false w args ∧ laidMetH Tryd.prog Rows.prefMasksRow.laid w) ∧ sizedMet enc Tryd.prog Tryd.f12 (OpenSpec.ofChange Rows.prefMasksSpec) false w args)
      (Rows.prefMasksSpec.post enc Tryd.prog Tryd.f12 false true false false) := by
  refine wrap_shaped (C := Tryd.checked) (X := fun w _ => laidMetH Tryd.prog Rows.prefMasksRow.laid w) (fun _ _ _ hh h => h.of_heap hh) dt_own started (by kernel_rfl) Tryd.func12
    (ChangeSpec.witness_shaped (enc := enc) (C := Tryd.checked) (os := os) (X := fun w _ => laidMetH Tryd.prog Rows.prefMasksRow.laid w) false (World.laidAll Tryd.prog os laidA) #[.int .u64 0, .int .i64 0, .int .u64 0] 8 (World.laidAll_os _ _ _) (World.shaped_of_ZipB (by kernel_rfl) (by kernel_rfl)) (by kernel_rfl) (by kernel_rfl) (by kernel_rfl) (door_metA os _)) ?_
  intro W base args ds gs before hval0 hW hL hsh
  obtain ⟨t0, t2, t5, L, hs⟩ := laidA_at hL
  have hG : GoodW W := ⟨⟨t0, t2, t5, L⟩, hs, Len.of_shape hsh hs⟩
  have hval : ∀ (j : Nat) t v, Tryd.f12.params[j]? = some t → args[j]? = some v → Value.okWide Tryd.prog W .any base t v := hval0
  have hW' := hW
  obtain ⟨p, q, hA0, hV, rfl, hfz, hnd⟩ := hW
  have hA : DataW.TrodAll enc Tryd.prog W 0 (fun _ => true) true Tryd.f12.params.toList args.toList ds p := hA0
  rw [Tryd.params12] at hA hval
  obtain ⟨v0, vs0, d0, ds0, p0, q0, hargs, rfl, rfl, h0, k0⟩ := trodAll_cons hA
  obtain ⟨v1, vs1, d1, ds1, p1, q1, rfl, rfl, rfl, h1, k1⟩ := trodAll_cons k0
  obtain ⟨v2, vs2, d2, ds2, p2, q2, rfl, rfl, rfl, h2, k2⟩ := trodAll_cons k1
  obtain ⟨rfl, rfl, rfl⟩ := trodAll_nil k2
  obtain rfl : args = #[v0, v1, v2] := by cases args; simp_all
  obtain ⟨rfl, rfl⟩ := trodVars_none hV
  obtain ⟨n0, rfl, rfl, rfl, wn0⟩ := open_int Tryd.underlying27 (hval 0 27 v0 rfl rfl) h0
  obtain ⟨n1, rfl, rfl, rfl, wn1⟩ := open_int Tryd.underlying3 (hval 1 3 v1 rfl rfl) h1
  obtain ⟨n2, rfl, rfl, rfl, wn2⟩ := open_int Tryd.underlying27 (hval 2 27 v2 rfl rfl) h2
  refine (prefMasks_calls hG n0 n1 n2 (u64_wf wn0) (i64_wf wn1) (u64_wf wn2)).mono fun e W' ⟨he, hw⟩ => ?_
  subst he
  exact ⟨_, rfl, _, _, _, [], [], [], hW', trodAll_mk1 (shut_bool Tryd.underlying4 true), ⟨[], [], shut_int Tryd.underlying27 wn0, ⟨[], [], shut_int Tryd.underlying3 wn1, ⟨[], [], shut_int Tryd.underlying27 wn2, rfl, rfl⟩, rfl⟩, rfl⟩, rfl, hw.but _, fun h => by cases h⟩

theorem prefMasks_holds : Rows.PrefMasksSaid :=
  OpenClaim.holds_of_wide 12 Tryd.f12 rfl rfl rfl rfl rfl rfl rfl ⟨rfl, rfl, rfl, rfl, rfl⟩ rfl rfl rfl rfl rfl (by kernel_rfl) Tryd.func12 (by kernel_rfl)
    (of_decide_eq_true (by kernel_rfl)) (by unfold Func.isWrapper; first | (rw [if_pos (by decide +kernel)]; kernel_rfl) | (rw [if_neg (by decide +kernel)]; exact ⟨rfl, rfl⟩))
    (fun os started H enc _ => prefMasks_lifted os started H enc)

theorem prefMasks_card_holds : Rows.PrefMasksCardSaid :=
  Claim7.holds_tied_plain_at .later [] [.data, .data, .data, .data, .pinned] true (true, "f4485812763653ffca44ca5064ea510697a50d409c0e67ea003c933eb6baadb5") false
    prefMasks_holds (fun _ h => by cases h) (by kernel_rfl) (fun _ h => by cases h) prefMasks_row_tie rfl ⟨rfl, rfl⟩ (by kernel_rfl) rfl
    (fun f fn hf hfn => by
      obtain rfl : f = 12 := Option.some.inj ((show Tryd.prog.funcNamed "glebe/glebelaw3.PrefMasks" = some 12 by kernel_rfl).symm.trans hf) |>.symm
      obtain rfl : fn = Tryd.f12 := (Option.some.inj (Tryd.func12.symm.trans hfn)).symm
      exact ⟨by kernel_rfl, fun j t ht => by
        rw [Tryd.params12] at ht
        have h3 : t = 3 ∨ t = 27 := by
          match j, ht with
          | 0, ht => simp at ht; subst ht; first | exact .inl rfl | exact .inr rfl
          | 1, ht => simp at ht; subst ht; first | exact .inl rfl | exact .inr rfl
          | 2, ht => simp at ht; subst ht; first | exact .inl rfl | exact .inr rfl
          | j + 3, ht => simp at ht
        rcases h3 with rfl | rfl
        · exact (show Tryd.prog.wantsStandIn 3 = false by kernel_rfl)
        · exact (show Tryd.prog.wantsStandIn 27 = false by kernel_rfl)⟩)
    (by kernel_rfl)
#print axioms prefMasks_card_holds

end Go.Proofs.YtfnacgojmdbjmaaDoor
