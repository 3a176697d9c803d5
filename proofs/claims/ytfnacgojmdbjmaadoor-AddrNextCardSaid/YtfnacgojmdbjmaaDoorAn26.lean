/- AddrNext: at every start, whatever the numbers, the call returns true; the conditions: the tables that the row lists read as the program lays them. -/
import Derived.Test.YtfnacgojmdbjmaaDoorAn25
namespace Go.Proofs.YtfnacgojmdbjmaaDoor
open Go.ChangeShapes Go.WideShapes Go.ChangeAt Go.RowKit Go.Det
set_option maxRecDepth 100000

/-- what the condition comes to, the call comes to -/
theorem addrNext_calls {W : World} (hW : GoodW W) (x0 x1 x2 x3 x4 x5 : Int) (h0 : -9223372036854775808 ≤ x0 ∧ x0 ≤ 9223372036854775807) (h1 : 0 ≤ x1 ∧ x1 < 18446744073709551616) (h2 : 0 ≤ x2 ∧ x2 < 18446744073709551616) (h3 : -9223372036854775808 ≤ x3 ∧ x3 ≤ 9223372036854775807) (h4 : 0 ≤ x4 ∧ x4 < 18446744073709551616) (h5 : 0 ≤ x5 ∧ x5 < 18446744073709551616) :
    Calls Tryd.prog 9 #[.int .i64 x0, .int .u64 x1, .int .u64 x2, .int .i64 x3, .int .u64 x4, .int .u64 x5] W fun e W' => e = .returned (.bool true) ∧ Kept W W' := by
  have L0 := Laying.empty (G := 6) hW.size
  refine (fnW_calls (P := Tryd.prog) (w0 := W) (φ0 := glob 6 W) (G := 6) (fn := Tryd.f9) (c := bodyOf Tryd.f9) (args := [.int .i64 x0, .int .u64 x1, .int .u64 x2, .int .i64 x3, .int .u64 x4, .int .u64 x5]) (cwC_ok LA) (ownCall_ok (ownLA hW) (Later.refl W)) (ownCall_tr (ownLA hW)) dt_mixed (glob_glob 6 W) (fun id q => glob_top 6 W (by decide) id q) Tryd.func9 (by kernel_rfl) (by kernel_rfl) (by kernel_rfl) L0.hr (flat2L_self (by rfl) _) (fun id q => glob_top 6 W (by decide) id q) (fun id q => L0.top id (Nat.le_trans (by decide) q)) (Nat.le_refl 64) (an_w x0 x1 x2 x3 x4 x5 h1 h2 h4 h5)).mono ?_
  rintro e W' ⟨v1, v', s1, φ', rfl, rfl, hv, H', _, _⟩
  rw [bool_inv hv]
  exact ⟨rfl, H'.kept⟩

theorem addrNext_lifted (os : Os) (started : os.Started) (H : Type) (enc : TypeId × Value → H) :
    ReturnsInHanded {} Tryd.checked os 9 .any (fun w args => (Rows.addrNextSpec.pre enc Tryd.prog Tryd.f9 [] false w args ∧ laidMetH Tryd.prog Rows.addrNextRow.laid w) ∧ sizedMet enc Tryd.prog Tryd.f9 (OpenSpec.ofChange Rows.addrNextSpec) false w args)
      (Rows.addrNextSpec.post enc Tryd.prog Tryd.f9 false true false false) := by
  refine wrap_shaped (C := Tryd.checked) (X := fun w _ => laidMetH Tryd.prog Rows.addrNextRow.laid w) (fun _ _ _ hh h => h.of_heap hh) dt_own started (by kernel_rfl) Tryd.func9
    (ChangeSpec.witness_shaped (enc := enc) (C := Tryd.checked) (os := os) (X := fun w _ => laidMetH Tryd.prog Rows.addrNextRow.laid w) false (World.laidAll Tryd.prog os laidA) #[.int .i64 0, .int .u64 0, .int .u64 0, .int .i64 0, .int .u64 0, .int .u64 0] 8 (World.laidAll_os _ _ _) (World.shaped_of_ZipB (by kernel_rfl) (by kernel_rfl)) (by kernel_rfl) (by kernel_rfl) (by kernel_rfl) (door_metA os _)) ?_
  intro W base args ds gs before hval0 hW hL hsh
  obtain ⟨t0, t2, t5, L, hs⟩ := laidA_at hL
  have hG : GoodW W := ⟨⟨t0, t2, t5, L⟩, hs, Len.of_shape hsh hs⟩
  have hval : ∀ (j : Nat) t v, Tryd.f9.params[j]? = some t → args[j]? = some v → Value.okWide Tryd.prog W .any base t v := hval0
  have hW' := hW
  obtain ⟨p, q, hA0, hV, rfl, hfz, hnd⟩ := hW
  have hA : DataW.TrodAll enc Tryd.prog W 0 (fun _ => true) true Tryd.f9.params.toList args.toList ds p := hA0
  rw [Tryd.params9] at hA hval
  obtain ⟨v0, vs0, d0, ds0, p0, q0, hargs, rfl, rfl, h0, k0⟩ := trodAll_cons hA
  obtain ⟨v1, vs1, d1, ds1, p1, q1, rfl, rfl, rfl, h1, k1⟩ := trodAll_cons k0
  obtain ⟨v2, vs2, d2, ds2, p2, q2, rfl, rfl, rfl, h2, k2⟩ := trodAll_cons k1
  obtain ⟨v3, vs3, d3, ds3, p3, q3, rfl, rfl, rfl, h3, k3⟩ := trodAll_cons k2
  obtain ⟨v4, vs4, d4, ds4, p4, q4, rfl, rfl, rfl, h4, k4⟩ := trodAll_cons k3
  obtain ⟨v5, vs5, d5, ds5, p5, q5, rfl, rfl, rfl, h5, k5⟩ := trodAll_cons k4
  obtain ⟨rfl, rfl, rfl⟩ := trodAll_nil k5
  obtain rfl : args = #[v0, v1, v2, v3, v4, v5] := by cases args; simp_all
  obtain ⟨rfl, rfl⟩ := trodVars_none hV
  obtain ⟨n0, rfl, rfl, rfl, wn0⟩ := open_int Tryd.underlying3 (hval 0 3 v0 rfl rfl) h0
  obtain ⟨n1, rfl, rfl, rfl, wn1⟩ := open_int Tryd.underlying27 (hval 1 27 v1 rfl rfl) h1
  obtain ⟨n2, rfl, rfl, rfl, wn2⟩ := open_int Tryd.underlying27 (hval 2 27 v2 rfl rfl) h2
  obtain ⟨n3, rfl, rfl, rfl, wn3⟩ := open_int Tryd.underlying3 (hval 3 3 v3 rfl rfl) h3
  obtain ⟨n4, rfl, rfl, rfl, wn4⟩ := open_int Tryd.underlying27 (hval 4 27 v4 rfl rfl) h4
  obtain ⟨n5, rfl, rfl, rfl, wn5⟩ := open_int Tryd.underlying27 (hval 5 27 v5 rfl rfl) h5
  refine (addrNext_calls hG n0 n1 n2 n3 n4 n5 (i64_wf wn0) (u64_wf wn1) (u64_wf wn2) (i64_wf wn3) (u64_wf wn4) (u64_wf wn5)).mono fun e W' ⟨he, hw⟩ => ?_
  subst he
  exact ⟨_, rfl, _, _, _, [], [], [], hW', trodAll_mk1 (shut_bool Tryd.underlying4 true), ⟨[], [], shut_int Tryd.underlying3 wn0, ⟨[], [], shut_int Tryd.underlying27 wn1, ⟨[], [], shut_int Tryd.underlying27 wn2, ⟨[], [], shut_int Tryd.underlying3 wn3, ⟨[], [], shut_int Tryd.underlying27 wn4, ⟨[], [], shut_int Tryd.underlying27 wn5, rfl, rfl⟩, rfl⟩, rfl⟩, rfl⟩, rfl⟩, rfl⟩, rfl, hw.but _, fun h => by cases h⟩

theorem addrNext_holds : Rows.AddrNextSaid :=
  OpenClaim.holds_of_wide 9 Tryd.f9 rfl rfl rfl rfl rfl rfl rfl ⟨rfl, rfl, rfl, rfl, rfl⟩ rfl rfl rfl rfl rfl (by kernel_rfl) Tryd.func9 (by kernel_rfl)
    (of_decide_eq_true (by kernel_rfl)) (by unfold Func.isWrapper; first | (rw [if_pos (by decide +kernel)]; kernel_rfl) | (rw [if_neg (by decide +kernel)]; exact ⟨rfl, rfl⟩))
    (fun os started H enc _ => addrNext_lifted os started H enc)

theorem addrNext_card_holds : Rows.AddrNextCardSaid :=
  Claim7.holds_tied_plain_at .later [] [.data, .data, .data, .data, .pinned] true (true, "f4485812763653ffca44ca5064ea510697a50d409c0e67ea003c933eb6baadb5") false
    addrNext_holds (fun _ h => by cases h) (by kernel_rfl) (fun _ h => by cases h) addrNext_row_tie rfl ⟨rfl, rfl⟩ (by kernel_rfl) rfl
    (fun f fn hf hfn => by
      obtain rfl : f = 9 := Option.some.inj ((show Tryd.prog.funcNamed "glebe/glebelaw2.AddrNext" = some 9 by kernel_rfl).symm.trans hf) |>.symm
      obtain rfl : fn = Tryd.f9 := (Option.some.inj (Tryd.func9.symm.trans hfn)).symm
      exact ⟨by kernel_rfl, fun j t ht => by
        rw [Tryd.params9] at ht
        have h3 : t = 3 ∨ t = 27 := by
          match j, ht with
          | 0, ht => simp at ht; subst ht; first | exact .inl rfl | exact .inr rfl
          | 1, ht => simp at ht; subst ht; first | exact .inl rfl | exact .inr rfl
          | 2, ht => simp at ht; subst ht; first | exact .inl rfl | exact .inr rfl
          | 3, ht => simp at ht; subst ht; first | exact .inl rfl | exact .inr rfl
          | 4, ht => simp at ht; subst ht; first | exact .inl rfl | exact .inr rfl
          | 5, ht => simp at ht; subst ht; first | exact .inl rfl | exact .inr rfl
          | j + 6, ht => simp at ht
        rcases h3 with rfl | rfl
        · exact (show Tryd.prog.wantsStandIn 3 = false by kernel_rfl)
        · exact (show Tryd.prog.wantsStandIn 27 = false by kernel_rfl)⟩)
    (by kernel_rfl)
#print axioms addrNext_card_holds

end Go.Proofs.YtfnacgojmdbjmaaDoor
