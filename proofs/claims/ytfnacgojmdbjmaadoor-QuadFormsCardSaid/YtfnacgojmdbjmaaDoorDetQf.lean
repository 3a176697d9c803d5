/- QuadForms: at every start, whatever the number, the call returns true; the conditions: the one table that the row lists reads as the program lays it. -/
import Derived.Test.YtfnacgojmdbjmaaDoorDetDoor
namespace Go.Proofs.YtfnacgojmdbjmaaDoor
open Go.ChangeShapes Go.WideShapes Go.ChangeAt Go.RowKit Go.Det
set_option maxRecDepth 100000

theorem e48 : Entry Tryd.prog 48 add64Entry := Entry.mk (fn := Tryd.f48) Tryd.func48 (by kernel_rfl) (by kernel_rfl) (by kernel_rfl) (by kernel_rfl)
theorem e49 : Entry Tryd.prog 49 sub64Entry := Entry.mk (fn := Tryd.f49) Tryd.func49 (by kernel_rfl) (by kernel_rfl) (by kernel_rfl) (by kernel_rfl)
noncomputable def quadExts : List (Nat × Own) := [(48, pureD addH), (49, pureD subH)]
theorem quad_tr : IntrTr (extL quadExts) := extL_tr fun x hx => by
  simp only [quadExts, List.mem_cons, List.not_mem_nil, or_false] at hx
  rcases hx with rfl | rfl
  · exact pureD_tr _
  · exact pureD_tr _
theorem quad_ok (W : World) (G : Nat) : IntrOk Tryd.prog W G (extL quadExts) := extL_ok fun x hx => by
  simp only [quadExts, List.mem_cons, List.not_mem_nil, or_false] at hx
  rcases hx with rfl | rfl
  · exact add64_ok e48
  · exact sub64_ok e49
noncomputable def quadMask : Nat := 1266637428719632
theorem q_ok : (Nat.ble (quadMask + 1) (Nat.shiftLeft 1 52) && okMask Tryd.prog 1 quadMask 52) = true := by kernel_rfl

theorem qf_name : (Tryd.f4.name == "runtime.NumGoroutine") = false := by kernel_rfl
theorem qf_run (t : TypeId) : allBelow (fun k => isTrue (callD Tryd.prog (mkIntr quadMask (extL quadExts)) 1000 20 4 [rowArg 9 k] (birth (heap1 t) 64))) 9 = true := by kernel_rfl
noncomputable def qf_code : Code := match Tryd.f4.body with | some c => c | none => .skip
theorem qf_body : Tryd.f4.body = some qf_code := by kernel_rfl

theorem qf_calls (n : Int) {W : World} {t : TypeId} (L : Laying 1 W (heap1 t)) : Calls Tryd.prog 4 #[.int .i64 n] W fun e W' => e = .returned (.bool true) ∧ Kept W W' := by
  obtain ⟨k, hk, hm⟩ := mark_split (m := 9) (by decide) (by decide) n
  exact run_true (args := [rowArg 9 k]) dt_mixed q_ok quad_tr (quad_ok W 1) Tryd.func4 qf_body qf_name L.hr (glob_glob 1 W) (VRL.cons (.mark _ _ hm) (VRL.nil _))
    (glob_top 1 W (by decide)) (fun id h => L.top id (Nat.le_trans (by decide) h)) (allBelow_at (qf_run t) k hk)

theorem qf_lifted (os : Os) (started : os.Started) (H : Type) (enc : TypeId × Value → H) :
    ReturnsInHanded {} Tryd.checked os 4 .any (fun w args => (Rows.quadFormsSpec.pre enc Tryd.prog Tryd.f4 [] false w args ∧ laidMetH Tryd.prog Rows.quadFormsRow.laid w) ∧ sizedMet enc Tryd.prog Tryd.f4 (OpenSpec.ofChange Rows.quadFormsSpec) false w args)
      (Rows.quadFormsSpec.post enc Tryd.prog Tryd.f4 false true false false) := by
  refine returnsInHanded_of_change_and (C := Tryd.checked) (X := fun w _ => laidMetH Tryd.prog Rows.quadFormsRow.laid w) (fun _ _ _ hh h => h.of_heap hh) dt_own started (by kernel_rfl) Tryd.func4
    (ChangeSpec.witness_shaped (enc := enc) (C := Tryd.checked) (os := os) (X := fun w _ => laidMetH Tryd.prog Rows.quadFormsRow.laid w) false (World.doorLaid Tryd.prog 400 os) #[.int .i64 0] 8 rfl (World.shaped_of_RefB (by kernel_rfl) (by kernel_rfl)) (by kernel_rfl) (by kernel_rfl) (by kernel_rfl) (door_met1 os _)) ?_
  intro W base args ds gs before hval0 hW _ _ hL _
  obtain ⟨t, L⟩ := laid1 hL
  have hval : ∀ (j : Nat) t v, Tryd.f4.params[j]? = some t → args[j]? = some v → Value.okWide Tryd.prog W .any base t v := hval0
  have hW' := hW
  obtain ⟨p, q, hA0, hV, rfl, hfz, hnd⟩ := hW
  have hA : DataW.TrodAll enc Tryd.prog W 0 (fun _ => true) true Tryd.f4.params.toList args.toList ds p := hA0
  rw [Tryd.params4] at hA hval
  obtain ⟨v0, d0, rfl, rfl, h0⟩ := trodAll_one hA
  obtain ⟨rfl, rfl⟩ := trodVars_none hV
  obtain ⟨n, rfl, rfl, rfl, wn⟩ := open_int Tryd.underlying3 (hval 0 3 v0 rfl rfl) h0
  refine (qf_calls n L).mono fun e W' ⟨he, hw⟩ => ?_
  subst he
  exact ⟨_, rfl, _, _, _, [], [], [], hW', trodAll_mk1 (shut_bool Tryd.underlying4 true), trodAll_mk1 (shut_int Tryd.underlying3 wn), rfl, hw.but _, fun h => by cases h⟩

theorem quadForms_holds : Rows.QuadFormsSaid :=
  OpenClaim.holds_of_wide 4 Tryd.f4 rfl rfl rfl rfl rfl rfl rfl ⟨rfl, rfl, rfl, rfl, rfl⟩ rfl rfl rfl rfl rfl (by kernel_rfl) Tryd.func4 (by kernel_rfl)
    (of_decide_eq_true (by kernel_rfl)) (by unfold Func.isWrapper; first | (rw [if_pos (by decide +kernel)]; kernel_rfl) | (rw [if_neg (by decide +kernel)]; exact ⟨rfl, rfl⟩))
    (fun os started H enc _ => qf_lifted os started H enc)

theorem quadForms_card_holds : Rows.QuadFormsCardSaid :=
  Claim7.holds_tied_plain_at .later [] [.data] true (true, "f4485812763653ffca44ca5064ea510697a50d409c0e67ea003c933eb6baadb5") false
    quadForms_holds (fun _ h => by cases h) (by kernel_rfl) (fun _ h => by cases h) quadForms_row_tie rfl ⟨rfl, rfl⟩ (by kernel_rfl) rfl
    (fun f fn hf hfn => by
      obtain rfl : f = 4 := Option.some.inj ((show Tryd.prog.funcNamed "glebe/glebelaw1.QuadForms" = some 4 by kernel_rfl).symm.trans hf) |>.symm
      obtain rfl : fn = Tryd.f4 := (Option.some.inj (Tryd.func4.symm.trans hfn)).symm
      exact ⟨by kernel_rfl, fun j t ht => by
        rw [Tryd.params4] at ht
        have h3 : t = 3 := by
          rcases j with _ | j
          · simpa using ht.symm
          · simp at ht
        subst h3
        exact (show Tryd.prog.wantsStandIn 3 = false by kernel_rfl)⟩)
    (by kernel_rfl)
#print axioms quadForms_card_holds
end Go.Proofs.YtfnacgojmdbjmaaDoor
