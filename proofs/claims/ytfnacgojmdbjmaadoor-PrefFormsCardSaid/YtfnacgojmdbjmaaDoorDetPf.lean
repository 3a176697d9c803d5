/- PrefForms: at every start, whatever the number, the call returns true; the conditions: the tables that the row lists read as the program lays them. -/
import Derived.Test.YtfnacgojmdbjmaaDoorDetAddr
namespace Go.Proofs.YtfnacgojmdbjmaaDoor
open Go.ChangeShapes Go.WideShapes Go.ChangeAt Go.RowKit Go.Det
set_option maxRecDepth 100000

/-! what the laws of prefixes wake -/
theorem wakeP_run (t0 t2 t5 : TypeId) : isTrue (callD Tryd.prog (mkIntr maskA (extL extsA)) 1000 60 39 [] (birth (heapA t0 t2 t5) 64)) = true := by kernel_rfl
theorem wakeP_ok {W : World} {t0 t2 t5 : TypeId} (L : Laying 6 W (heapA t0 t2 t5)) (hs : 6 ≤ W.heap.size) (hW : Len W) : OwnOk Tryd.prog W 6 39 doneD :=
  done_ok (fn := Tryd.f39) (c := match Tryd.f39.body with | some c => c | none => .skip) L hs (by decide : 6 ≤ 64) dt_mixed okA extsA_tr (fun w h1 h2 => extsA_ok (hW.later h1 h2) 6) Tryd.func39 (by kernel_rfl) (by kernel_rfl) (wakeP_run t0 t2 t5)
noncomputable def extsP : List (Nat × Own) := (39, doneD) :: extsA
theorem extsP_tr : IntrTr (extL extsP) := by
  intro f g h
  unfold extsP extL at h
  split at h
  · cases h; exact doneD_tr
  · exact extsA_tr f g h
theorem extsP_ok {W : World} {t0 t2 t5 : TypeId} (L : Laying 6 W (heapA t0 t2 t5)) (hs : 6 ≤ W.heap.size) (hW : Len W) : IntrOk Tryd.prog W 6 (extL extsP) := by
  intro f g h
  unfold extsP extL at h
  split at h
  · rename_i hb
    cases h
    rw [← Nat.eq_of_beq_eq_true hb]
    exact wakeP_ok L hs hW
  · exact extsA_ok hW 6 f g h
noncomputable def maskP : Nat := 10339592115925849834004368309878783
theorem okP : (Nat.ble (maskP + 1) (Nat.shiftLeft 1 113) && okMask Tryd.prog 6 maskP 113) = true := by kernel_rfl


theorem pf_run0 (t0 t2 t5 : TypeId) : isTrue (callD Tryd.prog (mkIntr maskP (extL extsP)) 1000 60 11 [rowArg 17 0] (birth (heapA t0 t2 t5) 64)) = true := by kernel_rfl
theorem pf_run1 (t0 t2 t5 : TypeId) : isTrue (callD Tryd.prog (mkIntr maskP (extL extsP)) 1000 60 11 [rowArg 17 1] (birth (heapA t0 t2 t5) 64)) = true := by kernel_rfl
theorem pf_run2 (t0 t2 t5 : TypeId) : isTrue (callD Tryd.prog (mkIntr maskP (extL extsP)) 1000 60 11 [rowArg 17 2] (birth (heapA t0 t2 t5) 64)) = true := by kernel_rfl
theorem pf_run3 (t0 t2 t5 : TypeId) : isTrue (callD Tryd.prog (mkIntr maskP (extL extsP)) 1000 60 11 [rowArg 17 3] (birth (heapA t0 t2 t5) 64)) = true := by kernel_rfl
theorem pf_run4 (t0 t2 t5 : TypeId) : isTrue (callD Tryd.prog (mkIntr maskP (extL extsP)) 1000 60 11 [rowArg 17 4] (birth (heapA t0 t2 t5) 64)) = true := by kernel_rfl
theorem pf_run5 (t0 t2 t5 : TypeId) : isTrue (callD Tryd.prog (mkIntr maskP (extL extsP)) 1000 60 11 [rowArg 17 5] (birth (heapA t0 t2 t5) 64)) = true := by kernel_rfl
theorem pf_run6 (t0 t2 t5 : TypeId) : isTrue (callD Tryd.prog (mkIntr maskP (extL extsP)) 1000 60 11 [rowArg 17 6] (birth (heapA t0 t2 t5) 64)) = true := by kernel_rfl
theorem pf_run7 (t0 t2 t5 : TypeId) : isTrue (callD Tryd.prog (mkIntr maskP (extL extsP)) 1000 60 11 [rowArg 17 7] (birth (heapA t0 t2 t5) 64)) = true := by kernel_rfl
theorem pf_run8 (t0 t2 t5 : TypeId) : isTrue (callD Tryd.prog (mkIntr maskP (extL extsP)) 1000 60 11 [rowArg 17 8] (birth (heapA t0 t2 t5) 64)) = true := by kernel_rfl
theorem pf_run9 (t0 t2 t5 : TypeId) : isTrue (callD Tryd.prog (mkIntr maskP (extL extsP)) 1000 60 11 [rowArg 17 9] (birth (heapA t0 t2 t5) 64)) = true := by kernel_rfl
theorem pf_run10 (t0 t2 t5 : TypeId) : isTrue (callD Tryd.prog (mkIntr maskP (extL extsP)) 1000 60 11 [rowArg 17 10] (birth (heapA t0 t2 t5) 64)) = true := by kernel_rfl
theorem pf_run11 (t0 t2 t5 : TypeId) : isTrue (callD Tryd.prog (mkIntr maskP (extL extsP)) 1000 60 11 [rowArg 17 11] (birth (heapA t0 t2 t5) 64)) = true := by kernel_rfl
theorem pf_run12 (t0 t2 t5 : TypeId) : isTrue (callD Tryd.prog (mkIntr maskP (extL extsP)) 1000 60 11 [rowArg 17 12] (birth (heapA t0 t2 t5) 64)) = true := by kernel_rfl
theorem pf_run13 (t0 t2 t5 : TypeId) : isTrue (callD Tryd.prog (mkIntr maskP (extL extsP)) 1000 60 11 [rowArg 17 13] (birth (heapA t0 t2 t5) 64)) = true := by kernel_rfl
theorem pf_run14 (t0 t2 t5 : TypeId) : isTrue (callD Tryd.prog (mkIntr maskP (extL extsP)) 1000 60 11 [rowArg 17 14] (birth (heapA t0 t2 t5) 64)) = true := by kernel_rfl
theorem pf_run15 (t0 t2 t5 : TypeId) : isTrue (callD Tryd.prog (mkIntr maskP (extL extsP)) 1000 60 11 [rowArg 17 15] (birth (heapA t0 t2 t5) 64)) = true := by kernel_rfl
theorem pf_run16 (t0 t2 t5 : TypeId) : isTrue (callD Tryd.prog (mkIntr maskP (extL extsP)) 1000 60 11 [rowArg 17 16] (birth (heapA t0 t2 t5) 64)) = true := by kernel_rfl

theorem pf_runs (t0 t2 t5 : TypeId) (k : Nat) (hk : k < 17) : isTrue (callD Tryd.prog (mkIntr maskP (extL extsP)) 1000 60 11 [rowArg 17 k] (birth (heapA t0 t2 t5) 64)) = true :=
  match k, hk with
  | 0, _ => pf_run0 t0 t2 t5
  | 1, _ => pf_run1 t0 t2 t5
  | 2, _ => pf_run2 t0 t2 t5
  | 3, _ => pf_run3 t0 t2 t5
  | 4, _ => pf_run4 t0 t2 t5
  | 5, _ => pf_run5 t0 t2 t5
  | 6, _ => pf_run6 t0 t2 t5
  | 7, _ => pf_run7 t0 t2 t5
  | 8, _ => pf_run8 t0 t2 t5
  | 9, _ => pf_run9 t0 t2 t5
  | 10, _ => pf_run10 t0 t2 t5
  | 11, _ => pf_run11 t0 t2 t5
  | 12, _ => pf_run12 t0 t2 t5
  | 13, _ => pf_run13 t0 t2 t5
  | 14, _ => pf_run14 t0 t2 t5
  | 15, _ => pf_run15 t0 t2 t5
  | 16, _ => pf_run16 t0 t2 t5
  | k + 17, hk => absurd hk (by omega)

theorem pf_name : (Tryd.f11.name == "runtime.NumGoroutine") = false := by kernel_rfl
noncomputable def pf_code : Code := match Tryd.f11.body with | some c => c | none => .skip
theorem pf_body : Tryd.f11.body = some pf_code := by kernel_rfl

theorem pf_calls (n : Int) {W : World} {t0 t2 t5 : TypeId} (L : Laying 6 W (heapA t0 t2 t5)) (hs : 6 ≤ W.heap.size) (hW : Len W) : Calls Tryd.prog 11 #[.int .i64 n] W fun e W' => e = .returned (.bool true) ∧ Kept W W' := by
  obtain ⟨k, hk, hm⟩ := mark_split (m := 17) (by decide) (by decide) n
  exact run_true (args := [rowArg 17 k]) dt_mixed okP extsP_tr (extsP_ok L hs hW) Tryd.func11 pf_body pf_name L.hr (glob_glob 6 W) (VRL.cons (.mark _ _ hm) (VRL.nil _))
    (glob_top 6 W (by decide)) (fun id h => L.top id (Nat.le_trans (by decide) h)) (pf_runs t0 t2 t5 k hk)

theorem pf_lifted (os : Os) (started : os.Started) (H : Type) (enc : TypeId × Value → H) :
    ReturnsInHanded {} Tryd.checked os 11 .any (fun w args => (Rows.prefFormsSpec.pre enc Tryd.prog Tryd.f11 [] false w args ∧ laidMetH Tryd.prog Rows.prefFormsRow.laid w) ∧ sizedMet enc Tryd.prog Tryd.f11 (OpenSpec.ofChange Rows.prefFormsSpec) false w args)
      (Rows.prefFormsSpec.post enc Tryd.prog Tryd.f11 false true false false) := by
  refine wrap_shaped (C := Tryd.checked) (X := fun w _ => laidMetH Tryd.prog Rows.prefFormsRow.laid w) (fun _ _ _ hh h => h.of_heap hh) dt_own started (by kernel_rfl) Tryd.func11
    (ChangeSpec.witness_shaped (enc := enc) (C := Tryd.checked) (os := os) (X := fun w _ => laidMetH Tryd.prog Rows.prefFormsRow.laid w) false (World.laidAll Tryd.prog os laidA) #[.int .i64 0] 8 (World.laidAll_os _ _ _) (World.shaped_of_ZipB (by kernel_rfl) (by kernel_rfl)) (by kernel_rfl) (by kernel_rfl) (by kernel_rfl) (door_metA os _)) ?_
  intro W base args ds gs before hval0 hW hL hsh
  obtain ⟨t0, t2, t5, L, hs⟩ := laidA_at hL
  have hval : ∀ (j : Nat) t v, Tryd.f11.params[j]? = some t → args[j]? = some v → Value.okWide Tryd.prog W .any base t v := hval0
  have hW' := hW
  obtain ⟨p, q, hA0, hV, rfl, hfz, hnd⟩ := hW
  have hA : DataW.TrodAll enc Tryd.prog W 0 (fun _ => true) true Tryd.f11.params.toList args.toList ds p := hA0
  rw [Tryd.params11] at hA hval
  obtain ⟨v0, d0, rfl, rfl, h0⟩ := trodAll_one hA
  obtain ⟨rfl, rfl⟩ := trodVars_none hV
  obtain ⟨n, rfl, rfl, rfl, wn⟩ := open_int Tryd.underlying3 (hval 0 3 v0 rfl rfl) h0
  refine (pf_calls n L hs (Len.of_shape hsh hs)).mono fun e W' ⟨he, hw⟩ => ?_
  subst he
  exact ⟨_, rfl, _, _, _, [], [], [], hW', trodAll_mk1 (shut_bool Tryd.underlying4 true), trodAll_mk1 (shut_int Tryd.underlying3 wn), rfl, hw.but _, fun h => by cases h⟩

theorem prefForms_holds : Rows.PrefFormsSaid :=
  OpenClaim.holds_of_wide 11 Tryd.f11 rfl rfl rfl rfl rfl rfl rfl ⟨rfl, rfl, rfl, rfl, rfl⟩ rfl rfl rfl rfl rfl (by kernel_rfl) Tryd.func11 (by kernel_rfl)
    (of_decide_eq_true (by kernel_rfl)) (by unfold Func.isWrapper; first | (rw [if_pos (by decide +kernel)]; kernel_rfl) | (rw [if_neg (by decide +kernel)]; exact ⟨rfl, rfl⟩))
    (fun os started H enc _ => pf_lifted os started H enc)

theorem prefForms_card_holds : Rows.PrefFormsCardSaid :=
  Claim7.holds_tied_plain_at .later [] [.data, .data, .data, .data, .pinned] true (true, "f4485812763653ffca44ca5064ea510697a50d409c0e67ea003c933eb6baadb5") false
    prefForms_holds (fun _ h => by cases h) (by kernel_rfl) (fun _ h => by cases h) prefForms_row_tie rfl ⟨rfl, rfl⟩ (by kernel_rfl) rfl
    (fun f fn hf hfn => by
      obtain rfl : f = 11 := Option.some.inj ((show Tryd.prog.funcNamed "glebe/glebelaw3.PrefForms" = some 11 by kernel_rfl).symm.trans hf) |>.symm
      obtain rfl : fn = Tryd.f11 := (Option.some.inj (Tryd.func11.symm.trans hfn)).symm
      exact ⟨by kernel_rfl, fun j t ht => by
        rw [Tryd.params11] at ht
        have h3 : t = 3 := by
          rcases j with _ | j
          · simpa using ht.symm
          · simp at ht
        subst h3
        exact (show Tryd.prog.wantsStandIn 3 = false by kernel_rfl)⟩)
    (by kernel_rfl)
#print axioms prefForms_card_holds
end Go.Proofs.YtfnacgojmdbjmaaDoor
