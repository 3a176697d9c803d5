/- AddrForms: at every start, whatever the number, the call returns true; the conditions: the tables that the row lists read as the program lays them. -/
import Derived.Test.YtfnacgojmdbjmaaDoorDetAddr
namespace Go.Proofs.YtfnacgojmdbjmaaDoor
open Go.ChangeShapes Go.WideShapes Go.ChangeAt Go.RowKit Go.Det
set_option maxRecDepth 100000

theorem af_run0 (t0 t2 t5 : TypeId) : isTrue (callD Tryd.prog (mkIntr maskB (extL extsB)) 1000 60 8 [rowArg 33 0] (birth (heapA t0 t2 t5) 64)) = true := by kernel_rfl
theorem af_run1 (t0 t2 t5 : TypeId) : isTrue (callD Tryd.prog (mkIntr maskB (extL extsB)) 1000 60 8 [rowArg 33 1] (birth (heapA t0 t2 t5) 64)) = true := by kernel_rfl
theorem af_run2 (t0 t2 t5 : TypeId) : isTrue (callD Tryd.prog (mkIntr maskB (extL extsB)) 1000 60 8 [rowArg 33 2] (birth (heapA t0 t2 t5) 64)) = true := by kernel_rfl
theorem af_run3 (t0 t2 t5 : TypeId) : isTrue (callD Tryd.prog (mkIntr maskB (extL extsB)) 1000 60 8 [rowArg 33 3] (birth (heapA t0 t2 t5) 64)) = true := by kernel_rfl
theorem af_run4 (t0 t2 t5 : TypeId) : isTrue (callD Tryd.prog (mkIntr maskB (extL extsB)) 1000 60 8 [rowArg 33 4] (birth (heapA t0 t2 t5) 64)) = true := by kernel_rfl
theorem af_run5 (t0 t2 t5 : TypeId) : isTrue (callD Tryd.prog (mkIntr maskB (extL extsB)) 1000 60 8 [rowArg 33 5] (birth (heapA t0 t2 t5) 64)) = true := by kernel_rfl
theorem af_run6 (t0 t2 t5 : TypeId) : isTrue (callD Tryd.prog (mkIntr maskB (extL extsB)) 1000 60 8 [rowArg 33 6] (birth (heapA t0 t2 t5) 64)) = true := by kernel_rfl
theorem af_run7 (t0 t2 t5 : TypeId) : isTrue (callD Tryd.prog (mkIntr maskB (extL extsB)) 1000 60 8 [rowArg 33 7] (birth (heapA t0 t2 t5) 64)) = true := by kernel_rfl
theorem af_run8 (t0 t2 t5 : TypeId) : isTrue (callD Tryd.prog (mkIntr maskB (extL extsB)) 1000 60 8 [rowArg 33 8] (birth (heapA t0 t2 t5) 64)) = true := by kernel_rfl
theorem af_run9 (t0 t2 t5 : TypeId) : isTrue (callD Tryd.prog (mkIntr maskB (extL extsB)) 1000 60 8 [rowArg 33 9] (birth (heapA t0 t2 t5) 64)) = true := by kernel_rfl
theorem af_run10 (t0 t2 t5 : TypeId) : isTrue (callD Tryd.prog (mkIntr maskB (extL extsB)) 1000 60 8 [rowArg 33 10] (birth (heapA t0 t2 t5) 64)) = true := by kernel_rfl
theorem af_run11 (t0 t2 t5 : TypeId) : isTrue (callD Tryd.prog (mkIntr maskB (extL extsB)) 1000 60 8 [rowArg 33 11] (birth (heapA t0 t2 t5) 64)) = true := by kernel_rfl
theorem af_run12 (t0 t2 t5 : TypeId) : isTrue (callD Tryd.prog (mkIntr maskB (extL extsB)) 1000 60 8 [rowArg 33 12] (birth (heapA t0 t2 t5) 64)) = true := by kernel_rfl
theorem af_run13 (t0 t2 t5 : TypeId) : isTrue (callD Tryd.prog (mkIntr maskB (extL extsB)) 1000 60 8 [rowArg 33 13] (birth (heapA t0 t2 t5) 64)) = true := by kernel_rfl
theorem af_run14 (t0 t2 t5 : TypeId) : isTrue (callD Tryd.prog (mkIntr maskB (extL extsB)) 1000 60 8 [rowArg 33 14] (birth (heapA t0 t2 t5) 64)) = true := by kernel_rfl
theorem af_run15 (t0 t2 t5 : TypeId) : isTrue (callD Tryd.prog (mkIntr maskB (extL extsB)) 1000 60 8 [rowArg 33 15] (birth (heapA t0 t2 t5) 64)) = true := by kernel_rfl
theorem af_run16 (t0 t2 t5 : TypeId) : isTrue (callD Tryd.prog (mkIntr maskB (extL extsB)) 1000 60 8 [rowArg 33 16] (birth (heapA t0 t2 t5) 64)) = true := by kernel_rfl
theorem af_run17 (t0 t2 t5 : TypeId) : isTrue (callD Tryd.prog (mkIntr maskB (extL extsB)) 1000 60 8 [rowArg 33 17] (birth (heapA t0 t2 t5) 64)) = true := by kernel_rfl
theorem af_run18 (t0 t2 t5 : TypeId) : isTrue (callD Tryd.prog (mkIntr maskB (extL extsB)) 1000 60 8 [rowArg 33 18] (birth (heapA t0 t2 t5) 64)) = true := by kernel_rfl
theorem af_run19 (t0 t2 t5 : TypeId) : isTrue (callD Tryd.prog (mkIntr maskB (extL extsB)) 1000 60 8 [rowArg 33 19] (birth (heapA t0 t2 t5) 64)) = true := by kernel_rfl
theorem af_run20 (t0 t2 t5 : TypeId) : isTrue (callD Tryd.prog (mkIntr maskB (extL extsB)) 1000 60 8 [rowArg 33 20] (birth (heapA t0 t2 t5) 64)) = true := by kernel_rfl
theorem af_run21 (t0 t2 t5 : TypeId) : isTrue (callD Tryd.prog (mkIntr maskB (extL extsB)) 1000 60 8 [rowArg 33 21] (birth (heapA t0 t2 t5) 64)) = true := by kernel_rfl
theorem af_run22 (t0 t2 t5 : TypeId) : isTrue (callD Tryd.prog (mkIntr maskB (extL extsB)) 1000 60 8 [rowArg 33 22] (birth (heapA t0 t2 t5) 64)) = true := by kernel_rfl
theorem af_run23 (t0 t2 t5 : TypeId) : isTrue (callD Tryd.prog (mkIntr maskB (extL extsB)) 1000 60 8 [rowArg 33 23] (birth (heapA t0 t2 t5) 64)) = true := by kernel_rfl
theorem af_run24 (t0 t2 t5 : TypeId) : isTrue (callD Tryd.prog (mkIntr maskB (extL extsB)) 1000 60 8 [rowArg 33 24] (birth (heapA t0 t2 t5) 64)) = true := by kernel_rfl
theorem af_run25 (t0 t2 t5 : TypeId) : isTrue (callD Tryd.prog (mkIntr maskB (extL extsB)) 1000 60 8 [rowArg 33 25] (birth (heapA t0 t2 t5) 64)) = true := by kernel_rfl
theorem af_run26 (t0 t2 t5 : TypeId) : isTrue (callD Tryd.prog (mkIntr maskB (extL extsB)) 1000 60 8 [rowArg 33 26] (birth (heapA t0 t2 t5) 64)) = true := by kernel_rfl
theorem af_run27 (t0 t2 t5 : TypeId) : isTrue (callD Tryd.prog (mkIntr maskB (extL extsB)) 1000 60 8 [rowArg 33 27] (birth (heapA t0 t2 t5) 64)) = true := by kernel_rfl
theorem af_run28 (t0 t2 t5 : TypeId) : isTrue (callD Tryd.prog (mkIntr maskB (extL extsB)) 1000 60 8 [rowArg 33 28] (birth (heapA t0 t2 t5) 64)) = true := by kernel_rfl
theorem af_run29 (t0 t2 t5 : TypeId) : isTrue (callD Tryd.prog (mkIntr maskB (extL extsB)) 1000 60 8 [rowArg 33 29] (birth (heapA t0 t2 t5) 64)) = true := by kernel_rfl
theorem af_run30 (t0 t2 t5 : TypeId) : isTrue (callD Tryd.prog (mkIntr maskB (extL extsB)) 1000 60 8 [rowArg 33 30] (birth (heapA t0 t2 t5) 64)) = true := by kernel_rfl
theorem af_run31 (t0 t2 t5 : TypeId) : isTrue (callD Tryd.prog (mkIntr maskB (extL extsB)) 1000 60 8 [rowArg 33 31] (birth (heapA t0 t2 t5) 64)) = true := by kernel_rfl
theorem af_run32 (t0 t2 t5 : TypeId) : isTrue (callD Tryd.prog (mkIntr maskB (extL extsB)) 1000 60 8 [rowArg 33 32] (birth (heapA t0 t2 t5) 64)) = true := by kernel_rfl

theorem af_runs (t0 t2 t5 : TypeId) (k : Nat) (hk : k < 33) : isTrue (callD Tryd.prog (mkIntr maskB (extL extsB)) 1000 60 8 [rowArg 33 k] (birth (heapA t0 t2 t5) 64)) = true :=
  match k, hk with
  | 0, _ => af_run0 t0 t2 t5
  | 1, _ => af_run1 t0 t2 t5
  | 2, _ => af_run2 t0 t2 t5
  | 3, _ => af_run3 t0 t2 t5
  | 4, _ => af_run4 t0 t2 t5
  | 5, _ => af_run5 t0 t2 t5
  | 6, _ => af_run6 t0 t2 t5
  | 7, _ => af_run7 t0 t2 t5
  | 8, _ => af_run8 t0 t2 t5
  | 9, _ => af_run9 t0 t2 t5
  | 10, _ => af_run10 t0 t2 t5
  | 11, _ => af_run11 t0 t2 t5
  | 12, _ => af_run12 t0 t2 t5
  | 13, _ => af_run13 t0 t2 t5
  | 14, _ => af_run14 t0 t2 t5
  | 15, _ => af_run15 t0 t2 t5
  | 16, _ => af_run16 t0 t2 t5
  | 17, _ => af_run17 t0 t2 t5
  | 18, _ => af_run18 t0 t2 t5
  | 19, _ => af_run19 t0 t2 t5
  | 20, _ => af_run20 t0 t2 t5
  | 21, _ => af_run21 t0 t2 t5
  | 22, _ => af_run22 t0 t2 t5
  | 23, _ => af_run23 t0 t2 t5
  | 24, _ => af_run24 t0 t2 t5
  | 25, _ => af_run25 t0 t2 t5
  | 26, _ => af_run26 t0 t2 t5
  | 27, _ => af_run27 t0 t2 t5
  | 28, _ => af_run28 t0 t2 t5
  | 29, _ => af_run29 t0 t2 t5
  | 30, _ => af_run30 t0 t2 t5
  | 31, _ => af_run31 t0 t2 t5
  | 32, _ => af_run32 t0 t2 t5
  | k + 33, hk => absurd hk (by omega)

theorem af_name : (Tryd.f8.name == "runtime.NumGoroutine") = false := by kernel_rfl
noncomputable def af_code : Code := match Tryd.f8.body with | some c => c | none => .skip
theorem af_body : Tryd.f8.body = some af_code := by kernel_rfl

theorem af_calls (n : Int) {W : World} {t0 t2 t5 : TypeId} (L : Laying 6 W (heapA t0 t2 t5)) (hs : 6 ≤ W.heap.size) (hW : Len W) : Calls Tryd.prog 8 #[.int .i64 n] W fun e W' => e = .returned (.bool true) ∧ Kept W W' := by
  obtain ⟨k, hk, hm⟩ := mark_split (m := 33) (by decide) (by decide) n
  exact run_true (args := [rowArg 33 k]) dt_mixed okB extsB_tr (extsB_ok L hs hW) Tryd.func8 af_body af_name L.hr (glob_glob 6 W) (VRL.cons (.mark _ _ hm) (VRL.nil _))
    (glob_top 6 W (by decide)) (fun id h => L.top id (Nat.le_trans (by decide) h)) (af_runs t0 t2 t5 k hk)

theorem af_lifted (os : Os) (started : os.Started) (H : Type) (enc : TypeId × Value → H) :
    ReturnsInHanded {} Tryd.checked os 8 .any (fun w args => (Rows.addrFormsSpec.pre enc Tryd.prog Tryd.f8 [] false w args ∧ laidMetH Tryd.prog Rows.addrFormsRow.laid w) ∧ sizedMet enc Tryd.prog Tryd.f8 (OpenSpec.ofChange Rows.addrFormsSpec) false w args)
      (Rows.addrFormsSpec.post enc Tryd.prog Tryd.f8 false true false false) := by
  refine wrap_shaped (C := Tryd.checked) (X := fun w _ => laidMetH Tryd.prog Rows.addrFormsRow.laid w) (fun _ _ _ hh h => h.of_heap hh) dt_own started (by kernel_rfl) Tryd.func8
    (ChangeSpec.witness_shaped (enc := enc) (C := Tryd.checked) (os := os) (X := fun w _ => laidMetH Tryd.prog Rows.addrFormsRow.laid w) false (World.laidAll Tryd.prog os laidA) #[.int .i64 0] 8 (World.laidAll_os _ _ _) (World.shaped_of_ZipB (by kernel_rfl) (by kernel_rfl)) (by kernel_rfl) (by kernel_rfl) (by kernel_rfl) (door_metA os _)) ?_
  intro W base args ds gs before hval0 hW hL hsh
  obtain ⟨t0, t2, t5, L, hs⟩ := laidA_at hL
  have hval : ∀ (j : Nat) t v, Tryd.f8.params[j]? = some t → args[j]? = some v → Value.okWide Tryd.prog W .any base t v := hval0
  have hW' := hW
  obtain ⟨p, q, hA0, hV, rfl, hfz, hnd⟩ := hW
  have hA : DataW.TrodAll enc Tryd.prog W 0 (fun _ => true) true Tryd.f8.params.toList args.toList ds p := hA0
  rw [Tryd.params8] at hA hval
  obtain ⟨v0, d0, rfl, rfl, h0⟩ := trodAll_one hA
  obtain ⟨rfl, rfl⟩ := trodVars_none hV
  obtain ⟨n, rfl, rfl, rfl, wn⟩ := open_int Tryd.underlying3 (hval 0 3 v0 rfl rfl) h0
  refine (af_calls n L hs (Len.of_shape hsh hs)).mono fun e W' ⟨he, hw⟩ => ?_
  subst he
  exact ⟨_, rfl, _, _, _, [], [], [], hW', trodAll_mk1 (shut_bool Tryd.underlying4 true), trodAll_mk1 (shut_int Tryd.underlying3 wn), rfl, hw.but _, fun h => by cases h⟩

theorem addrForms_holds : Rows.AddrFormsSaid :=
  OpenClaim.holds_of_wide 8 Tryd.f8 rfl rfl rfl rfl rfl rfl rfl ⟨rfl, rfl, rfl, rfl, rfl⟩ rfl rfl rfl rfl rfl (by kernel_rfl) Tryd.func8 (by kernel_rfl)
    (of_decide_eq_true (by kernel_rfl)) (by unfold Func.isWrapper; first | (rw [if_pos (by decide +kernel)]; kernel_rfl) | (rw [if_neg (by decide +kernel)]; exact ⟨rfl, rfl⟩))
    (fun os started H enc _ => af_lifted os started H enc)

theorem addrForms_card_holds : Rows.AddrFormsCardSaid :=
  Claim7.holds_tied_plain_at .later [] [.data, .data, .data, .data, .pinned] true (true, "f4485812763653ffca44ca5064ea510697a50d409c0e67ea003c933eb6baadb5") false
    addrForms_holds (fun _ h => by cases h) (by kernel_rfl) (fun _ h => by cases h) addrForms_row_tie rfl ⟨rfl, rfl⟩ (by kernel_rfl) rfl
    (fun f fn hf hfn => by
      obtain rfl : f = 8 := Option.some.inj ((show Tryd.prog.funcNamed "glebe/glebelaw2.AddrForms" = some 8 by kernel_rfl).symm.trans hf) |>.symm
      obtain rfl : fn = Tryd.f8 := (Option.some.inj (Tryd.func8.symm.trans hfn)).symm
      exact ⟨by kernel_rfl, fun j t ht => by
        rw [Tryd.params8] at ht
        have h3 : t = 3 := by
          rcases j with _ | j
          · simpa using ht.symm
          · simp at ht
        subst h3
        exact (show Tryd.prog.wantsStandIn 3 = false by kernel_rfl)⟩)
    (by kernel_rfl)
#print axioms addrForms_card_holds
end Go.Proofs.YtfnacgojmdbjmaaDoor
