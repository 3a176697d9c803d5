/- The contracts of the functions of 128 bits, at every world. -/
import Derived.Test.YtfnacgojmdbjmaaDoorPj15
import Derived.Lib.SmallJoins
namespace Go.Proofs.YtfnacgojmdbjmaaDoor
open Go.ChangeShapes Go.WideShapes Go.ChangeAt Go.RowKit Go.Det
set_option maxRecDepth 100000

noncomputable def qExts : List (Nat × Own) := [(48, pureD addH), (49, pureD subH)]
theorem qx_tr : IntrTr (extL qExts) := extL_tr fun x hx => by
  simp only [qExts, List.mem_cons, List.not_mem_nil, or_false] at hx
  rcases hx with rfl | rfl
  · exact pureD_tr _
  · exact pureD_tr _
theorem qx_ok (W : World) (G : Nat) : IntrOk Tryd.prog W G (extL qExts) := extL_ok fun x hx => by
  simp only [qExts, List.mem_cons, List.not_mem_nil, or_false] at hx
  rcases hx with rfl | rfl
  · exact add64_ok qe48
  · exact sub64_ok qe49
noncomputable def qMask : Nat := 1266637428719632
theorem qx_mask : (Nat.ble (qMask + 1) (Nat.shiftLeft 1 52) && okMask Tryd.prog 1 qMask 52) = true := by kernel_rfl

theorem o48 (W : World) : OwnAll Tryd.prog W 1 48 con48.own := ⟨pureD_tr _, fun _ _ => add64_ok qe48⟩
theorem o49 (W : World) : OwnAll Tryd.prog W 1 49 con49.own := ⟨pureD_tr _, fun _ _ => sub64_ok qe49⟩
theorem own0 {W : World} : OwnsAll Tryd.prog W 1 (extC []) := ownsAll_nil W 1
theorem ownL0 {W : World} : OwnsAll Tryd.prog W 1 (extC L0) := OwnsAll.con (o48 W) (OwnsAll.con (o49 W) (ownsAll_nil W 1))
theorem o22 {W : World} (hW : 1 ≤ W.heap.size) : OwnAll Tryd.prog W 1 22 conLess.own :=
  con_flat encQQ (Laying.empty hW) hW (by decide) dt_mixed own0 Tryd.func22 (fn := Tryd.f22) (c := bodyOf Tryd.f22) (by kernel_rfl) (by kernel_rfl) (fun _ _ h => decQQ_enc h) (fun a => ⟨rfl, rfl, (by kernel_rfl)⟩) w22
theorem ownL1 {W : World} (hW : 1 ≤ W.heap.size) : OwnsAll Tryd.prog W 1 (extC L1) := OwnsAll.con (o22 hW) ownL0
theorem o20 {W : World} (hW : 1 ≤ W.heap.size) : OwnAll Tryd.prog W 1 20 conAnd.own :=
  con_flat encQQ (Laying.empty hW) hW (by decide) dt_mixed own0 Tryd.func20 (fn := Tryd.f20) (c := bodyOf Tryd.f20) (by kernel_rfl) (by kernel_rfl) (fun _ _ h => decQQ_enc h) (fun a => ⟨rfl, rfl, (by kernel_rfl)⟩) w20
theorem o21 {W : World} (hW : 1 ≤ W.heap.size) : OwnAll Tryd.prog W 1 21 conOr.own :=
  con_flat encQQ (Laying.empty hW) hW (by decide) dt_mixed own0 Tryd.func21 (fn := Tryd.f21) (c := bodyOf Tryd.f21) (by kernel_rfl) (by kernel_rfl) (fun _ _ h => decQQ_enc h) (fun a => ⟨rfl, rfl, (by kernel_rfl)⟩) w21
theorem o24 {W : World} (hW : 1 ≤ W.heap.size) : OwnAll Tryd.prog W 1 24 conNot.own :=
  con_flat encQ (Laying.empty hW) hW (by decide) dt_mixed own0 Tryd.func24 (fn := Tryd.f24) (c := bodyOf Tryd.f24) (by kernel_rfl) (by kernel_rfl) (fun _ _ h => decQ_enc h) (fun a => ⟨rfl, rfl, (by kernel_rfl)⟩) w24
theorem o50 {W : World} (hW : 1 ≤ W.heap.size) : OwnAll Tryd.prog W 1 50 conHigh.own :=
  con_flat encI (Laying.empty hW) hW (by decide) dt_mixed own0 Tryd.func50 (fn := Tryd.f50) (c := bodyOf Tryd.f50) (by kernel_rfl) (by kernel_rfl) (fun _ _ h => decI_enc h) (fun a => ⟨rfl, rfl, (by kernel_rfl)⟩) w50
theorem ownL2 {W : World} (hW : 1 ≤ W.heap.size) : OwnsAll Tryd.prog W 1 (extC L2) := OwnsAll.con (o50 hW) (ownL1 hW)
theorem o19 {W : World} (hW : 1 ≤ W.heap.size) : OwnAll Tryd.prog W 1 19 conMask.own :=
  con_flat encI (Laying.empty hW) hW (by decide) dt_mixed (ownL2 hW) Tryd.func19 (fn := Tryd.f19) (c := bodyOf Tryd.f19) (by kernel_rfl) (by kernel_rfl) (fun _ _ h => decI_enc h) (fun a => ⟨rfl, rfl, (by kernel_rfl)⟩) w19
theorem o23 {W : World} (hW : 1 ≤ W.heap.size) : OwnAll Tryd.prog W 1 23 conBit.own :=
  con_flat encI (Laying.empty hW) hW (by decide) dt_mixed own0 Tryd.func23 (fn := Tryd.f23) (c := bodyOf Tryd.f23) (by kernel_rfl) (by kernel_rfl) (fun _ _ h => decI_enc h) (fun a => ⟨rfl, rfl, (by kernel_rfl)⟩) w23
theorem o16 {W : World} (hW : 1 ≤ W.heap.size) : OwnAll Tryd.prog W 1 16 conAdd.own :=
  con_flat encQQ (Laying.empty hW) hW (by decide) dt_mixed ownL0 Tryd.func16 (fn := Tryd.f16) (c := bodyOf Tryd.f16) (by kernel_rfl) (by kernel_rfl) (fun _ _ h => decQQ_enc h) (fun a => ⟨rfl, rfl, (by kernel_rfl)⟩) w16
theorem o17 {W : World} (hW : 1 ≤ W.heap.size) : OwnAll Tryd.prog W 1 17 conSub.own :=
  con_flat encQQ (Laying.empty hW) hW (by decide) dt_mixed (ownL1 hW) Tryd.func17 (fn := Tryd.f17) (c := bodyOf Tryd.f17) (by kernel_rfl) (by kernel_rfl) (fun _ _ h => decQQ_enc h) (fun a => ⟨rfl, rfl, (by kernel_rfl)⟩) w17

/-! what is waked, and the lowest bits: closed runs -/
theorem q_awake (t : TypeId) : isTrue (callD Tryd.prog (mkIntr qMask (extL qExts)) 1000 20 18 [] (birth (heap1 t) 64)) = true := by kernel_rfl
theorem o18 {W : World} {t : TypeId} (L : Laying 1 W (heap1 t)) (hW : 1 ≤ W.heap.size) : OwnAll Tryd.prog W 1 18 conDone.own :=
  ⟨doneD_tr, fun w k => done_ok (fn := Tryd.f18) (c := bodyOf Tryd.f18) (L.move k.size k.old hW) (Nat.le_trans hW k.size) (by decide : 1 ≤ 64) dt_mixed qx_mask qx_tr (fun w' _ _ => qx_ok w' 1) Tryd.func18 (by kernel_rfl) (by kernel_rfl) (q_awake t)⟩

noncomputable def isInt (r : Option (Value × St)) (n : Int) : Bool := match r with
  | some x => (match x.1 with | .int .i64 m => decide (m = n) | _ => false)
  | none => false
theorem isInt_some {r : Option (Value × St)} {n : Int} (h : isInt r n = true) : ∃ s, r = some (.int .i64 n, s) := by
  unfold isInt at h
  split at h
  · rename_i x
    obtain ⟨v, s⟩ := x
    simp only at h
    split at h
    · rename_i m
      have := of_decide_eq_true h
      subst this
      exact ⟨s, rfl⟩
    · cases h
  · cases h
theorem low_runs (t : TypeId) : allBelow (fun i => isInt (callD Tryd.prog (mkIntr qMask (extL qExts)) 1000 20 15 [quadV (edgeN i)] (birth (heap1 t) 64)) (lowN (edgeN i) : Nat)) 257 = true := by kernel_rfl
theorem o15 {W : World} {t : TypeId} (L : Laying 1 W (heap1 t)) (hW : 1 ≤ W.heap.size) : OwnAll Tryd.prog W 1 15 conLow.own := by
  refine ⟨pureD_tr _, fun w1 k1 args s v s' e φ w args' H _ hA _ _ => ?_⟩
  unfold conLow Con.flat pureD at e
  simp only at e
  split at e
  case h_2 => cases e
  rename_i r hr
  cases e
  split at hr
  case h_2 => cases hr
  rename_i a ha
  split at hr
  case h_2 => cases hr
  rename_i hd
  cases hr
  obtain rfl := decQ_enc ha
  obtain ⟨hq, i, hi, he⟩ := cdec_true.1 hd
  have harg : encQ a = [quadV (edgeN i)] := by
    rw [← he, quadV_qn hq]; rfl
  have hflat : flat2L (encQ a) = true := rfl
  rw [flat2L_inv hflat hA, callFunc_run (fn := Tryd.f15) (c := bodyOf Tryd.f15) Tryd.func15 (by kernel_rfl) (by kernel_rfl), harg]
  have kw : Later W w := k1.trans H.later
  have Lw := L.move kw.size kw.old hW
  obtain ⟨s1, hrun⟩ := isInt_some (allBelow_at (low_runs t) i hi)
  refine (run_call (args := [quadV (edgeN i)]) dt_mixed qx_mask qx_tr (qx_ok w 1) Tryd.func15 (fn := Tryd.f15) (c := bodyOf Tryd.f15) (by kernel_rfl) (by kernel_rfl) Lw.hr (glob_glob 1 w) (flat2L_self (by rfl) _) (glob_top 1 w (by decide)) (fun id q => Lw.top id (Nat.le_trans (by decide) q)) hrun).mono ?_
  rintro e W' ⟨v', φ', rfl, _, hv, H'⟩
  rw [int_inv hv]
  exact ⟨_, φ, rfl, Ext.refl _ _ _, by rw [he]; exact .int _ _, H.keep H'.kept H'.tape⟩

theorem ownLQ {W : World} {t : TypeId} (L : Laying 1 W (heap1 t)) (hW : 1 ≤ W.heap.size) : OwnsAll Tryd.prog W 1 (extC LQ) :=
  OwnsAll.con (o22 hW) (OwnsAll.con (o16 hW) (OwnsAll.con (o17 hW) (OwnsAll.con (o19 hW) (OwnsAll.con (o20 hW) (OwnsAll.con (o21 hW) (OwnsAll.con (o23 hW) (OwnsAll.con (o24 hW) (OwnsAll.con (o15 L hW) (OwnsAll.con (o18 L hW) (ownsAll_nil W 1))))))))))

/-! arguments, opened and shut -/
section
variable {H : Type} {enc : TypeId × Value → H} {w : World} {base : Nat} {spare : Nat → Bool} {held : Bool}
theorem open_quad {r : Reach} {b0 : Nat} {v : Value} {d : DataW H} {p : List MemPlace} (hv : Value.okWide Tryd.prog w r b0 29 v) (h : DataW.Trod enc Tryd.prog w base spare held 29 v d p) :
    ∃ a b : Int, v = .agg #[.int .u64 a, .int .u64 b] ∧ d = .agg [.lit (.int .u64 a), .lit (.int .u64 b)] ∧ p = [] ∧ (Lit.int .u64 a).wf = true ∧ (Lit.int .u64 b).wf = true := by
  obtain ⟨v0, v1, y0, y1, n, rfl, rfl, rfl, h0, h1⟩ := Joins.open_agg2 Tryd.underlying29 (by kernel_rfl) (by kernel_rfl) hv h
  obtain ⟨a, e0, rfl, wa⟩ := DataW.trod_int Tryd.underlying27 h0
  obtain ⟨b, e1, rfl, wb⟩ := DataW.trod_int Tryd.underlying27 h1
  simp only [List.cons.injEq, and_true] at e0 e1
  subst e0; subst e1
  exact ⟨a, b, rfl, rfl, rfl, wa, wb⟩
theorem shut_quad {a b : Int} (wa : (Lit.int .u64 a).wf = true) (wb : (Lit.int .u64 b).wf = true) :
    DataW.Trod enc Tryd.prog w base spare held 29 (.agg #[.int .u64 a, .int .u64 b]) (.agg [.lit (.int .u64 a), .lit (.int .u64 b)]) [] :=
  Joins.shut_agg2 (y0 := (.lit (.int .u64 a), [])) (y1 := (.lit (.int .u64 b), [])) Tryd.underlying29 (by kernel_rfl) (by kernel_rfl) (shut_int Tryd.underlying27 wa) (shut_int Tryd.underlying27 wb)
end
theorem u64_wf {n : Int} (h : (Lit.int .u64 n).wf = true) : 0 ≤ n ∧ n < 18446744073709551616 := by
  simp [Lit.wf, IntKind.min, IntKind.max, IntKind.signed, IntKind.bits] at h
  omega
theorem i64_wf {n : Int} (h : (Lit.int .i64 n).wf = true) : -9223372036854775808 ≤ n ∧ n ≤ 9223372036854775807 := by
  simp [Lit.wf, IntKind.min, IntKind.max, IntKind.signed, IntKind.bits] at h
  omega
theorem inQ_wf {a b : Int} (h : (Lit.int .u64 a).wf = true) (k : (Lit.int .u64 b).wf = true) : inQ a b = true := inQ_iff.2 ⟨u64_wf h, u64_wf k⟩
theorem size_of_laid {W : World} {t : TypeId} (L : Laying 1 W (heap1 t)) : 1 ≤ W.heap.size := by
  have := L.hr.dom 0 0 0 _ (by unfold glob; rw [if_pos (by decide)])
  omega

/-- A law of such numbers: what its conditions come to, its call comes to. -/
theorem law_calls {f : FuncId} {fn : Func} {c : Code} {args : List Value} {W : World} {t : TypeId} (L : Laying 1 W (heap1 t)) (hW : 1 ≤ W.heap.size) (hf : Tryd.prog.funcs[f]? = some fn) (hb : fn.body = some c) (hok : okFunc 1 fn = true)
    (hflat : flat2L args = true) (hle : Nat.ble args.length fn.ntmps = true) (h : codeW Tryd.prog (cwC LQ) c (inTab args 8) (birth [] 64) (retW Tryd.prog fn fun v _ => v = .bool true)) :
    Calls Tryd.prog f ⟨args⟩ W fun e W' => e = .returned (.bool true) ∧ Kept W W' := by
  have L0 := Laying.empty (G := 1) hW
  refine (fnW_calls (P := Tryd.prog) (w0 := W) (φ0 := glob 1 W) (G := 1) (cwC_ok LQ) (ownCall_ok (ownLQ L hW) (Later.refl W)) (ownCall_tr (ownLQ L hW)) dt_mixed (glob_glob 1 W) (fun id q => glob_top 1 W (by decide) id q) hf hb hok hle L0.hr (flat2L_self hflat _) (fun id q => glob_top 1 W (by decide) id q) (fun id q => L0.top id (Nat.le_trans (by decide) q)) (Nat.le_refl 64) h).mono ?_
  rintro e W' ⟨v1, v', s1, φ', rfl, rfl, hv, H', _, _⟩
  rw [bool_inv hv]
  exact ⟨rfl, H'.kept⟩

end Go.Proofs.YtfnacgojmdbjmaaDoor
