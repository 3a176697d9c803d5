/- Printed functions as entries of the evaluator. -/
import Derived.Test.YtfnacgojmdbjmaaDoorPj18
import Derived.Below
namespace Go.Proofs.YtfnacgojmdbjmaaDoor
open Go.Det Go.RowKit
set_option maxRecDepth 100000

/-- A function of plain arguments and answers, whose calls come to what it says at every good world, as an entry. -/
theorem own_of_calls {f : FuncId} {fn : Func} {c : Code} {F : List Value → Option Value} {W : World} (hW : GoodW W) (hf : Tryd.prog.funcs[f]? = some fn) (hb : fn.body = some c) (hn : (fn.name == "runtime.NumGoroutine") = false)
    (h : ∀ args v, F args = some v → flat2L args = true ∧ flat v = true ∧ ∀ w, GoodW w → Calls Tryd.prog f ⟨args⟩ w fun e w' => e = .returned v ∧ Below w.heap.size w w') : OwnAll Tryd.prog W 6 f (pureD F) := by
  refine ⟨pureD_tr F, fun W1 k1 args s v s' e φ w args' H _ hA _ _ => ?_⟩
  unfold pureD at e
  split at e
  case h_2 => cases e
  rename_i r hr
  cases e
  obtain ⟨h1, h2, h3⟩ := h args v hr
  rw [flat2L_inv h1 hA, callFunc_run hf hb hn]
  have kw : Later W w := k1.trans H.later
  refine (h3 w (hW.later kw.size kw.old)).mono ?_
  rintro e W' ⟨rfl, hB⟩
  exact ⟨v, φ, rfl, Ext.refl _ _ _, flat_self h2 _, H.keep ⟨hB.os, hB.output, hB.size, hB.block⟩ hB.tape⟩

theorem cdec_bool (b : Bool) : cdec (b = true) = b := by
  rw [← cdec_eq]; cases b <;> rfl
theorem om_done27 {W : World} (hW : GoodW W) : OwnAll Tryd.prog W 6 27 conDone.own :=
  ⟨doneD_tr, fun w k => by
    have hG := hW.later k.size k.old
    obtain ⟨t0, t2, t5, L⟩ := hG.lay
    exact done_ok (fn := Tryd.f27) (c := match Tryd.f27.body with | some c => c | none => .skip) L hG.size (by decide : 6 ≤ 64) dt_mixed okA extsA_tr (fun w h1 h2 => extsA_ok (hG.len.later h1 h2) 6) Tryd.func27 (by kernel_rfl) (by kernel_rfl) (wakeA_run t0 t2 t5)⟩

end Go.Proofs.YtfnacgojmdbjmaaDoor
