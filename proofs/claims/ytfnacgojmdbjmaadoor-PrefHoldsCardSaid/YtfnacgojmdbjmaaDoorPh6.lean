/- Worlds in which the listed tables lie as the program lays them: what contracts of the library need. And: an entry of the evaluator as a contract of a call. -/
import Derived.Test.YtfnacgojmdbjmaaDoorPh5
import Derived.Below
import Derived.Deep.Draws
namespace Go.Det
open Go.RowKit
variable {P : Program}

/-- What an entry answers, the call comes to; below the world's end nothing is turned. -/
theorem own_calls {G : Nat} {f : FuncId} {fn : Func} {c : Code} {g : Own} {w : World} {args : List Value} {v : Value} {s' : St} (h : OwnOk P w G f g) (hG : G ≤ 64) (hs : G ≤ w.heap.size)
    (hf : P.funcs[f]? = some fn) (hb : fn.body = some c) (hn : (fn.name == "runtime.NumGoroutine") = false) (e : g args (birth [] 64) = some (v, s')) (h1 : flat2L args = true) (h2 : flat v = true) (h3 : v ≠ und) :
    Calls P f ⟨args⟩ w fun e w' => e = .returned v ∧ Below w.heap.size w w' := by
  have L := Laying.empty (G := G) hs
  have k := h args (birth [] 64) v s' e (glob G w) w args L.hr (glob_glob G w) (flat2L_self h1 _) (fun id q _ => glob_top G w hG id q) ⟨Nat.le_refl _, fun id q _ => L.top id (Nat.le_trans hG q)⟩
  rw [callFunc_run hf hb hn] at k
  refine Calls.mono k ?_
  rintro e w' ⟨v', φ', rfl, _, hv, H⟩
  rw [flat_inv h2 hv h3]
  exact ⟨rfl, H.os, H.tape, H.output, H.size, fun j hj => H.old j hj⟩

end Go.Det
namespace Go.Proofs.YtfnacgojmdbjmaaDoor
open Go.Det Go.RowKit
set_option maxRecDepth 100000

structure GoodW (w : World) : Prop where
  lay : ∃ t0 t2 t5, Laying 6 w (heapA t0 t2 t5)
  size : 6 ≤ w.heap.size
  len : Len w
theorem GoodW.later {W w : World} (h : GoodW W) (h1 : W.heap.size ≤ w.heap.size) (h2 : ∀ b, b < W.heap.size → w.heap[b]? = W.heap[b]?) : GoodW w := by
  obtain ⟨t0, t2, t5, L⟩ := h.lay
  exact ⟨⟨t0, t2, t5, L.move h1 h2 h.size⟩, Nat.le_trans h.size h1, h.len.later h1 h2⟩
theorem GoodW.below {w w' : World} (h : GoodW w) (k : Below w.heap.size w w') : GoodW w' := h.later k.size k.block
theorem GoodW.drew {w : World} (h : GoodW w) : GoodW w.drew := h.later (Nat.le_refl _) (fun _ _ => rfl)
theorem GoodW.drewN {w : World} (h : GoodW w) (n : Nat) : GoodW (w.drewN n) := h.later (Nat.le_refl _) (fun _ _ => rfl)

/-- what the laws wake -/
theorem st_awake27 (w : World) (hG : GoodW w) : Calls Tryd.prog 27 #[] w fun e w' => e = .returned (.bool true) ∧ Below w.heap.size w w' := by
  obtain ⟨t0, t2, t5, L⟩ := hG.lay
  exact own_calls (fn := Tryd.f27) (c := match Tryd.f27.body with | some c => c | none => .skip) (wakeA_ok L hG.size hG.len) (by decide) hG.size Tryd.func27 (by kernel_rfl) (by kernel_rfl) (s' := birth [] 64) rfl rfl rfl (by intro h; cases h)

end Go.Proofs.YtfnacgojmdbjmaaDoor
