/- Functions that answer a row of their own (seat of the ranges), as entries and contracts. No conditions. -/
import Derived.Test.YtfnacgojmdbjmaaGreatDoorRo25
import Derived.Test.YtfnacgojmdbjmaaGreatDoorRo15
namespace Go.Det
/-- a function that answers a row (not an empty one) of its own -/
noncomputable def Con.row {α β : Type} (dec : List Value → Option α) (F : α → Option (List β)) (enc : β → List Value) (elem n : Nat) : Con where
  own := fun args s => match dec args with
    | some a => (match F a with
      | some r => (match r with
        | [] => none
        | _ :: _ => some (.slice (some ⟨s.next, 0, none⟩) r.length (capU + n), s.new (.cells (r.flatMap enc) (2 * elem) false)))
      | none => none)
    | none => none
  w := fun args s K => match dec args with
    | some a => ∃ r, F a = some r ∧ (r ≠ [] ∧ K (.slice (some ⟨s.next, 0, none⟩) r.length (capU + n)) (s.new (.cells (r.flatMap enc) (2 * elem) false)))
    | none => False
  ok := by
    intro args s K h
    split at h
    · rename_i a ha
      obtain ⟨r, hr, hne, hk⟩ := h
      refine ⟨_, _, ?_, hk, fun K' k => ⟨r, hr, hne, k⟩⟩
      cases r with
      | nil => exact absurd rfl hne
      | cons x t => simp only [ha, hr]
    · exact h.elim
  mono := by
    intro args s K K' k h
    split at h
    · obtain ⟨r, hr, hne, hk⟩ := h
      exact ⟨r, hr, hne, k _ _ hk⟩
    · exact h.elim
end Go.Det
namespace Go.Proofs.YtfnacgojmdbjmaaGreatDoor
open Go.Det Go.RowKit Go.Proofs.YtfnacgojmdbjmaaGreatDoorW.PrintWords
set_option maxRecDepth 100000

theorem own_row {f : FuncId} {fn : Func} {c : Code} {α β : Type} {dec : List Value → Option α} {F : α → Option (List β)} {enc : β → List Value} {elem n : Nat} {W : World} (hn : ∀ x, (enc x).length = n) (hn0 : 0 < n) (hfl : ∀ x, ∀ v ∈ enc x, flat v = true)
    (hW : GoodW W) (hf : Tryz.prog.funcs[f]? = some fn) (hb : fn.body = some c) (hnm : (fn.name == "runtime.NumGoroutine") = false)
    (h : ∀ args a r, dec args = some a → F a = some r → flat2L args = true ∧ ∀ w, GoodW w → Calls Tryz.prog f ⟨args⟩ w fun e w' => ∃ v, e = .returned v ∧ Below w.heap.size w w' ∧ w'.ownsRow w.heap.size elem n v r.length (r.flatMap enc)) :
    OwnAll Tryz.prog W 6 f (Con.row dec F enc elem n).own := by
  refine ⟨fun args => ?_, fun W1 k1 args s v s' e φ w args' H _ hA hfr _ => ?_⟩
  · refine new_tr (match dec args with
      | some a => (match F a with
        | some r => (match r with
          | [] => none
          | _ :: _ => some (Blk.cells (r.flatMap enc) (2 * elem) false, fun k => Value.slice (some ⟨k, 0, none⟩) r.length (capU + n)))
        | none => none)
      | none => none) fun s => ?_
    show (match dec args with
      | some a => (match F a with
        | some r => (match r with
          | [] => none
          | _ :: _ => some (Value.slice (some ⟨s.next, 0, none⟩) r.length (capU + n), s.new (.cells (r.flatMap enc) (2 * elem) false)))
        | none => none)
      | none => none) = _
    cases dec args with
    | none => rfl
    | some a =>
      simp only
      cases F a with
      | none => rfl
      | some r => cases r <;> rfl
  · have e0 : (match dec args with
      | some a => (match F a with
        | some r => (match r with
          | [] => none
          | _ :: _ => some (Value.slice (some ⟨s.next, 0, none⟩) r.length (capU + n), s.new (.cells (r.flatMap enc) (2 * elem) false)))
        | none => none)
      | none => none) = some (v, s') := e
    split at e0
    case h_2 => cases e0
    rename_i a ha
    split at e0
    case h_2 => cases e0
    rename_i r hr
    split at e0
    case h_1 => cases e0
    rename_i x t
    cases e0
    obtain ⟨h1, h3⟩ := h args a (x :: t) ha hr
    rw [flat2L_inv h1 hA, callFunc_run hf hb hnm]
    have kw : Later W w := k1.trans H.later
    refine (h3 w (hW.later kw.size kw.old)).mono ?_
    rintro e W' ⟨v, rfl, hB, hl, ho⟩
    rcases ho with ⟨_, ho⟩ | ⟨g, cap, cur, rfl, hg, hblk, hcap, _, hsz, hcur⟩
    · simp at ho
    have hnew : φ s.next = none := hfr s.next (Nat.le_refl _) (by show s.next < Nat.max s.hi (s.next + 1); exact Nat.lt_of_lt_of_le (Nat.lt_succ_self _) (Nat.le_max_right _ _))
    refine ⟨_, upd φ s.next (g, 0, cur.size), rfl, Ext.upd hnew _, ?_, ?_⟩
    · exact VR.sliceU (φ := upd φ s.next (g, 0, cur.size)) s.next 0 g 0 cur.size (x :: t).length cap n (upd_same _ _ _) hn0 (by omega) hcap
    · refine H.adopt (w' := W') hnew hB.os hB.output hB.tape hB.size (fun j hj _ => hB.block j hj) (Nat.le_trans H.size hg) (fz := (0, 0)) (c := cur) (by rw [half0]; exact hblk) (fun _ => rfl) ?_ rfl ?_ (fun i hi => ?_) (fun _ o _ => by simp) (fun O q => by rw [Array.getElem?_eq_none hg] at q; cases q)
      · intro j cj ej rj bj sj zj _ a'
        have := H.dom _ _ _ _ a'
        omega
      · rw [hl, hsz]; have := Nat.mul_le_mul_right n hcap; omega
      · have hv : ((x :: t).flatMap enc).getD i und = cur.getD i und := by
          rw [← hcur, List.getD_eq_getElem?_getD, Array.getD_eq_getD_getElem?, List.getElem?_take, if_pos (by rw [← hl]; exact hi)]
          simp
        rw [Nat.zero_add, hv]
        refine flat_self ?_ _
        rw [← hv, List.getD_eq_getElem?_getD, List.getElem?_eq_getElem hi]
        have hm := List.getElem_mem hi
        obtain ⟨y, _, hy⟩ := List.mem_flatMap.1 hm
        exact hfl y _ hy

end Go.Proofs.YtfnacgojmdbjmaaGreatDoor
