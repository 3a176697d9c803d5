/- Contracts of functions that are told as plain functions with or without an answer: a call is met by the answer that there is. -/
import Derived.Test.YtfnacgojmdbjmaaGreatDoorRo11
namespace Go.Det
variable {P : Program}

/-- what a caller sees: some answer there is, and it goes on with that -/
noncomputable def Con.opt {α β : Type} (dec : List Value → Option α) (f : α → Option β) (enc : β → Value) : Con where
  own := pureD fun args => match dec args with
    | some a => (match f a with | some b => some (enc b) | none => none)
    | none => none
  w := fun args s K => match dec args with
    | some a => ∃ x, f a = some x ∧ K (enc x) s
    | none => False
  ok := by
    intro args s K h
    unfold pureD
    split at h
    · rename_i a ha
      obtain ⟨x, hx, hk⟩ := h
      exact ⟨enc x, s, by simp only [ha, hx], hk, fun K' k => ⟨x, hx, k⟩⟩
    · exact h.elim
  mono := by
    intro args s K K' k h
    split at h
    · obtain ⟨x, hx, hk⟩ := h
      exact ⟨x, hx, k _ _ hk⟩
    · exact h.elim

theorem opt_own {α β : Type} {dec : List Value → Option α} {f : α → Option β} {enc : β → Value} {args : List Value} {a : α} {b : β} (h1 : dec args = some a) (h2 : f a = some b) (s : St) : (Con.opt dec f enc).own args s = some (enc b, s) := by
  simp only [Con.opt, pureD, h1, h2]

/-- A contract is kept: its body comes to what the function says. -/
theorem con_opt {W : World} {G : Nat} {l : List (Nat × Con)} {h : Heap} {f : FuncId} {fn : Func} {c : Code} {α β : Type} {dec : List Value → Option α} {F : α → Option β} {encR : β → Value} (enc : α → List Value)
    (L : Laying G W h) (hGW : G ≤ W.heap.size) (hG64 : G ≤ 64)
    (hm : P.follows .mixedOrders = true) (hl : OwnsAll P W G (extC l)) (hf : P.funcs[f]? = some fn) (hb : fn.body = some c) (hok : okFunc G fn = true)
    (hdec : ∀ args a, dec args = some a → args = enc a) (hflat : ∀ a, flat2L (enc a) = true ∧ Nat.ble (enc a).length fn.ntmps = true) (hres : ∀ b, flat (encR b) = true)
    (hF : ∀ a b, F a = some b → codeW P (cwC l) c (inTab (enc a) 8) (birth h 64) (retW P fn fun v' _ => v' = encR b)) : OwnAll P W G f (Con.opt dec F encR).own := by
  refine own_flat L hGW hG64 hm hl (cwC_ok l) hf hb hok fun args v hv => ?_
  split at hv
  case h_2 => cases hv
  rename_i a ha
  split at hv
  case h_2 => cases hv
  rename_i b hd
  cases hv
  obtain rfl := hdec _ _ ha
  exact ⟨(hflat a).1, hres b, (hflat a).2, hF a b hd⟩

end Go.Det
