/- A part of an evaluator of closed runs and of its soundness. -/
import Derived.Test.YtcjbddgeoiacoaaGreatDoorDetSound
import Derived.Test.YtcjbddgeoiacoaaGreatDoorDetCall
import Derived.Orders
import Derived.Tactics
namespace Go.Det
variable {P : Program}

structure Fr (n : Nat) (φ : Ren) (l : Tmps) (a : Act) : Prop where
  size : a.tmps.size = n
  tmp : ∀ t, VR φ (lget l t) (a.tmps.getD t undef)
  defers : a.defers = []

noncomputable def okOperand (G : Nat) : Operand → Bool
  | .const v => flat v
  | .global g => Nat.ble (g + 1) G
  | _ => true
noncomputable def okOperands (G : Nat) : List Operand → Bool
  | [] => true
  | x :: t => okOperand G x && okOperands G t
noncomputable def okDst (n : Nat) : Option Tmp → Bool
  | some d => Nat.ble (d + 1) n
  | none => true
noncomputable def okOper (n G : Nat) (o : Oper) : Bool := okOperands G o.op.operands.toList && okDst n o.dst

theorem okOperands_mem {G : Nat} : ∀ {l : List Operand}, okOperands G l = true → ∀ x ∈ l, okOperand G x = true
  | [], _, x, hx => by cases hx
  | y :: t, h, x, hx => by
    simp only [okOperands, Bool.and_eq_true] at h
    rcases List.mem_cons.1 hx with rfl | hx
    · exact h.1
    · exact okOperands_mem h.2 x hx

theorem Fr.mono {n : Nat} {φ φ' : Ren} {l : Tmps} {a : Act} (h : Fr n φ l a) (k : Le φ φ') : Fr n φ' l a := ⟨h.size, fun t => (h.tmp t).mono k, h.defers⟩

theorem Fr.put {n : Nat} {φ : Ren} {l : Tmps} {a : Act} (h : Fr n φ l a) {dst : Option Tmp} {v v' : Value} (hd : okDst n dst = true) (hv : VR φ v v') : Fr n φ (putD l dst v) (a.put dst v') := by
  cases dst with
  | none => exact h
  | some d =>
    have hd : d < n := Nat.le_of_ble_eq_true hd
    refine ⟨by simp [Act.put, h.size], fun t => ?_, h.defers⟩
    show VR φ (lget (lset l d v) t) ((a.tmps.setIfInBounds d v').getD t undef)
    rw [lget_set]
    by_cases e : t = d
    · subst e
      have : (a.tmps.setIfInBounds t v').getD t undef = v' := by
        simp [Array.getD_eq_getD_getElem?, h.size, hd]
      rw [if_pos rfl, this]; exact hv
    · have : (a.tmps.setIfInBounds d v').getD t undef = a.tmps.getD t undef := by
        simp [Array.getD_eq_getD_getElem?, Array.getElem?_setIfInBounds_ne (Ne.symm e)]
      rw [if_neg e, this]; exact h.tmp t

theorem evalO_ok {n G : Nat} {φ : Ren} {l : Tmps} {a : Act} (hG : Glob G φ) (h : Fr n φ l a) {x : Operand} (hx : okOperand G x = true) : VR φ (evalO l x) (a.eval x) := by
  cases x with
  | tmp t => exact h.tmp t
  | const v => exact flat_self hx φ
  | global g =>
    obtain ⟨sz, e⟩ := hG g (Nat.le_of_ble_eq_true hx)
    exact .ptr g 0 g 0 sz e
  | func f => exact .func _ [] [] [] [] rfl (fun _ => .any _) rfl (fun _ => .any _)

theorem not_bool {φ : Ren} {v v' : Value} (h : VR φ v v') (h1 : ∀ vs, v ≠ .tuple vs) (h2 : ∀ b, v ≠ .bool b) : ∀ b, v' ≠ .bool b := by
  intro b e
  subst e
  cases h with
  | any => exact h1 _ rfl
  | bool => exact h2 _ rfl

theorem nth_getElem? {α : Type} : ∀ (l : List α) (n : Nat), nth l n = l[n]?
  | [], _ => rfl
  | _ :: _, 0 => rfl
  | _ :: t, n + 1 => by rw [nth, nth_getElem? t n]; rfl

theorem wanted_ok {n : Nat} {φ : Ren} {l : Tmps} {a : Act} {all : Array Oper} {o : Oper} {b : Bool} (hF : Fr n φ l a) (h : wantedD all.toList l o = some b) :
    Region.wanted o (yielded all a.tmps) = b := by
  unfold wantedD at h
  unfold Region.wanted
  cases hg : o.guard with
  | none => simp only [hg, Option.some.injEq] at h ⊢; exact h
  | some g =>
    obtain ⟨j, want⟩ := g
    simp only [hg] at h ⊢
    split at h
    case h_2 => cases h
    rename_i q hq
    rw [nth_getElem?, Array.getElem?_toList] at hq
    split at h
    case h_2 => cases h
    rename_i d hd
    have hv := hF.tmp d
    unfold yielded
    rw [hq]
    simp only [Option.bind_some, hd]
    rw [Array.getD_eq_getD_getElem?] at hv
    split at h
    · rename_i c hc
      rw [hc] at hv
      cases h
      have := bool_inv hv
      cases he : a.tmps[d]? with
      | none => rw [he] at this; simp [undef] at this
      | some v' => rw [he] at this; simp only [Option.getD_some] at this; subst this; cases c <;> cases want <;> rfl
    · cases h
    · rename_i h1 h2
      cases h
      have := not_bool hv (fun vs e => h2 vs e) (fun b e => h1 b e)
      cases he : a.tmps[d]? with
      | none => rfl
      | some v' =>
        rw [he] at this
        cases v' <;> first | rfl | exact absurd rfl (this _)

section
variable {w0 : World} {n G : Nat} {call : Call}

theorem opsD_ok (hcall : CallOk P w0 G call) (hT : ∀ f args, Tr (call f args)) (all : Array Oper) {Q : Exit → Act → World → Prop} : ∀ (rest : List Oper), (∀ o ∈ rest, okOper n G o = true) →
    ∀ (l : Tmps) (s : St) (l' : Tmps) (s' : St) (φ : Ren) (a : Act) (w : World), opsD P call all.toList rest l s = some (l', s') → HR φ s.h w0 w → Glob G φ → Fr n φ l a →
    (∀ id, s.next ≤ id → id < s'.hi → φ id = none) → Full s'.hi s →
    (∀ φ' a' w', Ext φ φ' s.next s'.next → HR φ' s'.h w0 w' → Fr n φ' l' a' → Q .normal a' w') → wpList P all Q rest a w
  | [], _, l, s, l', s', φ, a, w, h, H, _, hF, _, _, k => by
    rw [opsD_nil] at h
    cases h
    exact k φ a w (Ext.refl _ _ _) H hF
  | o :: rest, hok, l, s, l', s', φ, a, w, h, H, hG, hF, hf, hi, k => by
    rw [opsD_cons] at h
    unfold opsStep at h
    have hoo := hok o (by simp)
    unfold okOper at hoo
    rw [Bool.and_eq_true] at hoo
    have hrest : ∀ o ∈ rest, okOper n G o = true := fun o h => hok o (by simp [h])
    split at h
    case h_2 => cases h
    rename_i b hb
    have hw := wanted_ok hF hb
    unfold wpList
    cases b with
    | false =>
      simp only at h
      rw [if_neg (by rw [hw]; simp)]
      exact opsD_ok hcall hT all rest hrest _ _ _ _ φ _ w h H hG (hF.put hoo.2 .skip) hf hi k
    | true =>
      simp only at h
      rw [if_pos hw]
      left
      unfold nextOp at h
      split at h
      case h_2 => cases h
      rename_i x hx
      obtain ⟨v, s1⟩ := x
      simp only at h
      have g1 := (opD_tr (P := P) hT o l s v s1 hx).1
      have g2 := (opsD_tr (P := P) hT all.toList rest _ s1 l' s' h).1
      have hgv := opD_ok (ρ := a.eval) hcall hT hx H hG (fun x hx => evalO_ok hG hF (okOperands_mem hoo.1 x hx)) (fun id p q => hf id p (Nat.lt_of_lt_of_le q g2.hi)) (hi.mono g2.hi)
      refine hgv.wp fun φ' v' w' e hv H' => ?_
      refine opsD_ok hcall hT all rest hrest _ s1 l' s' φ' _ w' h H' (hG.mono e.le) ((hF.mono e.le).put hoo.2 hv) (fun id p q => ?_) (hi.step g1) fun φ2 a2 w2 e2 H2 F2 => ?_
      · cases hφ : φ' id with
        | none => rfl
        | some y =>
          rcases e.new id (by rw [hφ]; simp) with r | r
          · exact absurd (hf id (Nat.le_trans g1.next p) q) r
          · omega
      · exact k φ2 a2 w2 (e.trans e2 (Nat.le_refl _) g2.next g1.next (Nat.le_refl _)) H2 F2
end

end Go.Det
