/- A part of an evaluator of closed runs and of its soundness. -/
import Derived.Test.YtcjbddgeoiacoaaGreatDoorDetOps12
import Derived.Test.YtcjbddgeoiacoaaGreatDoorDetFoot2
namespace Go.Det
variable {P : Program}

def Glob (G : Nat) (φ : Ren) : Prop := ∀ g, g < G → ∃ sz, φ g = some (g, 0, sz)
theorem Glob.mono {G : Nat} {φ φ' : Ren} (h : Glob G φ) (k : Le φ φ') : Glob G φ' := fun g hg => let ⟨sz, e⟩ := h g hg; ⟨sz, k _ _ e⟩

def CallOk (P : Program) (w0 : World) (G : Nat) (call : Call) : Prop :=
  ∀ f args s v s', call f args s = some (v, s') → ∀ φ w args', HR φ s.h w0 w → Glob G φ → VRL φ args args' → (∀ id, s.next ≤ id → id < s'.hi → φ id = none) → Full s'.hi s →
    Gives P w0 φ s.next s' v ((callFunc f ⟨args'⟩).run P w)

section
variable {w0 w : World} {φ : Ren} {l : Tmps} {s s' : St} {v : Value} {ρ : Operand → Value} {lo G : Nat} {call : Call}

theorem opD_ok (hcall : CallOk P w0 G call) (hT : ∀ f args, Tr (call f args)) {o : Oper} (h : opD P call o l s = some (v, s')) (H : HR φ s.h w0 w) (hG : Glob G φ)
    (hρ : ∀ x ∈ o.op.operands.toList, VR φ (evalO l x) (ρ x)) (hf : ∀ id, s.next ≤ id → id < s'.hi → φ id = none) (hi : Full s'.hi s) : Gives P w0 φ s.next s' v ((execOp ρ o).run P w) := by
  have hg1 := (opD_tr (P := P) hT o l s v s' h).1
  have hf' : ∀ id, s.next ≤ id → id < s'.next → φ id = none := fun id a b => hf id a (Nat.lt_of_lt_of_le b (hg1.inv hi.le))
  unfold opD at h
  unfold execOp
  cases hop : o.op <;> rw [hop] at h hρ <;> simp only [Op.operands] at hρ <;> simp only at h ⊢
  case move x => exact opMove_ok h H (hρ x (by simp))
  case assign x => exact opMove_ok h H (hρ x (by simp))
  case pick c a b => exact opPick_ok h H (hρ c (by simp)) (hρ a (by simp)) (hρ b (by simp))
  case alloc e => exact opAlloc_ok h H hf'
  case box e x => exact opBox_ok h H hf' (hρ x (by simp))
  case build t ps => exact opBuild_ok h H fun x hx => hρ x.2 (by simp; exact ⟨x.1, by simpa using hx⟩)
  case buildSlice t n ps => exact opBuildSlice_ok h H hf' fun x hx => hρ x.2 (by simp; exact ⟨x.1, by simpa using hx⟩)
  case load t a => exact (opLoad_ok h H (hρ a (by simp))).1
  case store t a x => exact opStore_ok h H (hρ a (by simp)) (hρ x (by simp))
  case nilCheck x =>
    have := opNilCheck_ok (P := P) (ρ := ρ) (lo := s.next) (o := o) h H (hρ x (by simp)) hop
    unfold execOp at this
    rw [hop] at this
    exact this
  case binOp op t x y yt => exact opBin_ok h H (hρ x (by simp)) (hρ y (by simp))
  case unOp op xt x => exact opUn_ok h H (hρ x (by simp))
  case convert a b x => exact (opConvert_ok h H hf' (hρ x (by simp))).1
  case makeInterface t x => exact opMakeInterface_ok h H (hρ x (by simp))
  case makeFunc fn a b => exact opMakeFunc_ok h H (fun x hx => hρ x (by simp at hx ⊢; exact .inl hx)) (fun x hx => hρ x (by simp at hx ⊢; exact .inr hx))
  case makeSlice t n c => exact opMakeSlice_ok h H hf' (hρ n (by simp)) (hρ c (by simp))
  case slice t x lo hi mx => exact opSlice_ok h H (hρ x (by simp)) (fun y hy => hρ y (by subst hy; simp)) (fun y hy => hρ y (by subst hy; simp)) (fun y hy => hρ y (by subst hy; simp))
  case fieldAddr t x f => exact opFieldAddr_ok h H (hρ x (by simp))
  case field t x f => exact opField_ok h H (hρ x (by simp))
  case indexAddr t x i => exact opIndexAddr_ok h H (hρ x (by simp)) (hρ i (by simp))
  case index t x i => exact opIndex_ok h H (hρ x (by simp)) (hρ i (by simp))
  case extract t i => exact opExtract_ok h H (hρ t (by simp))
  case makeMap t r => exact opMakeMap_ok h H hf'
  case lookup t x k ok => exact opLookup_ok h H (hρ x (by simp)) (hρ k (by simp))
  case range t x => exact opRange_ok h H hf' (hρ x (by simp))
  case next x str => exact opNext_ok h H (hρ x (by simp))
  case entry x => exact opEntry_ok h H (hρ x (by simp))
  case mapUpdate t x k v => exact opMapUpdate_ok h H (hρ x (by simp)) (hρ k (by simp)) (hρ v (by simp))
  case call c =>
    unfold opCall at h
    unfold resolve
    cases hcal : c.callee with
    | builtin b =>
      simp only [hcal] at h hρ ⊢
      simp only [Sem.run_bind, Sem.run_pure, Result.andThen_ok, invoke]
      exact (opBuiltin_ok (P := P) (ρ := ρ) h H hf' (fun x hx => hρ x (by simp [Call.operands, hcal]; simpa using hx))).1
    | value f =>
      simp only [hcal] at h hρ ⊢
      unfold opCallV at h
      split at h
      case h_2 => cases h
      rename_i g first cap hv
      split at h
      case h_2 => cases h
      rename_i g
      have hff := hρ f (by simp [Call.operands, hcal])
      rw [hv] at hff
      obtain ⟨a', c', e, q1, q2⟩ := func_inv hff
      have hargs : VRL φ (evalL l c.args.toList) (c.args.map ρ).toList := by
        rw [Array.toList_map]; exact evalL_ok fun x hx => hρ x (by simp [Call.operands, hcal]; right; simpa using hx)
      have hall := q1.append (hargs.append q2)
      have g1 := hcall _ _ _ _ _ h φ w _ H hG hall hf hi
      have e2 : (⟨a'.toList ++ ((c.args.map ρ).toList ++ c'.toList)⟩ : Array Value) = (a' ++ c.args.map ρ) ++ c' := by apply Array.ext'; simp
      rw [e2] at g1
      simpa [e, Deferred.ofValue, invoke] using g1
    | invoke r m => simp only [hcal] at h; cases h
  all_goals cases h

end
end Go.Det
