/- A part of an evaluator of closed runs and of its soundness. -/
import Derived.Test.YtcjbddgeoiacoaaGreatDoorDetDraw4
namespace Go.Det
variable {P : Program}

noncomputable def okOpers (n G : Nat) : List Oper → Bool
  | [] => true
  | o :: t => okOper n G o && okOpers n G t
theorem okOpers_mem {n G : Nat} : ∀ {l : List Oper}, okOpers n G l = true → ∀ o ∈ l, okOper n G o = true
  | [], _, o, ho => by cases ho
  | x :: t, h, o, ho => by
    simp only [okOpers, Bool.and_eq_true] at h
    rcases List.mem_cons.1 ho with rfl | ho
    · exact h.1
    · exact okOpers_mem h.2 o ho
noncomputable def okCode (n G : Nat) : Code → Bool
  | .region _ ops _ => okOpers n G ops.toList
  | .seq a b => okCode n G a && okCode n G b
  | .cond c a b => okOperand G c && (okCode n G a && okCode n G b)
  | .block _ a => okCode n G a
  | .loop a => okCode n G a
  | _ => true

def Ex.out : Ex → Exit
  | .normal => .normal
  | .exit id => .exit id
  | .ret => .ret

/-- Rounds of a loop, counted down. -/
theorem wp_rounds {c : Code} {Q : Exit → Act → World → Prop} (R : Nat → Act → World → Prop) (h0 : ∀ a w, R 0 a w → False)
    (hs : ∀ k a w, R (k + 1) a w → c.wp P (Exit.then (R k) Q) a w) {k : Nat} {a : Act} {w : World} (h : R k a w) : (Code.loop c).wp P Q a w := by
  intro b t cs
  have key : ∀ k a w, R k a w → ∃ e a' w', Q e a' w' ∧ Arrives P (lone (b.at a (.code c :: .inLoop c :: t)) cs w) b t cs e a' w' := by
    intro k
    induction k with
    | zero => exact fun a w h => (h0 a w h).elim
    | succ k ih =>
      intro a w h
      obtain ⟨e, a₁, w₁, hq, harr⟩ := hs k a w h b (.inLoop c :: t) cs
      cases e with
      | normal =>
        obtain ⟨e₂, a₂, w₂, hq₂, harr₂⟩ := ih a₁ w₁ hq
        exact ⟨e₂, a₂, w₂, hq₂, .of_steps (Steps.trans harr (.one step_inLoop)) harr₂⟩
      | exit id => exact ⟨_, a₁, w₁, hq, .pass (x := .inLoop c) rfl (fun _ _ => .inl (by simp)) harr⟩
      | goto l => exact ⟨_, a₁, w₁, hq, .pass (x := .inLoop c) rfl (fun _ _ => .inl (by simp)) harr⟩
      | ret => exact ⟨_, a₁, w₁, hq, .pass (x := .inLoop c) rfl (fun _ _ => .inl (by simp)) harr⟩
      | panic ch => exact ⟨_, a₁, w₁, hq, .pass (x := .inLoop c) rfl (fun _ _ => .inl (by simp)) harr⟩
      | outgrown => exact ⟨_, a₁, w₁, hq, .pass (x := .inLoop c) rfl (fun _ _ => .inl (by simp)) harr⟩
  obtain ⟨e, a', w', hq, harr⟩ := key k a w h
  exact ⟨e, a', w', hq, .of_steps (.one step_loop) harr⟩

section
variable {w0 : World} {n G : Nat}

/-- What a run starts from. -/
structure Pre (w0 : World) (n G : Nat) (l : Tmps) (s s' : St) (φ : Ren) (a : Act) (w : World) : Prop where
  hr : HR φ s.h w0 w
  glob : Glob G φ
  fr : Fr n φ l a
  fresh : ∀ id, s.next ≤ id → id < s'.hi → φ id = none
  full : Full s'.hi s

theorem Pre.sub {l : Tmps} {s s' s1 : St} {φ : Ren} {a : Act} {w : World} (p : Pre w0 n G l s s' φ a w) (h : s1.hi ≤ s'.hi) : Pre w0 n G l s s1 φ a w :=
  ⟨p.hr, p.glob, p.fr, fun id q1 q2 => p.fresh id q1 (Nat.lt_of_lt_of_le q2 h), p.full.mono h⟩
theorem Pre.next {l l1 : Tmps} {s s' s1 : St} {φ φ1 : Ren} {a a1 : Act} {w w1 : World} (p : Pre w0 n G l s s' φ a w) (g : G1 s s1) (e : Ext φ φ1 s.next s1.next) (H : HR φ1 s1.h w0 w1) (F : Fr n φ1 l1 a1) :
    Pre w0 n G l1 s1 s' φ1 a1 w1 := by
  refine ⟨H, p.glob.mono e.le, F, fun id q1 q2 => ?_, p.full.step g⟩
  cases hφ : φ1 id with
  | none => rfl
  | some y =>
    rcases e.new id (by rw [hφ]; simp) with r | r
    · exact absurd (p.fresh id (Nat.le_trans g.next q1) q2) r
    · omega

def Post (w0 : World) (n : Nat) (φ : Ren) (s : St) (l' : Tmps) (s' : St) (φ' : Ren) (a' : Act) (w' : World) : Prop := Ext φ φ' s.next s'.next ∧ HR φ' s'.h w0 w' ∧ Fr n φ' l' a'

/-- Of a piece of code: that its run is the machine's. -/
def Sound (P : Program) (w0 : World) (n G : Nat) (f : CodeF) (c : Code) : Prop :=
  ∀ l s e l' s' φ a w, f l s = some (e, l', s') → Pre w0 n G l s s' φ a w → ∀ Q : Exit → Act → World → Prop,
    (∀ φ' a' w', Post w0 n φ s l' s' φ' a' w' → Q e.out a' w') → c.wp P Q a w

theorem asc_some {r : Option (Ex × Tmps × St)} {e : Ex} {l : Tmps} {s : St} (h : r = some (e, l, s)) : asc r = some ((e, l), s) := by rw [h]; rfl

theorem TrC.g {f : CodeF} (h : TrC f) {l : Tmps} {s : St} {e : Ex} {l' : Tmps} {s' : St} (k : f l s = some (e, l', s')) : G1 s s' := (h l s (e, l') s' (asc_some k)).1

theorem cSeq_some {f g : CodeF} {l : Tmps} {s : St} {e : Ex} {l' : Tmps} {s' : St} (h : cSeq f g l s = some (e, l', s')) :
    (∃ l1 s1, f l s = some (.normal, l1, s1) ∧ g l1 s1 = some (e, l', s')) ∨ (f l s = some (e, l', s') ∧ ∀ R : Act → World → Prop, ∀ Q, Exit.then R Q e.out = Q e.out) := by
  unfold cSeq andThen at h
  cases hf : f l s with
  | none => rw [hf] at h; cases h
  | some x =>
    obtain ⟨e1, l1, s1⟩ := x
    rw [hf] at h
    cases e1 with
    | normal => exact .inl ⟨l1, s1, rfl, h⟩
    | exit id => simp only [Option.some.injEq, Prod.mk.injEq] at h; obtain ⟨rfl, rfl, rfl⟩ := h; exact .inr ⟨rfl, fun _ _ => rfl⟩
    | ret => simp only [Option.some.injEq, Prod.mk.injEq] at h; obtain ⟨rfl, rfl, rfl⟩ := h; exact .inr ⟨rfl, fun _ _ => rfl⟩

theorem seq_sound {f g : CodeF} {c d : Code} (hf : TrC f) (hg : TrC g) (sf : Sound P w0 n G f c) (sg : Sound P w0 n G g d) : Sound P w0 n G (cSeq f g) (.seq c d) := by
  intro l s e l' s' φ a w h p Q hQ
  refine wp_seq ?_
  rcases cSeq_some h with ⟨l1, s1, h1, h2⟩ | ⟨h1, h2⟩
  · have g1 := hf.g h1
    have g2 := hg.g h2
    refine sf l s _ l1 s1 φ a w h1 (p.sub g2.hi) _ fun φ1 a1 w1 q => ?_
    exact sg l1 s1 e l' s' φ1 a1 w1 h2 (p.next g1 q.1 q.2.1 q.2.2) Q fun φ2 a2 w2 q2 => hQ φ2 a2 w2 ⟨q.1.trans q2.1 (Nat.le_refl _) g2.next g1.next (Nat.le_refl _), q2.2⟩
  · refine sf l s e l' s' φ a w h1 p _ fun φ1 a1 w1 q => ?_
    rw [h2]; exact hQ φ1 a1 w1 q

theorem loop_sound {f : CodeF} {c : Code} (hf : TrC f) (sf : Sound P w0 n G f c) (k : Nat) : Sound P w0 n G (cLoop k f) (.loop c) := by
  intro l s e l' s' φ a w h p Q hQ
  refine wp_rounds (fun k a w => ∃ l s φ, cLoop k f l s = some (e, l', s') ∧ Pre w0 n G l s s' φ a w ∧ ∀ φ' a' w', Post w0 n φ s l' s' φ' a' w' → Q e.out a' w') ?_ ?_ (k := k) ⟨l, s, φ, h, p, hQ⟩
  · rintro a w ⟨l, s, φ, h, _⟩; cases h
  · rintro k a w ⟨l, s, φ, h, p, hQ⟩
    rcases cSeq_some (f := f) (g := cLoop k f) h with ⟨l1, s1, h1, h2⟩ | ⟨h1, h2⟩
    · have g1 := hf.g h1
      have g2 := (cLoop_tr hf k).g h2
      refine sf l s _ l1 s1 φ a w h1 (p.sub g2.hi) _ fun φ1 a1 w1 q => ?_
      exact ⟨l1, s1, φ1, h2, p.next g1 q.1 q.2.1 q.2.2, fun φ2 a2 w2 q2 => hQ φ2 a2 w2 ⟨q.1.trans q2.1 (Nat.le_refl _) g2.next g1.next (Nat.le_refl _), q2.2⟩⟩
    · refine sf l s e l' s' φ a w h1 p _ fun φ1 a1 w1 q => ?_
      rw [h2]; exact hQ φ1 a1 w1 q

theorem ofTS_some {r : Option (Tmps × St)} {e : Ex} {l : Tmps} {s : St} (h : ofTS r = some (e, l, s)) : e = .normal ∧ r = some (l, s) := by
  unfold ofTS at h
  split at h
  · rename_i x
    simp only [Option.some.injEq, Prod.mk.injEq] at h
    obtain ⟨rfl, rfl, rfl⟩ := h
    exact ⟨rfl, rfl⟩
  · cases h

theorem code_sound {call : Call} (hcall : CallOk P w0 G call) (hT : ∀ f args, Tr (call f args)) (hm : P.follows .mixedOrders = true) (k : Nat) (c : Code) (hok : okCode n G c = true) :
    Sound P w0 n G (codeD P call k c) c := by
  induction c with
  | skip =>
    intro l s e l' s' φ a w h p Q hQ
    cases h
    exact wp_skip (hQ φ a w ⟨Ext.refl _ _ _, p.hr, p.fr⟩)
  | region id ops draw =>
    have hops := okOpers_mem (l := ops.toList) hok
    clear hok
    intro l s e l' s' φ a w h p Q hQ
    cases draw with
    | true =>
      obtain ⟨rfl, h2⟩ := ofTS_some (r := drawD P call ops.toList ops.toList [] [] l s) h
      exact drawD_ok hcall hT hm hops h2 p.hr p.glob p.fr p.fresh p.full fun φ' a' w' q1 q2 q3 => hQ φ' a' w' ⟨q1, q2, q3⟩
    | false =>
      obtain ⟨rfl, h2⟩ := ofTS_some (r := opsD P call ops.toList ops.toList l s) h
      exact wp_region_list (opsD_ok hcall hT ops ops.toList hops l s l' s' φ a w h2 p.hr p.glob p.fr p.fresh p.full fun φ' a' w' q1 q2 q3 => hQ φ' a' w' ⟨q1, q2, q3⟩)
  | seq a b ha hb =>
    simp only [okCode, Bool.and_eq_true] at hok
    exact seq_sound (codeD_tr hT k a) (codeD_tr hT k b) (ha hok.1) (hb hok.2)
  | cond c a b ha hb =>
    simp only [okCode, Bool.and_eq_true] at hok
    intro l s e l' s' φ a' w h p Q hQ
    have hv := evalO_ok p.glob p.fr hok.1
    change cCond c (codeD P call k a) (codeD P call k b) l s = _ at h
    unfold cCond at h
    split at h
    case h_2 => cases h
    rename_i t ht
    rw [ht] at hv
    refine wp_cond (t := t) (bool_inv hv) ?_
    cases t with
    | true => exact ha hok.2.1 l s e l' s' φ a' w h p Q hQ
    | false => exact hb hok.2.2 l s e l' s' φ a' w h p Q hQ
  | block id c ih =>
    intro l s e l' s' φ a w h p Q hQ
    refine wp_block ?_
    change cBlock id (codeD P call k c) l s = _ at h
    unfold cBlock unblock at h
    cases hr : codeD P call k c l s with
    | none => rw [hr] at h; cases h
    | some x =>
      obtain ⟨e1, l1, s1⟩ := x
      rw [hr] at h
      cases e1 with
      | normal =>
        simp only [Option.some.injEq, Prod.mk.injEq] at h
        obtain ⟨rfl, rfl, rfl⟩ := h
        exact ih hok l s _ l1 s1 φ a w hr p _ hQ
      | ret =>
        simp only [Option.some.injEq, Prod.mk.injEq] at h
        obtain ⟨rfl, rfl, rfl⟩ := h
        exact ih hok l s _ l1 s1 φ a w hr p _ hQ
      | exit i =>
        simp only at h
        cases hb : Nat.beq i id with
        | true =>
          rw [hb] at h
          simp only [Option.some.injEq, Prod.mk.injEq] at h
          obtain ⟨rfl, rfl, rfl⟩ := h
          refine ih hok l s _ l1 s1 φ a w hr p _ fun φ' a' w' q => ?_
          show (if i = id then Q .normal a' w' else Q (.exit i) a' w')
          rw [if_pos (Nat.eq_of_beq_eq_true hb)]
          exact hQ φ' a' w' q
        | false =>
          rw [hb] at h
          simp only [Option.some.injEq, Prod.mk.injEq] at h
          obtain ⟨rfl, rfl, rfl⟩ := h
          refine ih hok l s _ l1 s1 φ a w hr p _ fun φ' a' w' q => ?_
          show (if i = id then Q .normal a' w' else Q (.exit i) a' w')
          rw [if_neg (Nat.ne_of_beq_eq_false hb)]
          exact hQ φ' a' w' q
  | loop c ih => exact loop_sound (codeD_tr hT k c) (ih hok) k
  | exit id =>
    intro l s e l' s' φ a w h p Q hQ
    cases h
    exact wp_exit (hQ φ a w ⟨Ext.refl _ _ _, p.hr, p.fr⟩)
  | ret =>
    intro l s e l' s' φ a w h p Q hQ
    cases h
    exact wp_ret (hQ φ a w ⟨Ext.refl _ _ _, p.hr, p.fr⟩)
  | _ => intro l s e l' s' φ a w h; cases h

end
end Go.Det
