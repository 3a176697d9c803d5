/- A part of an evaluator of closed runs and of its soundness. -/
import Derived.Test.YtcjbddgeoiacoaaGreatDoorDetOps7
namespace Go.Det
variable {P : Program}
section
variable {w0 w : World} {φ : Ren} {l : Tmps} {s s' : St} {v : Value} {ρ : Operand → Value} {lo : Nat}

theorem VRL.two {a b : Value} {l' : List Value} (h : VRL φ [a, b] l') : ∃ a' b', l' = [a', b'] ∧ VR φ a a' ∧ VR φ b b' := by
  obtain ⟨a', t, rfl, ha, ht⟩ := h.head
  obtain ⟨b', t', rfl, hb, ht'⟩ := ht.head
  rw [ht'.of_nil]; exact ⟨a', b', rfl, ha, hb⟩
theorem VRL.one {a : Value} {l' : List Value} (h : VRL φ [a] l') : ∃ a', l' = [a'] ∧ VR φ a a' := by
  obtain ⟨a', t, rfl, ha, ht⟩ := h.head
  rw [ht.of_nil]; exact ⟨a', rfl, ha⟩

theorem appendD_ok {argTypes : Array TypeId} {type : TypeId} {args : List Value} {args' : Array Value} {r : Value × St} (h : appendD P s argTypes args = some r) (H : HR φ s.h w0 w)
    (hx : VRL φ args args'.toList) (hf : ∀ id, s.next ≤ id → id < r.2.next → φ id = none) :
    Gives P w0 φ s.next r.2 r.1 ((do pure (Next.value (← Builtin.append_ argTypes type args')) : Sem Next).run P w) ∧ s.next ≤ r.2.next := by
  unfold appendD typ at h
  split at h
  case h_2 => cases h
  rename_i sT rest base n c x ha
  split at h
  case h_2 => cases h
  rename_i elem hu
  split at h
  case h_2 => cases h
  rename_i ei zeros hei hz
  split at h
  case h_2 => cases h
  rename_i q hq
  obtain ⟨m, ws, s1⟩ := q
  obtain ⟨S, x', e, hS, hx'⟩ := hx.two
  obtain ⟨args'⟩ := args'
  simp only at e; subst e
  obtain ⟨hrun, hh, hn⟩ := appSrc_ok (type := type) (n := n) ha hu hei hz hq H hx'
  simp only at hh hn hrun h
  have H1 : HR φ s1.h w0 w := by rw [hh]; exact H
  unfold appGo at h
  split at h
  · rename_i hm
    have hm := Nat.eq_of_beq_eq_true hm
    subst hm
    split at h
    case isFalse => cases h
    rename_i hc
    cases h
    have hws : ws = [] := List.eq_nil_of_length_eq_zero (by rw [hrun.len]; simp)
    subst hws
    refine ⟨?_, by show s.next ≤ s1.next; omega⟩
    have hle : ∀ {b' : Option Addr} {c' : Nat}, S = .slice b' n c' → n ≤ c' → Gives P w0 φ s.next s1 (.slice base n c) ((do pure (Next.value (← Builtin.append_ argTypes type #[S, x'])) : Sem Next).run P w) := by
      intro b' c' e hle
      subst e
      obtain ⟨new, q1, q2⟩ := hrun.inn b' c' hle
      have hnew : new.toList = [] := q1.of_nil
      refine gives_of (w' := w) (v' := .slice b' n c') ?_ (Ext.refl _ _ _) hS H1
      rw [q2, hnew]
      cases b' <;> rfl
    simp only [Bool.or_eq_true, Nat.ble_eq] at hc
    rcases slice_inv hS with ⟨k1, a', e, _⟩ | ⟨_, _, _, _, _, _, c', _, _, _, _, _, k, e⟩
    · exact hle e (by rcases hc with q | q <;> omega)
    · exact hle e k
  · rename_i hm
    have hm : m ≠ 0 := by intro q; subst q; simp at hm
    split at h
    case isFalse => cases h
    rename_i hc
    simp only [Bool.and_eq_true, Nat.ble_eq] at hc
    split at h
    case h_2 => cases h
    rename_i z hzz
    obtain ⟨g, g2⟩ := appTo_ok (P := P) (argTypes := argTypes) (type := type) (bytes := ei.bytes) h H1 hS hm hc.1 hrun hc.2.2.1 hc.2.1 hc.2.2.2 hzz hei rfl (fun id a b => hf id (by omega) b)
    rw [hn] at g g2
    exact ⟨g, g2⟩

theorem copyD_ok {argTypes : Array TypeId} {type : TypeId} {args : List Value} {args' : Array Value} {r : Value × St} (h : copyD P s argTypes args = some r) (H : HR φ s.h w0 w)
    (hx : VRL φ args args'.toList) :
    Gives P w0 φ lo r.2 r.1 ((do pure (Next.value (← Builtin.copy_ argTypes type args')) : Sem Next).run P w) ∧ r.2.next = s.next := by
  unfold copyD typ at h
  split at h
  case h_2 => cases h
  rename_i dT rest base n c x ha
  split at h
  case h_2 => cases h
  rename_i elem hu
  split at h
  case h_2 => cases h
  rename_i size m hsz hm
  split at h
  case h_2 => cases h
  rename_i q hq
  obtain ⟨S, x', e, hS, hx'⟩ := hx.two
  obtain ⟨args'⟩ := args'
  simp only at e; subst e
  obtain ⟨cs', q1, q2, q3, q4, q5⟩ := srcCells_ok (P := P) hq H hx'
  have h0 : argTypes[0]? = some dT := by rw [← Array.getElem?_toList, ha]; rfl
  have hrun : ∀ (b' : Option Addr) (c' : Nat), S = .slice b' n c' → (Builtin.copy_ argTypes type #[S, x']).run P w =
      (match b' with | some a => (storeCells a cs'.toList).run P w | none => .ok () w).andThen fun _ w' => .ok (goInt (Nat.min m n : Nat)) w' := by
    intro b' c' e
    subst e
    unfold Builtin.copy_
    simp only [h0, List.getElem?_toArray, List.getElem?_cons_zero, List.getElem?_cons_succ, Sem.run_bind, run_underlying hu, Result.andThen_ok, lenD_run hm hx', szOf_run hsz, q1]
    cases b' <;> simp
  unfold copyTo at h
  split at h
  · rename_i hnil
    cases h
    rw [hnil] at q2
    have hnew : cs'.toList = [] := q2.of_nil
    refine ⟨?_, q4⟩
    have H1 : HR φ q.2.h w0 w := by rw [q3]; exact H
    have fin : ∀ (b' : Option Addr) (c' : Nat), S = .slice b' n c' → Gives P w0 φ lo q.2 (.int .i64 (Nat.min m n : Nat)) ((do pure (Next.value (← Builtin.copy_ argTypes type #[S, x'])) : Sem Next).run P w) := by
      intro b' c' e
      refine gives_of (w' := w) (v' := goInt (Nat.min m n : Nat)) ?_ (Ext.refl _ _ _) (.int _ _) H1
      rw [hrun b' c' e, hnew]
      cases b' <;> rfl
    rcases slice_inv hS with ⟨_, a', e, _⟩ | ⟨_, _, _, _, _, _, c', _, _, _, _, _, _, e⟩
    · exact fin _ _ e
    · exact fin _ _ e
  · rename_i w1 ws hws
    split at h
    case isFalse => cases h
    rename_i ho
    split at h
    case h_2 => cases h
    rename_i id off
    split at h
    case h_2 => cases h
    rename_i cs e hg
    split at h
    case h_2 => cases h
    rename_i c2 hp
    cases h
    refine ⟨?_, q4⟩
    rw [q3] at hg
    rw [hws] at q2
    have fin : ∀ (b sh sz c' : Nat), φ id = some (b, sh, sz) → S = .slice (some ⟨b, sh + off, none⟩) n c' → Gives P w0 φ lo (q.2.write id (.cells c2 e false)) (.int .i64 (Nat.min m n : Nat)) ((do pure (Next.value (← Builtin.copy_ argTypes type #[S, x'])) : Sem Next).run P w) := by
      intro b sh sz c' hat e1
      obtain ⟨b', sh', sz', c3, fz, k⟩ := H.cells _ _ _ _ hg
      have := k.at_; rw [hat] at this; cases this
      obtain ⟨p1, p2⟩ := storeCells_ok (P := P) H hg k hp ho q2
      have p3 : HR φ (q.2.write id (.cells c2 e false)).h w0 (w.setCells b (sh + off) cs'.toList) := by
        have : (q.2.write id (.cells c2 e false)).h = (s.write id (.cells c2 e false)).h := by simp only [St.write, q3]
        rw [this]; exact p2
      refine gives_of (w' := w.setCells b (sh + off) cs'.toList) (v' := goInt (Nat.min m n : Nat)) ?_ (Ext.refl _ _ _) (.int _ _) p3
      rw [hrun _ c' e1]
      show Result.andThen ((storeCells ⟨b, sh + off, none⟩ cs'.toList).run P w) _ = _
      rw [p1]; rfl
    rcases slice_inv hS with ⟨_, a', e1, k⟩ | ⟨_, _, b, sh, sz, _, c', k1, _, k2, _, _, _, e1⟩
    · rcases k with ⟨k, _⟩ | ⟨_, _, b, sh, sz, k1, k2, rfl⟩
      · cases k
      · cases k1; exact fin _ _ _ _ k2 e1
    · cases k1; exact fin _ _ _ _ k2 e1

end
end Go.Det
