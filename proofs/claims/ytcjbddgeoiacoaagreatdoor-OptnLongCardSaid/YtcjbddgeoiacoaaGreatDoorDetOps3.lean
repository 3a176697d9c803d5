/- A part of an evaluator of closed runs and of its soundness. -/
import Derived.Test.YtcjbddgeoiacoaaGreatDoorDetOps2
namespace Go.Det
variable {P : Program}
section
variable {w0 w : World} {φ : Ren} {l : Tmps} {s s' : St} {v : Value} {ρ : Operand → Value} {lo : Nat}

def OR (φ : Ren) (a b : Option Value) : Prop := match a, b with
  | none, none => True
  | some v, some v' => VR φ v v'
  | _, _ => False

theorem bound_inv {a a' : Option Value} {d n : Nat} (h : bound a d = some n) (k : OR φ a a') : (a = none ∧ a' = none ∧ n = d) ∨ ∃ q, a' = some (.int q (n : Int)) ∧ ∃ v, a = some v := by
  cases a with
  | none => cases a' with
    | none => simp only [bound, Option.some.injEq] at h; exact .inl ⟨rfl, rfl, h.symm⟩
    | some v => exact k.elim
  | some v => cases a' with
    | none => exact k.elim
    | some v' => obtain ⟨q, e⟩ := natOf_inv (show natOf v = some n from h) k; exact .inr ⟨q, by rw [e], v, rfl⟩

theorem sliceBound_run {q : IntKind} {n y : Nat} (h : n ≤ y) (code : BoundsCode) (w : World) : (Instr.sliceBound (.int q (n : Int)) y code).run P w = .ok n w := by
  have : (0 : Int) ≤ (n : Int) ∧ (n : Int) ≤ (y : Int) := by omega
  simp only [Instr.sliceBound, asIntOf, Sem.run_bind, Sem.run_pure, Result.andThen_ok, this, and_self, if_true, Int.toNat_natCast]

theorem boundsD_run {lo hi mx lo' hi' mx' : Option Value} {len cap cap' : Nat} {r : Nat × Nat × Nat} (h : boundsD lo hi mx len cap = some r) (hl : OR φ lo lo') (hh : OR φ hi hi') (hm : OR φ mx mx') (hc : cap ≤ cap') (is : Bool) (w : World) :
    (Instr.sliceBounds is len cap' lo' hi' mx').run P w = .ok (r.1, r.2.1, if mx = none then cap' else r.2.2) w ∧ r.1 ≤ r.2.1 ∧ r.2.1 ≤ cap ∧ r.2.1 ≤ r.2.2 ∧ r.2.2 ≤ cap ∧ (mx = none → r.2.2 = cap) := by
  unfold boundsD at h
  split at h
  · -- no max
    cases mx' with
    | some v => exact hm.elim
    | none =>
    split at h
    · rename_i l' h' e1 e2
      split at h
      · rename_i hle
        simp only [Option.some.injEq] at h
        subst h
        simp only [Bool.and_eq_true, Nat.ble_eq] at hle
        refine ⟨?_, hle.1, hle.2, hle.2, Nat.le_refl _, fun _ => rfl⟩
        rcases bound_inv e1 hl with ⟨_, rfl, rfl⟩ | ⟨q1, rfl, _⟩ <;> rcases bound_inv e2 hh with ⟨_, rfl, rfl⟩ | ⟨q2, rfl, _⟩
        · simp [Instr.sliceBounds]
        · simp [Instr.sliceBounds, sliceBound_run (Nat.le_trans hle.2 hc)]
        · simp [Instr.sliceBounds, sliceBound_run hle.1]
        · simp [Instr.sliceBounds, sliceBound_run (Nat.le_trans hle.2 hc), sliceBound_run hle.1]
      · cases h
    · cases h
  · rename_i mv
    cases mx' with
    | none => exact hm.elim
    | some mv' =>
    split at h
    · cases h
    · rename_i hv
      cases hi' with
      | none => exact hh.elim
      | some hv' =>
      split at h
      · rename_i m h' l' e1 e2 e3
        split at h
        · rename_i hle
          simp only [Option.some.injEq] at h
          subst h
          simp only [Bool.and_eq_true, Nat.ble_eq] at hle
          obtain ⟨k1, k2, k3⟩ := hle
          obtain ⟨q1, rfl⟩ := natOf_inv e1 hm
          obtain ⟨q2, rfl⟩ := natOf_inv e2 hh
          refine ⟨?_, k3, Nat.le_trans k2 k1, k2, k1, fun e => by cases e⟩
          rcases bound_inv e3 hl with ⟨_, rfl, rfl⟩ | ⟨q3, rfl, _⟩
          · simp [Instr.sliceBounds, sliceBound_run (Nat.le_trans k1 hc), sliceBound_run k2]
          · simp [Instr.sliceBounds, sliceBound_run (Nat.le_trans k1 hc), sliceBound_run k2, sliceBound_run k3]
        · cases h
      · cases h

theorem capU_big : 1099511627776 < capU := by unfold capU; omega

/-- what a slice of a known end comes to -/
theorem sliceKnown_ok {a a' : Option Addr} {size : Nat} {r : Nat × Nat × Nat} {v : Value} (h : sliceKnown a size r = some v) (hr : r.2.2 < capU)
    (ha : (a = none ∧ a' = none) ∨ ∃ id off b sh sz, a = some ⟨id, off, none⟩ ∧ φ id = some (b, sh, sz) ∧ a' = some ⟨b, sh + off, none⟩) :
    VR φ v (.slice (if r.2.2 = r.1 then a' else a'.map (·.add (r.1 * size))) (r.2.1 - r.1) (r.2.2 - r.1)) := by
  rcases ha with ⟨rfl, rfl⟩ | ⟨id, off, b, sh, sz, rfl, e, rfl⟩
  · simp only [sliceKnown, Option.some.injEq] at h
    subst h
    simp only [Option.map_none, ite_self]
    exact .snil _ _ (by omega)
  · simp only [sliceKnown, Option.some.injEq] at h
    subst h
    by_cases q : r.2.2 = r.1
    · rw [if_pos q, if_pos (by rw [q]; exact Nat.beq_refl _)]
      exact .slice _ _ _ _ _ _ _ e (by omega)
    · rw [if_neg q, if_neg (by intro k; exact q (Nat.eq_of_beq_eq_true k)), Option.map_some, addr_add, Nat.add_assoc]
      exact .slice _ _ _ _ _ _ _ e (by omega)

theorem slice_inv {a : Option Addr} {n c : Nat} {v' : Value} (h : VR φ (.slice a n c) v') :
    (c < capU ∧ ∃ a', v' = .slice a' n c ∧ ((a = none ∧ a' = none) ∨ ∃ id off b sh sz, a = some ⟨id, off, none⟩ ∧ φ id = some (b, sh, sz) ∧ a' = some ⟨b, sh + off, none⟩)) ∨
    (∃ id off b sh sz es c', a = some ⟨id, off, none⟩ ∧ c = capU + es ∧ φ id = some (b, sh, sz) ∧ 0 < es ∧ sh + off + c' * es = sz ∧ n ≤ c' ∧ v' = .slice (some ⟨b, sh + off, none⟩) n c') := by
  generalize hV : Value.slice a n c = V at h
  cases h with
  | snil n' c' k => cases hV; exact .inl ⟨k, none, rfl, .inl ⟨rfl, rfl⟩⟩
  | slice id off b sh sz n' c' e k => cases hV; exact .inl ⟨k, _, rfl, .inr ⟨id, off, b, sh, sz, rfl, e, rfl⟩⟩
  | sliceU id off b sh sz n' c' es e p q r => cases hV; exact .inr ⟨id, off, b, sh, sz, es, c', rfl, rfl, e, p, q, r, rfl⟩
  | _ => simp [und] at hV

theorem sliceSl_ok {elem : TypeId} {x x' : Value} {lo hi mx lo' hi' mx' : Option Value} {v : Value} {t : TypeId} (h : sliceSl P elem x lo hi mx = some v) (ht : P.underlying t = some (.slice elem))
    (hx : VR φ x x') (hl : OR φ lo lo') (hh : OR φ hi hi') (hm : OR φ mx mx') (w : World) : ∃ v', (Instr.sliceAt t x' lo' hi' mx').run P w = .ok v' w ∧ VR φ v v' := by
  unfold sliceSl at h
  split at h
  case h_2 => cases h
  rename_i a n c
  split at h
  case h_2 => cases h
  rename_i size hs
  have hrun : ∀ {a' : Option Addr} {n c' : Nat} {r : Nat × Nat × Nat}, (Instr.sliceBounds true n c' lo' hi' mx').run P w = .ok r w →
      (Instr.sliceAt t (.slice a' n c') lo' hi' mx').run P w = .ok (.slice (if r.2.2 = r.1 then a' else a'.map (·.add (r.1 * size))) (r.2.1 - r.1) (r.2.2 - r.1)) w := by
    intro a' n c' r hr
    simp [Instr.sliceAt, Instr.slice, run_underlying ht, hr, szOf_run hs]
  rcases slice_inv hx with ⟨hc, a', rfl, ha⟩ | ⟨id, off, b, sh, sz, es, c', rfl, rfl, e, p, q, r', rfl⟩
  · rw [if_neg (by simp; exact hc)] at h
    split at h
    case h_2 => cases h
    rename_i r hr
    obtain ⟨k1, k2, k3, k4, k5, k6⟩ := boundsD_run (P := P) hr hl hh hm (Nat.le_refl c) true w
    have k1' : (Instr.sliceBounds true n c lo' hi' mx').run P w = .ok r w := by
      rw [k1]; congr 1
      by_cases q : mx = none
      · rw [if_pos q, ← k6 q]
      · rw [if_neg q]
    exact ⟨_, hrun k1', sliceKnown_ok h (by omega) ha⟩
  · rw [if_pos (by simp)] at h
    split at h
    case isFalse => cases h
    rename_i hc
    simp only [Bool.and_eq_true] at hc
    have hes : es = size := by have := Nat.eq_of_beq_eq_true hc.1; omega
    subst hes
    have hn : n ≤ 1099511627776 := by simpa using hc.2
    split at h
    case h_2 => cases h
    rename_i r hr
    obtain ⟨k1, k2, k3, k4, k5, k6⟩ := boundsD_run (P := P) hr hl hh hm r' true w
    split at h
    · rename_i mv
      rw [if_neg (by simp)] at k1
      exact ⟨_, hrun k1, sliceKnown_ok h (by have := capU_big; show r.2.2 < capU; omega) (.inr ⟨_, _, _, _, _, rfl, e, rfl⟩)⟩
    · rw [if_pos rfl] at k1
      split at h
      case isFalse =>
        simp only [Option.some.injEq] at h
        subst h
        rename_i hz
        have hz : ¬ (r.1 = 0 ∨ r.1 < n) := by
          intro q; apply hz
          simp only [Bool.or_eq_true, Nat.ble_eq]
          rcases q with q | q
          · left; rw [q]; rfl
          · exact .inr q
        have h0 : r.2.1 - r.1 = 0 := by omega
        refine ⟨_, hrun k1, ?_⟩
        simp only [h0]
        refine .emp _ _ fun x hx => ?_
        split at hx
        · cases hx; rfl
        · rw [Option.map_some, addr_add] at hx; cases hx; rfl
      rename_i hz
      simp only [Option.some.injEq] at h
      subst h
      simp only [Bool.or_eq_true, Nat.ble_eq] at hz
      have hz : r.1 = 0 ∨ r.1 < n := by rcases hz with z | z; exact .inl (Nat.eq_of_beq_eq_true z); exact .inr z
      refine ⟨_, hrun k1, ?_⟩
      have ha : (if c' = r.1 then some (⟨b, sh + off, none⟩ : Addr) else (some (⟨b, sh + off, none⟩ : Addr)).map (·.add (r.1 * es))) = some ⟨b, sh + (off + r.1 * es), none⟩ := by
        rw [Option.map_some, addr_add, Nat.add_assoc]
        by_cases k : c' = r.1
        · rw [if_pos k]
          have : r.1 = 0 := by omega
          simp [this]
        · rw [if_neg k]
      simp only [ha]
      have hle : r.1 ≤ c' := by omega
      refine .sliceU _ _ _ _ _ _ _ _ e p ?_ (by omega)
      have : c' * es = r.1 * es + (c' - r.1) * es := by rw [← Nat.add_mul]; congr 1; omega
      omega

theorem sliceArr_ok {n : Nat} {elem : TypeId} {x x' : Value} {lo hi mx lo' hi' mx' : Option Value} {v : Value} {t : TypeId} (h : sliceArr P n elem x lo hi mx = some v)
    (ht : P.underlying t = some (.array n elem) ∨ ∃ arr, P.underlying t = some (.pointer arr) ∧ P.underlying arr = some (.array n elem))
    (hx : VR φ x x') (hl : OR φ lo lo') (hh : OR φ hi hi') (hm : OR φ mx mx') (w : World) : ∃ v', (Instr.sliceAt t x' lo' hi' mx').run P w = .ok v' w ∧ VR φ v v' := by
  unfold sliceArr at h
  split at h
  case h_2 => cases h
  rename_i a
  split at h
  · cases h
  rename_i a
  split at h
  case h_2 => cases h
  rename_i size hs
  split at h
  case isFalse => cases h
  rename_i hn
  have hn : n ≤ 1099511627776 := by simpa using hn
  split at h
  case h_2 => cases h
  rename_i r hr
  obtain ⟨k1, k2, k3, k4, k5, k6⟩ := boundsD_run (P := P) hr hl hh hm (Nat.le_refl n) false w
  have k1' : (Instr.sliceBounds false n n lo' hi' mx').run P w = .ok r w := by
    rw [k1]; congr 1
    by_cases q : mx = none
    · rw [if_pos q, ← k6 q]
    · rw [if_neg q]
  have : ∃ id off b sh sz, a = ⟨id, off, none⟩ ∧ φ id = some (b, sh, sz) ∧ x' = .pointer (some ⟨b, sh + off, none⟩) := by
    cases hx with | ptr id off b sh sz e => exact ⟨id, off, b, sh, sz, rfl, e, rfl⟩
  obtain ⟨id, off, b, sh, sz, rfl, e, rfl⟩ := this
  have hv := sliceKnown_ok h (by have := capU_big; omega) (.inr ⟨id, off, b, sh, sz, rfl, e, rfl⟩)
  refine ⟨_, ?_, hv⟩
  have hm' : (if r.2.2 = r.1 then some (⟨b, sh + off, none⟩ : Addr) else (some (⟨b, sh + off, none⟩ : Addr)).map (·.add (r.1 * size))) = some (if r.2.2 = r.1 then ⟨b, sh + off, none⟩ else (⟨b, sh + off, none⟩ : Addr).add (r.1 * size)) := by
    split <;> rfl
  rcases ht with ht | ⟨arr, ht, ht2⟩
  · simp only [Instr.sliceAt, Sem.run_bind, run_underlying ht, Result.andThen_ok, Instr.sureAddr, Sem.run_pure, k1', szOf_run hs, hm']
  · simp only [Instr.sliceAt, Instr.slice, Sem.run_bind, run_underlying ht, run_underlying ht2, Result.andThen_ok, asAddr, Sem.run_pure, k1', szOf_run hs, hm']

theorem sliceStr_ok {x x' : Value} {lo hi mx lo' hi' mx' : Option Value} {v : Value} {t : TypeId} (h : sliceStr x lo hi mx = some v) (ht : P.underlying t = some .string)
    (hx : VR φ x x') (hl : OR φ lo lo') (hh : OR φ hi hi') (hm : OR φ mx mx') (w : World) : ∃ v', (Instr.sliceAt t x' lo' hi' mx').run P w = .ok v' w ∧ VR φ v v' := by
  unfold sliceStr at h
  split at h
  case h_2 => cases h
  rename_i b
  split at h
  case h_2 => cases h
  cases mx' with
  | some q => exact hm.elim
  | none =>
  split at h
  case h_2 => cases h
  rename_i r hr
  simp only [Option.some.injEq] at h
  subst h
  obtain ⟨k1, _⟩ := boundsD_run (P := P) hr hl hh (show OR φ none none from trivial) (Nat.le_refl _) false w
  refine ⟨_, ?_, .string _⟩
  simp [Instr.sliceAt, Instr.slice, run_underlying ht, string_inv hx, k1]

theorem evalOpt_ok {x : Option Operand} (h : ∀ y, x = some y → VR φ (evalO l y) (ρ y)) : OR φ (evalOpt l x) (x.map ρ) := by
  cases x with
  | none => trivial
  | some y => exact h y rfl

theorem opSlice_ok {t : TypeId} {x : Operand} {lo' hi' mx' : Option Operand} (h : opSlice P t x lo' hi' mx' l s = some (v, s')) (H : HR φ s.h w0 w) (hx : VR φ (evalO l x) (ρ x))
    (hl : ∀ y, lo' = some y → VR φ (evalO l y) (ρ y)) (hh : ∀ y, hi' = some y → VR φ (evalO l y) (ρ y)) (hm : ∀ y, mx' = some y → VR φ (evalO l y) (ρ y)) :
    Gives P w0 φ lo s' v ((do pure (.value (← Instr.sliceAt t (ρ x) (lo'.map ρ) (hi'.map ρ) (mx'.map ρ))) : Sem Next).run P w) := by
  unfold opSlice ofV at h
  split at h
  case h_2 => cases h
  rename_i r hr
  simp only [Option.some.injEq, Prod.mk.injEq] at h
  obtain ⟨rfl, rfl⟩ := h
  have fin : ∀ {v' : Value}, (Instr.sliceAt t (ρ x) (lo'.map ρ) (hi'.map ρ) (mx'.map ρ)).run P w = .ok v' w → VR φ r v' → Gives P w0 φ lo s r ((do pure (.value (← Instr.sliceAt t (ρ x) (lo'.map ρ) (hi'.map ρ) (mx'.map ρ))) : Sem Next).run P w) := fun e q => gives_pure H q e
  unfold sliceD typ at hr
  split at hr
  · rename_i ht; obtain ⟨v', e, q⟩ := sliceStr_ok hr ht hx (evalOpt_ok hl) (evalOpt_ok hh) (evalOpt_ok hm) w; exact fin e q
  · rename_i elem ht; obtain ⟨v', e, q⟩ := sliceSl_ok hr ht hx (evalOpt_ok hl) (evalOpt_ok hh) (evalOpt_ok hm) w; exact fin e q
  · rename_i arr ht
    split at hr
    · rename_i n elem ht2; obtain ⟨v', e, q⟩ := sliceArr_ok hr (.inr ⟨arr, ht, ht2⟩) hx (evalOpt_ok hl) (evalOpt_ok hh) (evalOpt_ok hm) w; exact fin e q
    · cases hr
  · rename_i n elem ht; obtain ⟨v', e, q⟩ := sliceArr_ok hr (.inl ht) hx (evalOpt_ok hl) (evalOpt_ok hh) (evalOpt_ok hm) w; exact fin e q
  · cases hr

end
end Go.Det
