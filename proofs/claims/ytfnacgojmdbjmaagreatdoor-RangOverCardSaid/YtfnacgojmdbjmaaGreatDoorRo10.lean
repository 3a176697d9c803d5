/- A text of a proof. -/
import Derived.Test.YtfnacgojmdbjmaaGreatDoorRo9
namespace Go.Det
variable {P : Program}

theorem loopW_unroll {cw : Cw} (hm : CwMono cw) {a : Code} {l : Tmps} {s : St} {K : KC} (h : codeW P cw a l s (stepW (fun l s => codeW P cw (.loop a) l s K) K)) : codeW P cw (.loop a) l s K := by
  intro R h1 h2
  exact h1 l s (codeW_mono hm a (stepW_mono (fun l s q => q R h1 h2) fun _ _ _ q => q) h)
theorem loopW_weak {cw : Cw} {a : Code} {l l' : Tmps} {s s' : St} {K : KC} (w : Weaker l s l' s') (h : codeW P cw (.loop a) l' s' K) : codeW P cw (.loop a) l s K :=
  fun R h1 h2 => h2 l s l' s' w (h R h1 h2)
/-- A loop by what stands at its head: the i-th state, of a measure that falls. -/
theorem loopW_inv {cw : Cw} (hm : CwMono cw) {a : Code} {K : KC} {ι : Type} (μ : ι → Nat) (L : ι → Tmps) (S : ι → St) (ok : ι → Prop)
    (hstep : ∀ i, ok i → codeW P cw a (L i) (S i) (stepW (fun l' s' => ∃ j, ok j ∧ μ j < μ i ∧ Weaker l' s' (L j) (S j)) K))
    (i : ι) (h0 : ok i) : codeW P cw (.loop a) (L i) (S i) K := by
  suffices key : ∀ n i, μ i = n → ok i → codeW P cw (.loop a) (L i) (S i) K from key _ i rfl h0
  intro n
  induction n using Nat.strongRecOn with
  | _ n ih =>
    intro i hn hi
    refine loopW_unroll hm (codeW_mono hm a (stepW_mono (fun l s q => ?_) fun _ _ _ q => q) (hstep i hi))
    obtain ⟨j, hj, hlt, w⟩ := q
    exact loopW_weak w (ih (μ j) (by omega) j rfl hj)

/-! what may be forgotten, and numbered anew -/
def renφ (ρ : Nat → Option Nat) (φ : Ren) : Ren := fun id => if id < 64 then φ id else match ρ id with | some o => φ o | none => none
/-- the value v, known less well as v' -/
def Wk (ρ : Nat → Option Nat) (v' v : Value) : Prop := ∀ φ x, VR φ v x → VR (renφ ρ φ) v' x
theorem Wk.und (ρ : Nat → Option Nat) (v : Value) : Wk ρ und v := fun _ _ _ => .any _
theorem Wk.flat {ρ : Nat → Option Nat} {v : Value} (h : flat v = true) : Wk ρ v v := fun _ _ k => flat_any h k
theorem Wk.slice {ρ : Nat → Option Nat} {i o off n c : Nat} (hi : 64 ≤ i) (h : ρ i = some o) : Wk ρ (.slice (some ⟨i, off, none⟩) n c) (.slice (some ⟨o, off, none⟩) n c) := by
  intro φ x k
  have e : ∀ y, φ o = some y → renφ ρ φ i = some y := fun y q => by unfold renφ; rw [if_neg (by omega), h]; exact q
  rcases slice_inv k with ⟨hc, a', rfl, h2⟩ | ⟨id', off', b, sh, sz, es, c', e1, rfl, e3, p, q, r, rfl⟩
  · rcases h2 with ⟨q, _⟩ | ⟨id', off', b, sh, sz, q, e1, rfl⟩
    · cases q
    · cases q; exact .slice _ _ _ _ _ _ _ (e _ e1) hc
  · cases e1; exact .sliceU _ _ _ _ _ _ _ _ (e _ e3) p q r
theorem Wk.slice_low {ρ : Nat → Option Nat} {i off n c : Nat} (hi : i < 64) : Wk ρ (.slice (some ⟨i, off, none⟩) n c) (.slice (some ⟨i, off, none⟩) n c) := by
  intro φ x k
  have e : ∀ y, φ i = some y → renφ ρ φ i = some y := fun y q => by unfold renφ; rw [if_pos hi]; exact q
  rcases slice_inv k with ⟨hc, a', rfl, h2⟩ | ⟨id', off', b, sh, sz, es, c', e1, rfl, e3, p, q, r, rfl⟩
  · rcases h2 with ⟨q, _⟩ | ⟨id', off', b, sh, sz, q, e1, rfl⟩
    · cases q
    · cases q; exact .slice _ _ _ _ _ _ _ (e _ e1) hc
  · cases e1; exact .sliceU _ _ _ _ _ _ _ _ (e _ e3) p q r
theorem Wk.ptr {ρ : Nat → Option Nat} {i o off : Nat} (hi : 64 ≤ i) (h : ρ i = some o) : Wk ρ (.pointer (some ⟨i, off, none⟩)) (.pointer (some ⟨o, off, none⟩)) := by
  intro φ x k
  obtain ⟨b, sh, sz, e, rfl⟩ := ptr_inv k
  exact .ptr _ _ _ _ _ (by unfold renφ; rw [if_neg (by omega), h]; exact e)

theorem flat_of1 {v : Value} (h : flat1 v = true) : flat v = true := by
  cases v <;> first
    | (simp [flat1] at h; done)
    | exact h
theorem weaker_of (ρ : Nat → Option Nat) {l l' : Tmps} {s s' : St} (ht : ∀ t, Wk ρ (lget l' t) (lget l t))
    (hlow : ∀ id cs e ro, id < 64 → s'.h.get id = some (.cells cs e ro) → s.h.get id = some (.cells cs e ro) ∧ flatL cs = true)
    (hcells : ∀ id cs e ro, 64 ≤ id → s'.h.get id = some (.cells cs e ro) → ∃ o cs0, ρ id = some o ∧ s.h.get o = some (.cells cs0 e ro) ∧ cs.length = cs0.length ∧ ∀ i, Wk ρ (cs.getD i und) (cs0.getD i und))
    (hinj : ∀ i j o, ρ i = some o → ρ j = some o → i = j) (hge : ∀ i o, ρ i = some o → 64 ≤ o)
    (hnm : ∀ id es, s'.h.get id ≠ some (.ob es)) (hn : ∀ id, s'.next ≤ id → ρ id = none ∧ s'.h.get id = none) (h64 : 64 ≤ s'.next) (hhi : s'.next ≤ s'.hi) : Weaker l s l' s' := by
  intro w0 φ0 n a w φ hφ0 A
  have hrn : ∀ id x, renφ ρ φ id = some x → (id < 64 ∧ φ id = some x) ∨ (64 ≤ id ∧ ∃ o, ρ id = some o ∧ φ o = some x) := by
    intro id x e
    unfold renφ at e
    by_cases q : id < 64
    · rw [if_pos q] at e; exact .inl ⟨q, e⟩
    · rw [if_neg q] at e
      split at e
      · rename_i o ho; exact .inr ⟨by omega, o, ho, e⟩
      · cases e
  refine ⟨renφ ρ φ, ⟨A.hr.os, A.hr.output, A.hr.tape, A.hr.size, A.hr.old, fun id b sh sz e => ?_, fun id cs e ro g => ?_, ?_, fun id es g => absurd g (hnm id es), fun i j ei ej bi si zi bj sj zj hij gi _ _ _ => absurd gi (hnm i ei)⟩, fun id x e => ?_, ⟨A.fr.size, fun t => ht t _ _ (A.fr.tmp t), A.fr.defers⟩, fun id q => ?_, fun id q => (hn id q).2, hhi⟩
  · rcases hrn _ _ e with ⟨_, e⟩ | ⟨_, o, _, e⟩
    · exact A.hr.dom _ _ _ _ e
    · exact A.hr.dom _ _ _ _ e
  · by_cases q : id < 64
    · obtain ⟨g0, hf⟩ := hlow _ _ _ _ q g
      obtain ⟨b, sh, sz, c, fz, k⟩ := A.hr.cells _ _ _ _ g0
      refine ⟨b, sh, sz, c, fz, by unfold renφ; rw [if_pos q]; exact k.at_, k.blk, k.exact_, k.size, k.fit, fun i hi => ?_, k.mine⟩
      have hv := k.cell i hi
      refine flat_any ?_ hv
      have hfl : ∀ {l : List Value} {i : Nat}, flatL l = true → i < l.length → flat (l.getD i und) = true := by
        intro l
        induction l with
        | nil => intro i _ h; simp at h
        | cons v t ih =>
          intro i h1 h2
          simp only [flatL, Bool.and_eq_true] at h1
          cases i with
          | zero => exact flat_of1 h1.1
          | succ i => simpa using ih h1.2 (by simpa using h2)
      exact hfl hf hi
    · obtain ⟨o, cs0, ho, g0, hl, hc⟩ := hcells _ _ _ _ (by omega) g
      obtain ⟨b, sh, sz, c, fz, k⟩ := A.hr.cells _ _ _ _ g0
      exact ⟨b, sh, sz, c, fz, by unfold renφ; rw [if_neg q, ho]; exact k.at_, k.blk, k.exact_, k.size, by rw [hl]; exact k.fit, fun i hi => hc i _ _ (k.cell i (by omega)), k.mine⟩
  · intro i j ci ei cj ej ro bi si zi bj sj zj hij gi gj ai aj
    have old : ∀ {id cs e r b sh sz}, s'.h.get id = some (.cells cs e r) → renφ ρ φ id = some (b, sh, sz) → ∃ o cs0, s.h.get o = some (.cells cs0 e r) ∧ φ o = some (b, sh, sz) ∧ ((id < 64 ∧ o = id) ∨ (64 ≤ id ∧ ρ id = some o)) := by
      intro id cs e r b sh sz g e1
      rcases hrn _ _ e1 with ⟨q, e2⟩ | ⟨q, o, ho, e2⟩
      · exact ⟨id, cs, (hlow _ _ _ _ q g).1, e2, .inl ⟨q, rfl⟩⟩
      · obtain ⟨o', cs0, ho', g0, _, _⟩ := hcells _ _ _ _ q g
        rw [ho] at ho'; cases ho'
        exact ⟨o, cs0, g0, e2, .inr ⟨q, ho⟩⟩
    obtain ⟨oi, c1, g1, a1, k1⟩ := old gi ai
    obtain ⟨oj, c2, g2, a2, k2⟩ := old gj aj
    refine A.hr.inj oi oj c1 ei c2 ej ro bi si zi bj sj zj ?_ g1 g2 a1 a2
    intro e
    subst e
    rcases k1 with ⟨q1, rfl⟩ | ⟨q1, e1⟩ <;> rcases k2 with ⟨q2, e3⟩ | ⟨q2, e2⟩
    · exact hij e3
    · have := hge _ _ e2; omega
    · have := hge _ _ e1; omega
    · exact hij (hinj _ _ _ e1 e2)
  · have hlt : id < 64 := by
      rcases Nat.lt_or_ge id 64 with q | q
      · exact q
      · rw [hφ0 id q] at e; cases e
    unfold renφ; rw [if_pos hlt]; exact A.le _ _ e
  · unfold renφ
    rw [if_neg (by omega), (hn id q).1]

/-- only slots are forgotten -/
theorem weaker_tmps {l l' : Tmps} {s : St} (h : ∀ t, lget l' t = und ∨ lget l' t = lget l t) : Weaker l s l' s := by
  intro w0 φ0 n a w φ _ A
  refine ⟨φ, A.hr, A.le, ⟨A.fr.size, fun t => ?_, A.fr.defers⟩, A.fresh, A.none_, A.hi⟩
  rcases h t with e | e
  · rw [e]; exact .any _
  · rw [e]; exact A.fr.tmp t

end Go.Det
