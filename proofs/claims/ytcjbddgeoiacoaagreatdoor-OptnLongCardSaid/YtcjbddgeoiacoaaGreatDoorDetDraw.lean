/- A part of an evaluator of closed runs and of its soundness. -/
import Derived.Test.YtcjbddgeoiacoaaGreatDoorDetFrame
namespace Go.Det
variable {P : Program}

theorem evalL_congr {l l' : Tmps} : ∀ {xs : List Operand}, (∀ x ∈ xs, evalO l x = evalO l' x) → evalL l xs = evalL l' xs
  | [], _ => rfl
  | x :: t, h => by rw [evalL, evalL, h x (by simp), evalL_congr fun y hy => h y (by simp [hy])]
theorem pairsO_congr {l l' : Tmps} : ∀ {xs : List (Nat × Operand)}, (∀ x ∈ xs, evalO l x.2 = evalO l' x.2) → pairsO l xs = pairsO l' xs
  | [], _ => rfl
  | (i, x) :: t, h => by rw [pairsO, pairsO, h (i, x) (by simp), pairsO_congr fun y hy => h y (by simp [hy])]
theorem evalOpt_congr {l l' : Tmps} {x : Option Operand} (h : ∀ y, x = some y → evalO l y = evalO l' y) : evalOpt l x = evalOpt l' x := by
  cases x with
  | none => rfl
  | some y => rw [evalOpt, evalOpt, h y rfl]

theorem opD_congr {call : Call} {o : Oper} {l l' : Tmps} (h : ∀ x ∈ o.op.operands.toList, evalO l x = evalO l' x) : opD P call o l = opD P call o l' := by
  unfold opD
  cases hop : o.op <;> rw [hop] at h <;> simp only [Op.operands] at h <;> simp only
  case move x => funext s; simp only [opMove, h x (by simp)]
  case assign x => funext s; simp only [opMove, h x (by simp)]
  case pick c a b => funext s; simp only [opPick, h c (by simp), h a (by simp), h b (by simp)]
  case alloc e => rfl
  case box e x => funext s; simp only [opBox, h x (by simp)]
  case build t ps => funext s; simp only [opBuild, pairsO_congr (xs := ps.toList) (l := l) (l' := l') fun x hx => h x.2 (by simp; exact ⟨x.1, by simpa using hx⟩)]
  case buildSlice t n ps => funext s; simp only [opBuildSlice, pairsO_congr (xs := ps.toList) (l := l) (l' := l') fun x hx => h x.2 (by simp; exact ⟨x.1, by simpa using hx⟩)]
  case load t a => funext s; simp only [opLoad, h a (by simp)]
  case store t a x => funext s; simp only [opStore, h a (by simp), h x (by simp)]
  case nilCheck x => funext s; simp only [opNilCheck, h x (by simp)]
  case binOp op t x y yt => funext s; simp only [opBin, h x (by simp), h y (by simp)]
  case unOp op xt x => funext s; simp only [opUn, h x (by simp)]
  case convert a b x => funext s; simp only [opConvert, h x (by simp)]
  case makeInterface t x => funext s; simp only [opMakeInterface, h x (by simp)]
  case makeFunc fn a b =>
    funext s
    simp only [opMakeFunc, evalL_congr (xs := a.toList) (l := l) (l' := l') (fun x hx => h x (by simp at hx ⊢; exact .inl hx)), evalL_congr (xs := b.toList) (l := l) (l' := l') (fun x hx => h x (by simp at hx ⊢; exact .inr hx))]
  case makeSlice t n c => funext s; simp only [opMakeSlice, h n (by simp), h c (by simp)]
  case slice t x lo hi mx =>
    funext s
    simp only [opSlice, h x (by simp), evalOpt_congr (l := l) (l' := l') (x := lo) (fun y hy => h y (by subst hy; simp)), evalOpt_congr (l := l) (l' := l') (x := hi) (fun y hy => h y (by subst hy; simp)),
      evalOpt_congr (l := l) (l' := l') (x := mx) (fun y hy => h y (by subst hy; simp))]
  case fieldAddr t x f => funext s; simp only [opFieldAddr, h x (by simp)]
  case field t x f => funext s; simp only [opField, h x (by simp)]
  case indexAddr t x i => funext s; simp only [opIndexAddr, h x (by simp), h i (by simp)]
  case index t x i => funext s; simp only [opIndex, h x (by simp), h i (by simp)]
  case extract t i => funext s; simp only [opExtract, h t (by simp)]
  case lookup t x k ok => funext s; simp only [opLookup, h x (by simp), h k (by simp)]
  case range t x => funext s; simp only [opRange, h x (by simp)]
  case next x str => funext s; simp only [opNext, h x (by simp)]
  case entry x => funext s; simp only [opEntry, h x (by simp)]
  case mapUpdate t x k v => funext s; simp only [opMapUpdate, h x (by simp), h k (by simp), h v (by simp)]
  case call c =>
    unfold opCall
    cases hcal : c.callee with
    | builtin b =>
      simp only at h ⊢
      funext s
      simp only [opBuiltin, evalL_congr (xs := c.args.toList) (l := l) (l' := l') (fun x hx => h x (by simp [Call.operands, hcal]; simpa using hx))]
    | value f =>
      simp only at h ⊢
      funext s
      simp only [opCallV, h f (by simp [Call.operands, hcal]), evalL_congr (xs := c.args.toList) (l := l) (l' := l') (fun x hx => h x (by simp [Call.operands, hcal]; right; simpa using hx))]
    | invoke r m => rfl
  all_goals rfl

theorem readsL_bit {l : List Operand} {t : Nat} (h : Operand.tmp t ∈ l) : bit (readsL l) t := by
  induction l with
  | nil => cases h
  | cons x r ih =>
    rw [readsL]
    rcases List.mem_cons.1 h with rfl | h
    · exact bit_or.2 (.inl (bit_one.2 rfl))
    · exact bit_or.2 (.inr (ih h))

theorem evalO_same {l l' : Tmps} {x : Operand} (h : ∀ t, x = .tmp t → lget l t = lget l' t) : evalO l x = evalO l' x := by
  cases x with
  | tmp t => exact h t rfl
  | _ => rfl

theorem wantRun_congr {call : Call} {all : List Oper} {o : Oper} {l l' : Tmps} (h : ∀ t, bit (readsT all o) t → lget l t = lget l' t) :
    wantedD all l o = wantedD all l' o ∧ wantRun (opD P call o) (fun l => wantedD all l o) l = wantRun (opD P call o) (fun l => wantedD all l o) l' := by
  have e : wantedD all l o = wantedD all l' o := by
    unfold wantedD
    cases hg : o.guard with
    | none => rfl
    | some g =>
      simp only
      cases hn : nth all g.1 with
      | none => rfl
      | some q =>
        simp only
        cases hd : q.dst with
        | none => rfl
        | some d =>
          simp only
          rw [h d (by unfold readsT; rw [hg]; simp only [hn, hd]; exact bit_or.2 (.inr (bit_one.2 rfl)))]
  refine ⟨e, ?_⟩
  funext s
  unfold wantRun
  simp only [e]
  rw [opD_congr fun x hx => evalO_same fun t ht => h t (by subst ht; exact bit_or.2 (.inl (readsL_bit hx)))]

/-- The value at a place, by the last of a set of writers. -/
def Last {α : Type} (W : Nat → Nat → Prop) (val : Nat → Nat → α) (v0 : Nat → α) (E : Nat → Prop) (x : Nat) (v : α) : Prop :=
  (∃ j, E j ∧ W j x ∧ (∀ k, E k → W k x → k ≤ j) ∧ v = val j x) ∨ ((∀ j, E j → ¬ W j x) ∧ v = v0 x)

theorem Last.unique {α : Type} {W : Nat → Nat → Prop} {val : Nat → Nat → α} {v0 : Nat → α} {E E' : Nat → Prop} {x : Nat} {v v' : α} (h : Last W val v0 E x v) (h' : Last W val v0 E' x v')
    (e : ∀ j, W j x → (E j ↔ E' j)) : v = v' := by
  rcases h with ⟨j, h1, h2, h3, rfl⟩ | ⟨h1, rfl⟩ <;> rcases h' with ⟨j', k1, k2, k3, rfl⟩ | ⟨k1, rfl⟩
  · have a := h3 j' ((e j' k2).2 k1) k2
    have b := k3 j ((e j h2).1 h1) h2
    obtain rfl : j = j' := by omega
    rfl
  · exact absurd h2 (k1 j ((e j h2).1 h1))
  · exact absurd k2 (h1 j' ((e j' k2).2 k1))
  · rfl
theorem Last.add {α : Type} {W : Nat → Nat → Prop} {val : Nat → Nat → α} {v0 : Nat → α} {E : Nat → Prop} {x i : Nat} (hw : W i x) (hl : ∀ k, E k → W k x → k ≤ i) :
    Last W val v0 (fun j => j = i ∨ E j) x (val i x) :=
  .inl ⟨i, .inl rfl, hw, fun k hk hkw => by rcases hk with rfl | hk; exact Nat.le_refl _; exact hl k hk hkw, rfl⟩
theorem Last.skip {α : Type} {W : Nat → Nat → Prop} {val : Nat → Nat → α} {v0 : Nat → α} {E : Nat → Prop} {x i : Nat} {v : α} (h : Last W val v0 E x v) (hw : ¬ W i x) :
    Last W val v0 (fun j => j = i ∨ E j) x v := by
  rcases h with ⟨j, h1, h2, h3, h4⟩ | ⟨h1, h4⟩
  · exact .inl ⟨j, .inr h1, h2, fun k hk hkw => by rcases hk with rfl | hk; exact absurd hkw hw; exact h3 k hk hkw, h4⟩
  · exact .inr ⟨fun j hj => by rcases hj with rfl | hj; exact hw; exact h1 j hj, h4⟩
theorem Last.iff {α : Type} {W : Nat → Nat → Prop} {val : Nat → Nat → α} {v0 : Nat → α} {E E' : Nat → Prop} {x : Nat} {v : α} (h : Last W val v0 E x v) (e : ∀ j, E j ↔ E' j) : Last W val v0 E' x v := by
  have : E = E' := funext fun j => propext (e j)
  rw [← this]; exact h

end Go.Det
