/- A part of an evaluator of closed runs and of its soundness. -/
import Derived.Test.YtcjbddgeoiacoaaGreatDoorDetMain
import GoSem.ClaimChange
namespace Go.Det
variable {P : Program}

/-- What is answered by itself, and what is run: the functions of the mask; nothing else. -/
noncomputable def mkIntr (mask : Nat) (ext : Intr) : Intr := fun f => match Nat.testBit mask f with
  | true => none
  | false => match ext f with
    | some g => some g
    | none => some fun _ _ => none

theorem mkIntr_none {mask : Nat} {ext : Intr} {f : FuncId} (h : mkIntr mask ext f = none) : Nat.testBit mask f = true := by
  unfold mkIntr at h
  split at h
  · assumption
  · split at h <;> cases h
theorem mkIntr_some {mask : Nat} {ext : Intr} {f : FuncId} {g} (h : mkIntr mask ext f = some g) : ext f = some g ∨ g = fun _ _ => none := by
  unfold mkIntr at h
  split at h
  · cases h
  · split at h
    · rename_i g' hg; cases h; exact .inl hg
    · cases h; exact .inr rfl
theorem mkIntr_tr {mask : Nat} {ext : Intr} (h : IntrTr ext) : IntrTr (mkIntr mask ext) := by
  intro f g hf args
  rcases mkIntr_some hf with h1 | rfl
  · exact h f g h1 args
  · exact none_tr fun _ => rfl
theorem mkIntr_ok {w0 : World} {G : Nat} {mask : Nat} {ext : Intr} (h : IntrOk P w0 G ext) : IntrOk P w0 G (mkIntr mask ext) := by
  intro f g hf
  rcases mkIntr_some hf with h1 | rfl
  · exact h f g h1
  · intro args s v s' e; cases e

noncomputable def okAt (P : Program) (G f : Nat) : Bool := match nth P.funcs.toList f with | some fn => okFunc G fn | none => true
noncomputable def okMask (P : Program) (G mask : Nat) : Nat → Bool
  | 0 => true
  | f + 1 => (match Nat.testBit mask f with | true => okAt P G f | false => true) && okMask P G mask f
theorem okMask_at {G mask : Nat} : ∀ {N : Nat}, okMask P G mask N = true → ∀ f, f < N → Nat.testBit mask f = true → okAt P G f = true
  | 0, _, f, hf, _ => by omega
  | N + 1, h, f, hf, hb => by
    simp only [okMask, Bool.and_eq_true] at h
    by_cases e : f = N
    · subst e; have := h.1; rw [hb] at this; exact this
    · exact okMask_at h.2 f (by omega) hb
theorem mask_lt {mask N f : Nat} (h : Nat.ble (mask + 1) (Nat.shiftLeft 1 N) = true) (hb : Nat.testBit mask f = true) : f < N := bit_lt (Nat.le_of_ble_eq_true h) hb

/-- One check of the functions that are run. -/
theorem ok_of_mask {G mask N : Nat} {ext : Intr} (h : (Nat.ble (mask + 1) (Nat.shiftLeft 1 N) && okMask P G mask N) = true) :
    ∀ f fn, mkIntr mask ext f = none → nth P.funcs.toList f = some fn → okFunc G fn = true := by
  intro f fn hf hn
  rw [Bool.and_eq_true] at h
  have hb := mkIntr_none hf
  have := okMask_at h.2 f (mask_lt h.1 hb) hb
  unfold okAt at this
  rw [hn] at this
  exact this

noncomputable def isTrue : Option (Value × St) → Bool
  | some x => match x.1 with | .bool b => b | _ => false
  | none => false
theorem isTrue_some {r : Option (Value × St)} (h : isTrue r = true) : ∃ s', r = some (.bool true, s') := by
  cases r with
  | none => cases h
  | some x =>
    obtain ⟨v, s⟩ := x
    cases v with
    | bool b => have h : b = true := h; subst h; exact ⟨s, rfl⟩
    | _ => cases h

/-- What is left as it was. -/
structure Kept (W W' : World) : Prop where
  os : W'.os = W.os
  output : W'.output = W.output
  size : W.heap.size ≤ W'.heap.size
  old : ∀ b, b < W.heap.size → W'.heap[b]? = W.heap[b]?
theorem HR.kept {φ : Ren} {h : Heap} {W W' : World} (H : HR φ h W W') : Kept W W' := ⟨H.os, H.output, H.size, H.old⟩
theorem Kept.trans {A B C : World} (h : Kept A B) (k : Kept B C) : Kept A C :=
  ⟨k.os.trans h.os, k.output.trans h.output, Nat.le_trans h.size k.size, fun b hb => (k.old b (Nat.lt_of_lt_of_le hb h.size)).trans (h.old b hb)⟩
theorem Kept.but {W W' : World} (h : Kept W W') (may : MemPlace → Prop) : W.keptBut W' may := by
  refine ⟨h.os, h.output, fun i hi => ?_⟩
  rw [h.old i hi]
  cases hb : W.heap[i]? with
  | none => rfl
  | some x => cases x <;> simp

/-- A birth of no memory of one's own but what is laid. -/
noncomputable def birth (h : Heap) (k : Nat) : St := { h := h, next := k, hi := k, rd := 0, wr := 0 }

/-- A CLOSED RUN: what the evaluator comes to, the machine comes to. -/
theorem run_call {G mask N n k : Nat} {ext : Intr} {f : FuncId} {fn : Func} {c : Code} {args args' : List Value} {h : Heap} {top : Nat} {W : World} {φ : Ren} {v : Value} {s' : St}
    (hm : P.follows .mixedOrders = true) (hok : (Nat.ble (mask + 1) (Nat.shiftLeft 1 N) && okMask P G mask N) = true) (hit : IntrTr ext) (hio : IntrOk P W G ext)
    (hf : P.funcs[f]? = some fn) (hb : fn.body = some c) (hn : (fn.name == "runtime.NumGoroutine") = false)
    (H : HR φ h W W) (hG : Glob G φ) (hA : VRL φ args args') (hφ : ∀ id, top ≤ id → φ id = none) (hF : ∀ id, top ≤ id → h.get id = none)
    (e : callD P (mkIntr mask ext) n k f args (birth h top) = some (v, s')) :
    Calls P f ⟨args'⟩ W fun e W' => ∃ v' φ', e = .returned v' ∧ Ext φ φ' top s'.next ∧ VR φ' v v' ∧ HR φ' s'.h W W' := by
  have := callD_ok (P := P) (w0 := W) (G := G) hm (ok_of_mask hok) (mkIntr_tr hit) (mkIntr_ok hio) n k f args _ v s' e φ W args' H hG hA (fun id q _ => hφ id q) ⟨Nat.le_refl _, fun id q _ => hF id q⟩
  rw [callFunc_run hf hb hn] at this
  exact this

theorem run_true {G mask N n k : Nat} {ext : Intr} {f : FuncId} {fn : Func} {c : Code} {args args' : List Value} {h : Heap} {top : Nat} {W : World} {φ : Ren}
    (hm : P.follows .mixedOrders = true) (hok : (Nat.ble (mask + 1) (Nat.shiftLeft 1 N) && okMask P G mask N) = true) (hit : IntrTr ext) (hio : IntrOk P W G ext)
    (hf : P.funcs[f]? = some fn) (hb : fn.body = some c) (hn : (fn.name == "runtime.NumGoroutine") = false)
    (H : HR φ h W W) (hG : Glob G φ) (hA : VRL φ args args') (hφ : ∀ id, top ≤ id → φ id = none) (hF : ∀ id, top ≤ id → h.get id = none)
    (e : isTrue (callD P (mkIntr mask ext) n k f args (birth h top)) = true) :
    Calls P f ⟨args'⟩ W fun e W' => e = .returned (.bool true) ∧ Kept W W' := by
  obtain ⟨s', e⟩ := isTrue_some e
  refine (run_call hm hok hit hio hf hb hn H hG hA hφ hF e).mono ?_
  rintro e W' ⟨v', φ', rfl, _, hv, H'⟩
  rw [bool_inv hv]
  exact ⟨rfl, H'.kept⟩

theorem HR.empty (φ : Ren) (W : World) (hd : ∀ id b sh sz, φ id = some (b, sh, sz) → b < W.heap.size) : HR φ [] W W := by
  have hg : ∀ id, Heap.get [] id = none := by
    intro id
    show lgetR none (lgetR [] [] (id / 8)) (id % 8) = none
    rw [lgetR_nil, lgetR_nil]
  exact ⟨rfl, rfl, rfl, Nat.le_refl _, fun _ _ => rfl, hd, fun id cs e ro h => (by rw [hg] at h; cases h), fun i j ci ei cj ej ro bi si zi bj sj zj _ h => (by rw [hg] at h; cases h),
    fun id es h => (by rw [hg] at h; cases h), fun i j ei ej bi si zi bj sj zj _ h => (by rw [hg] at h; cases h)⟩

noncomputable def noExt : Intr := fun _ => none
theorem noExt_tr : IntrTr noExt := fun f g h => by cases h
theorem noExt_ok (w0 : World) (G : Nat) : IntrOk P w0 G noExt := fun f g h => by cases h

end Go.Det
