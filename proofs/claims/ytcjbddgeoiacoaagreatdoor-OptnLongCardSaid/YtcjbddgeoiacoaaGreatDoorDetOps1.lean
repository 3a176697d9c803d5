/- A part of an evaluator of closed runs and of its soundness. -/
import Derived.Test.YtcjbddgeoiacoaaGreatDoorDetHeap
import Derived.Laws.BitsLemmas
import Derived.Laws.StructEq
namespace Go.Det
variable {P : Program}

theorem pureRun_run {α : Type} {m : Sem α} {a : α} (h : pureRun P m = some a) (w : World) : m.run P w = .ok a w := by
  induction m generalizing w with
  | pure x => simp only [pureRun] at h; cases h; rfl
  | program k ih => simp only [pureRun] at h; exact ih _ h w
  | mark m k ih => simp only [pureRun] at h; exact ih h w
  | _ => simp [pureRun] at h

/-- What an operation of the machine comes to, held against the evaluator's answer. -/
def Gives (P : Program) (w0 : World) (φ : Ren) (lo : Nat) (s' : St) (v : Value) : Result Next → Prop
  | .ok (.value v') w' => ∃ φ', Ext φ φ' lo s'.next ∧ VR φ' v v' ∧ HR φ' s'.h w0 w'
  | .ok .skip w' => ∃ φ', Ext φ φ' lo s'.next ∧ VR φ' v undef ∧ HR φ' s'.h w0 w'
  | .ok (.enter f as) w1 => Calls P f as w1 fun e w' => ∃ v' φ', e = .returned v' ∧ Ext φ φ' lo s'.next ∧ VR φ' v v' ∧ HR φ' s'.h w0 w'
  | _ => False

theorem Gives.wp {w0 w : World} {φ : Ren} {lo : Nat} {s' : St} {v : Value} {o : Oper} {a : Act} {next : Act → World → Prop} {Q : Exit → Act → World → Prop}
    (h : Gives P w0 φ lo s' v ((execOp a.eval o).run P w))
    (k : ∀ φ' v' w', Ext φ φ' lo s'.next → VR φ' v v' → HR φ' s'.h w0 w' → next (a.put o.dst v') w') : o.wp P a w next Q := by
  unfold Oper.wp
  revert h
  generalize (execOp a.eval o).run P w = r
  intro h
  cases r with
  | halt x w' => exact h.elim
  | ok n w' =>
    cases n with
    | value v' => obtain ⟨φ', e, q, H⟩ := h; exact k φ' v' w' e q H
    | skip => obtain ⟨φ', e, q, H⟩ := h; exact k φ' undef w' e q H
    | enter f as =>
      refine Calls.mono (R := fun e w' => ∃ v' φ', e = .returned v' ∧ Ext φ φ' lo s'.next ∧ VR φ' v v' ∧ HR φ' s'.h w0 w') h ?_
      rintro e w' ⟨v', φ', rfl, q1, q2, q3⟩
      exact k φ' v' w' q1 q2 q3
    | _ => exact h.elim

/-- An operation that only computes. -/
theorem gives_pure {w0 w : World} {φ : Ren} {s : St} {lo : Nat} {v v' : Value} {m : Sem Value} (H : HR φ s.h w0 w) (hv : VR φ v v') (hr : m.run P w = .ok v' w) :
    Gives P w0 φ lo s v ((do pure (Next.value (← m)) : Sem Next).run P w) := by
  rw [Sem.run_bind, hr]
  exact ⟨φ, Ext.refl _ _ _, hv, H⟩

theorem bool_inv {φ : Ren} {b : Bool} {v' : Value} (h : VR φ (.bool b) v') : v' = .bool b := by cases h; rfl
theorem int_inv {φ : Ren} {k : IntKind} {n : Int} {v' : Value} (h : VR φ (.int k n) v') : v' = .int k n := by cases h; rfl
theorem string_inv {φ : Ren} {s : ByteArray} {v' : Value} (h : VR φ (.string s) v') : v' = .string s := by cases h; rfl

section
variable {w0 w : World} {φ : Ren} {l : Tmps} {s s' : St} {v : Value} {ρ : Operand → Value} {lo : Nat}

theorem opMove_ok {x : Operand} (h : opMove x l s = some (v, s')) (H : HR φ s.h w0 w) (hx : VR φ (evalO l x) (ρ x)) :
    Gives P w0 φ lo s' v (Result.ok (Next.value (ρ x)) w) := by
  simp only [opMove, Option.some.injEq, Prod.mk.injEq] at h
  obtain ⟨rfl, rfl⟩ := h
  exact ⟨φ, Ext.refl _ _ _, hx, H⟩

theorem opPick_ok {c a b : Operand} (h : opPick c a b l s = some (v, s')) (H : HR φ s.h w0 w) (hc : VR φ (evalO l c) (ρ c)) (ha : VR φ (evalO l a) (ρ a)) (hb : VR φ (evalO l b) (ρ b)) :
    Gives P w0 φ lo s' v ((do pure (.value (if ← asBool (ρ c) then ρ a else ρ b)) : Sem Next).run P w) := by
  unfold opPick at h
  split at h
  · rename_i t ht
    rw [ht] at hc
    have := bool_inv hc
    cases t <;> simp only [Option.some.injEq, Prod.mk.injEq] at h <;> obtain ⟨rfl, rfl⟩ := h <;> simp [this, asBool, Gives]
    · exact ⟨φ, Ext.refl _ _ _, hb, H⟩
    · exact ⟨φ, Ext.refl _ _ _, ha, H⟩
  · cases h

theorem kindEq_eq {a b : IntKind} (h : kindEq a b = true) : a = b := by cases a <;> cases b <;> simp_all [kindEq]

theorem intBin_run {op : BinOp} {k : IntKind} {a b : Int} {r : Value} (h : intBin op k a b = some r) (t : TypeId) (x y : Operand) (w : World) :
    (do eqGuard op t x y (.int k a) (.int k b); binOp op t (.int k a) (.int k b) : Sem Value).run P w = .ok r w := by
  cases op <;> simp only [intBin] at h <;> first
    | (cases h; simp [eqGuard, binOp, Op.intArith, Op.intCmp]; done)
    | (cases h; simp [eqGuard, binOp, Op.intBits, andI, orI, xorI, andNotI]; done)
    | (split at h
       · cases h
       · rename_i hd
         cases h
         have hd := of_decide_eq_false hd
         simp [eqGuard, binOp, Op.intDiv, hd])
    | (cases h; done)

theorem shiftBin_run {op : BinOp} {k k' : IntKind} {a b : Int} {r : Value} (h : shiftBin op k a b = some r) (t : TypeId) (x y : Operand) (w : World) :
    (do eqGuard op t x y (.int k a) (.int k' b); binOp op t (.int k a) (.int k' b) : Sem Value).run P w = .ok r w := by
  cases op <;> simp only [shiftBin] at h <;> first
    | (split at h
       · cases h
       · rename_i hd
         cases h
         have hd := of_decide_eq_false hd
         simp [eqGuard, binOp, Op.shift, hd, shlI, shrI])
    | (cases h; done)

theorem strBin_run {op : BinOp} {a b : ByteArray} {r : Value} (h : strBin op a b = some r) (t : TypeId) (x y : Operand) (w : World) :
    (do eqGuard op t x y (.string a) (.string b); binOp op t (.string a) (.string b) : Sem Value).run P w = .ok r w := by
  cases op <;> simp only [strBin] at h <;> first
    | (split at h
       · rename_i hd
         cases h
         have hd := Nat.le_of_ble_eq_true hd
         have hd2 : ¬ ((a.size + b.size : Nat) : Int) > IntKind.i64.max := by
           have : IntKind.i64.max = 9223372036854775807 := by decide
           omega
         simp only [eqGuard, binOp, Op.stringOp, if_neg hd2]
         simp
       · cases h)
    | (cases h; simp [eqGuard, binOp, Op.stringOp, strEq, strLt, ByteArray.toList_eq]; done)
    | (cases h; done)

theorem strBin_kind {op : BinOp} {a b : ByteArray} {r : Value} (h : strBin op a b = some r) (φ : Ren) : VR φ r r := by
  cases op <;> simp only [strBin] at h <;> first
    | (split at h
       · cases h; exact .string _
       · cases h)
    | (cases h; exact .bool _)
    | (cases h; done)
theorem shiftBin_kind {op : BinOp} {k : IntKind} {a b : Int} {r : Value} (h : shiftBin op k a b = some r) (φ : Ren) : VR φ r r := by
  cases op <;> simp only [shiftBin] at h <;> first
    | (split at h
       · cases h
       · cases h; exact .int _ _)
    | (cases h; done)
theorem intBin_kind {op : BinOp} {k : IntKind} {a b : Int} {r : Value} (h : intBin op k a b = some r) (φ : Ren) : VR φ r r := by
  cases op <;> simp only [intBin] at h <;> first
    | (cases h; exact .bool _)
    | (cases h; exact .int _ _)
    | (split at h
       · cases h
       · cases h; exact .int _ _)
    | (cases h; done)

/-! structs held against each other -/
theorem eqCells_nil : eqCells [] [] [] = some true := rfl
theorem eqCells_append : ∀ {ks ls : List Nat} {a b : List Value} {r : Bool}, eqCells (ks ++ ls) a b = some r →
    ∃ a1 a2 b1 b2 r1 r2, a = a1 ++ a2 ∧ b = b1 ++ b2 ∧ a1.length = ks.length ∧ b1.length = ks.length ∧ eqCells ks a1 b1 = some r1 ∧ eqCells ls a2 b2 = some r2 ∧ r = (r1 && r2)
  | [], ls, a, b, r, h => ⟨[], a, [], b, true, r, rfl, rfl, rfl, rfl, rfl, h, by simp⟩
  | k :: ks, ls, a, b, r, h => by
    rw [List.cons_append] at h
    unfold eqCells at h
    split at h
    · rename_i e; cases e
    · rename_i ks' k1 x s k2 y t e
      cases e
      split at h
      · rename_i hk
        split at h
        · rename_i r' hr
          cases h
          obtain ⟨a1, a2, b1, b2, r1, r2, rfl, rfl, e1, e2, e3, e4, rfl⟩ := eqCells_append hr
          exact ⟨_ :: a1, a2, _ :: b1, b2, _, r2, rfl, rfl, by simp [e1], by simp [e2], by rw [eqCells, hk, e3], e4, by rw [Bool.and_assoc]⟩
        · cases h
      · cases h
    · rename_i ks' x s y t e
      cases e
      split at h
      · rename_i r' hr
        cases h
        obtain ⟨a1, a2, b1, b2, r1, r2, rfl, rfl, e1, e2, e3, e4, rfl⟩ := eqCells_append hr
        exact ⟨_ :: a1, a2, _ :: b1, b2, _, r2, rfl, rfl, by simp [e1], by simp [e2], by rw [eqCells, e3], e4, by rw [Bool.and_assoc]⟩
      · cases h
    · rename_i ks' x s y t e
      cases e
      split at h
      · rename_i r' hr
        cases h
        obtain ⟨a1, a2, b1, b2, r1, r2, rfl, rfl, e1, e2, e3, e4, rfl⟩ := eqCells_append hr
        exact ⟨_ :: a1, a2, _ :: b1, b2, _, r2, rfl, rfl, by simp [e1], by simp [e2], by rw [eqCells, e3], e4, by rw [Bool.and_assoc]⟩
      · cases h
    · cases h

/-- what is asked of a type: that two parts of it are equal just if their cells are -/
def EqShape (P : Program) (d : Nat) (t : TypeId) (ks : List Nat) : Prop :=
  ∀ (xa xb x1 ya yb y1 : List Value) (r : Bool) (w : World), xa.length = ya.length → x1.length = ks.length → y1.length = ks.length → eqCells ks x1 y1 = some r →
    ∃ u v, (part t ⟨xa ++ (x1 ++ xb)⟩ xa.length).run P w = .ok u w ∧ (part t ⟨ya ++ (y1 ++ yb)⟩ xa.length).run P w = .ok v w ∧ (Op.equalIn d t u v).run P w = .ok r w

theorem eqFields_run {d : Nat} {sh : TypeId → Option (List Nat)} (hsh : ∀ t ks, sh t = some ks → EqShape P d t ks) : ∀ (fs : List Field) (off : Nat) (ks : List Nat), plainFs P sh off fs = some ks →
    ∀ (xa x1 ya y1 : List Value) (r : Bool) (w : World), xa.length = off → ya.length = off → eqCells ks x1 y1 = some r → (Op.eqFields d ⟨xa ++ x1⟩ ⟨ya ++ y1⟩ fs).run P w = .ok r w
  | [], off, ks, h, xa, x1, ya, y1, r, w, hx, hy, e => by
    simp only [plainFs, Option.some.injEq] at h
    subst h
    unfold eqCells at e
    split at e
    · cases e; simp [Op.eqFields]
    · rename_i q; cases q
    · rename_i q; cases q
    · rename_i q; cases q
    · cases e
  | f :: fs, off, ks, h, xa, x1, ya, y1, r, w, hx, hy, e => by
    unfold plainFs at h
    split at h
    case h_2 => cases h
    rename_i hn
    rw [Bool.and_eq_true] at hn
    have hoff := Nat.eq_of_beq_eq_true hn.2
    have hname : f.name ≠ "_" := by simpa using hn.1
    split at h
    case h_2 => cases h
    rename_i ks1 h1
    split at h
    case h_2 => cases h
    rename_i m hm
    split at h
    case h_2 => cases h
    rename_i hl
    have hl := Nat.eq_of_beq_eq_true hl
    split at h
    case h_2 => cases h
    rename_i ks2 h2
    cases h
    obtain ⟨a1, a2, b1, b2, r1, r2, rfl, rfl, e1, e2, e3, e4, rfl⟩ := eqCells_append e
    obtain ⟨u, v, q1, q2, q3⟩ := hsh _ _ h1 xa a2 a1 ya b2 b1 r1 w (by rw [hx, hy]) e1 e2 e3
    rw [hx] at q1 q2
    have ih := eqFields_run hsh fs (off + m) ks2 h2 (xa ++ a1) a2 (ya ++ b1) b2 r2 w (by simp; omega) (by simp; omega) e4
    rw [List.append_assoc, List.append_assoc] at ih
    simp only [Op.eqFields, if_pos hname, Sem.run_bind, hoff, q1, q2, q3, Result.andThen_ok]
    cases r1
    · simp
    · simpa using ih

theorem part_agg {t : TypeId} {fs : Array Field} {n : Nat} (ht : P.underlying t = some (.struct fs)) (hn : szOf P t = some n) (xa x1 xb : List Value) (h : x1.length = n) (w : World) :
    (part t ⟨xa ++ (x1 ++ xb)⟩ xa.length).run P w = .ok (.agg ⟨x1⟩) w := by
  have e1 : (isAgg t).run P w = .ok true w := by simp [isAgg, run_underlying ht]
  have e2 : (sizeOf t).run P w = .ok n w := by
    unfold szOf at hn
    split at hn
    · rename_i i hi; cases hn; simp [sizeOf, typeInfo, hi]
    · cases hn
  have e3 : (⟨xa ++ (x1 ++ xb)⟩ : Array Value).extract xa.length (xa.length + n) = ⟨x1⟩ := by
    apply Array.ext'
    simp [← h]
  simp only [part, Sem.run_bind, e1, Result.andThen_ok, if_true, e2, e3, Sem.run_pure]
  try rfl
theorem part_cell {t : TypeId} (ht : (isAggB P t) = some false) (xa xb : List Value) (v : Value) (w : World) :
    (part t ⟨xa ++ ([v] ++ xb)⟩ xa.length).run P w = .ok v w := by
  have e1 : (isAgg t).run P w = .ok false w := by
    unfold isAggB at ht
    split at ht <;> first
      | (cases ht; done)
      | (rename_i d hn1 hn2 hd
         simp only [isAgg, Sem.run_bind, run_underlying hd, Result.andThen_ok]
         cases d <;> first | rfl | exact absurd rfl (fun e => hn1 _ e) | exact absurd rfl (fun e => hn2 _ _ e))
  simp [part, e1]

theorem eqShape_cell {D : Nat} {t : TypeId} {k : Nat} (ht : isAggB P t = some false)
    (h : ∀ x y r w, eqCells [k] [x] [y] = some r → (Op.equalIn D t x y).run P w = .ok r w) : EqShape P D t [k] := by
  intro xa xb x1 ya yb y1 r w hl h1 h2 e
  match x1, y1, h1, h2 with
  | [x], [y], _, _ =>
    refine ⟨x, y, part_cell ht xa xb x w, ?_, h x y r w e⟩
    rw [hl]; exact part_cell ht ya yb y w

theorem eqShape_struct {D d : Nat} {t : TypeId} {fs : Array Field} {ks : List Nat} {sh : TypeId → Option (List Nat)} (ht : P.underlying t = some (.struct fs)) (hst : P.stoodInHeld t = false)
    (hs : szOf P t = some ks.length) (hf : plainFs P sh 0 fs.toList = some ks) (hsh : ∀ t ks, sh t = some ks → EqShape P D t ks) (hD : d = D + 1) : EqShape P d t ks := by
  subst hD
  intro xa xb x1 ya yb y1 r w hl h1 h2 e
  refine ⟨.agg ⟨x1⟩, .agg ⟨y1⟩, part_agg ht hs xa x1 xb h1 w, by rw [hl]; exact part_agg ht hs ya y1 yb h2 w, ?_⟩
  have hfs : P.fieldsOf t = fs := by unfold Program.fieldsOf; rw [ht]
  rw [run_equalIn_struct w D t ⟨x1⟩ ⟨y1⟩ (by rw [hfs]; exact ht) hst, hfs]
  exact eqFields_run hsh fs.toList 0 ks hf [] x1 [] y1 r w rfl rfl e

theorem isAggB_of {t : TypeId} {D : TypeDesc} (h : P.underlying t = some D) (h1 : ∀ fs, D ≠ .struct fs) (h2 : ∀ n e, D ≠ .array n e) : isAggB P t = some false := by
  unfold isAggB
  rw [h]
  cases D <;> first | rfl | exact absurd rfl (h1 _) | exact absurd rfl (h2 _ _)

theorem eqCells_one {k : Nat} {x y : Value} {r : Bool} (h : eqCells [k] [x] [y] = some r) :
    (k = 0 ∧ ∃ q a b, x = .int q a ∧ y = .int q b ∧ r = (a == b)) ∨ (k = 1 ∧ ∃ a b, x = .bool a ∧ y = .bool b ∧ r = (a == b)) ∨ (k = 2 ∧ ∃ a b, x = .string a ∧ y = .string b ∧ r = strEq a b) := by
  unfold eqCells at h
  split at h
  · rename_i q _ _; cases q
  · rename_i e1 e2 e3
    cases e1; cases e2; cases e3
    split at h
    · rename_i hk
      have hk := kindEq_eq hk
      subst hk
      rw [eqCells_nil] at h
      cases h
      exact .inl ⟨rfl, _, _, _, rfl, rfl, by simp⟩
    · cases h
  · rename_i e1 e2 e3
    cases e1; cases e2; cases e3
    rw [eqCells_nil] at h
    cases h
    exact .inr (.inl ⟨rfl, _, _, rfl, rfl, by simp⟩)
  · rename_i e1 e2 e3
    cases e1; cases e2; cases e3
    rw [eqCells_nil] at h
    cases h
    exact .inr (.inr ⟨rfl, _, _, rfl, rfl, by simp⟩)
  · cases h

theorem plainFs_congr {f g : TypeId → Option (List Nat)} (hfg : ∀ t ks m, f t = some ks → szOf P t = some m → Nat.beq m ks.length = true → g t = some ks) : ∀ (fs : List Field) (off : Nat) (ks : List Nat), plainFs P f off fs = some ks → plainFs P g off fs = some ks
  | [], off, ks, h => h
  | x :: fs, off, ks, h => by
    unfold plainFs at h ⊢
    split at h
    case h_2 => cases h
    split at h
    case h_2 => cases h
    rename_i ks1 h1
    split at h
    case h_2 => cases h
    rename_i m hm
    split at h
    case h_2 => cases h
    rename_i hl
    split at h
    case h_2 => cases h
    rename_i ks2 h2
    rw [hfg _ _ _ h1 hm hl]
    simp only [hl, plainFs_congr hfg fs _ _ h2]
    exact h

theorem plain_shape : ∀ (d D : Nat), d ≤ D → ∀ (t : TypeId) (ks : List Nat), plainSh P d t = some ks → (∀ fs, P.underlying t = some (.struct fs) → szOf P t = some ks.length) → EqShape P D t ks
  | 0, _, _, t, ks, h, _ => by cases h
  | d + 1, 0, hD, t, ks, h, _ => by omega
  | d + 1, D + 1, hD, t, ks, h, hs => by
    unfold plainSh at h
    split at h
    · rename_i hu
      cases h
      refine eqShape_cell (isAggB_of hu (fun _ => by simp) (fun _ _ => by simp)) fun x y r w e => ?_
      rcases eqCells_one e with ⟨q, _⟩ | ⟨_, a, b, rfl, rfl, rfl⟩ | ⟨q, _⟩
      · cases q
      · exact run_equalIn_bool' w D t a b hu
      · cases q
    · rename_i k hu
      cases h
      refine eqShape_cell (isAggB_of hu (fun _ => by simp) (fun _ _ => by simp)) fun x y r w e => ?_
      rcases eqCells_one e with ⟨_, k2, a, b, rfl, rfl, rfl⟩ | ⟨q, _⟩ | ⟨q, _⟩
      · exact run_equalIn_int w D t k2 k a b hu
      · cases q
      · cases q
    · rename_i hu
      cases h
      refine eqShape_cell (isAggB_of hu (fun _ => by simp) (fun _ _ => by simp)) fun x y r w e => ?_
      rcases eqCells_one e with ⟨q, _⟩ | ⟨q, _⟩ | ⟨_, a, b, rfl, rfl, rfl⟩
      · cases q
      · cases q
      · rw [run_equalIn_string w D t a b hu, ByteArray.toList_eq, ByteArray.toList_eq]; rfl
    · rename_i fs hu
      split at h
      · cases h
      · rename_i hst
        refine eqShape_struct hu hst (hs fs hu) (sh := fun t => match plainSh P d t, szOf P t with | some ks, some m => (match Nat.beq m ks.length with | true => some ks | false => none) | _, _ => none) ?_ ?_ rfl
        · refine plainFs_congr ?_ _ _ _ h
          intro t ks m h1 h2 h3
          simp only [h1, h2, h3]
        · intro t' ks' h'
          split at h'
          case h_2 => cases h'
          rename_i ks2 m h1 h2
          split at h'
          case h_2 => cases h'
          rename_i h3
          cases h'
          exact plain_shape d D (by omega) t' ks' h1 fun _ _ => by rw [h2, Nat.eq_of_beq_eq_true h3]
    · cases h

theorem ptr_inv {φ : Ren} {id off : Nat} {v' : Value} (h : VR φ (.pointer (some ⟨id, off, none⟩)) v') :
    ∃ b sh sz, φ id = some (b, sh, sz) ∧ v' = .pointer (some ⟨b, sh + off, none⟩) := by
  cases h with | ptr _ _ b sh sz e => exact ⟨b, sh, sz, e, rfl⟩
theorem psome_inv {φ : Ren} {a : Addr} {v' : Value} (h : VR φ (.pointer (some a)) v') : ∃ a', v' = .pointer (some a') := by
  cases h; exact ⟨_, rfl⟩
theorem pnil_inv {φ : Ren} {v' : Value} (h : VR φ (.pointer none) v') : v' = .pointer none := by cases h; rfl
theorem emp_inv {φ : Ren} {v' : Value} (h : VR φ emp v') : ∃ a c, v' = .slice a 0 c := by
  generalize hv : emp = V at h
  cases h <;> first | exact ⟨_, _, rfl⟩ | (simp [und] at hv; done)
theorem snil_inv {φ : Ren} {n c : Nat} {v' : Value} (h : VR φ (.slice none n c) v') : v' = .slice none n c := by cases h; rfl
theorem ssome_inv {φ : Ren} {a : Addr} {n c : Nat} {v' : Value} (h : VR φ (.slice (some a) n c) v') : ∃ a' c', v' = .slice (some a') n c' := by
  generalize hv : Value.slice (some a) n c = V at h
  cases h <;> first | (cases hv; exact ⟨_, _, rfl⟩) | (simp [und] at hv; done)
theorem mnil_inv {φ : Ren} {v' : Value} (h : VR φ (.map none) v') : v' = .map none := by cases h; rfl
theorem msome_inv {φ : Ren} {a : Nat} {v' : Value} (h : VR φ (.map (some a)) v') : ∃ a', v' = .map (some a') := by cases h; exact ⟨_, rfl⟩
theorem nilFunc_inv {φ : Ren} {v' : Value} (h : VR φ .nilFunc v') : v' = .nilFunc := by cases h; rfl
theorem func_inv {φ : Ren} {fn : Fn} {a c : Array Value} {v' : Value} (h : VR φ (.func fn a c) v') : ∃ a' c', v' = .func fn a' c' ∧ VRL φ a.toList a'.toList ∧ VRL φ c.toList c'.toList := by
  cases h with | func _ a a' c c' e1 e2 e3 e4 => exact ⟨⟨a'⟩, ⟨c'⟩, rfl, ⟨e1, e2⟩, ⟨e3, e4⟩⟩
theorem nilIface_inv {φ : Ren} {v' : Value} (h : VR φ .nilIface v') : v' = .nilIface := by cases h; rfl
theorem iface_inv {φ : Ren} {t : TypeId} {x v' : Value} (h : VR φ (.iface t x) v') : ∃ x', v' = .iface t x' ∧ VR φ x x' := by cases h with | iface _ _ x' q => exact ⟨x', rfl, q⟩
theorem agg_inv {φ : Ren} {a : Array Value} {v' : Value} (h : VR φ (.agg a) v') : ∃ a', v' = .agg a' ∧ VRL φ a.toList a'.toList := by
  cases h with | agg a a' e q => exact ⟨⟨a'⟩, rfl, e, q⟩
theorem tuple_inv {φ : Ren} {x : Value} {xs : List Value} {v' : Value} (h : VR φ (.tuple ⟨x :: xs⟩) v') : ∃ a', v' = .tuple a' ∧ VRL φ (x :: xs) a'.toList := by
  cases h with | tuple a a' e q => exact ⟨⟨a'⟩, rfl, e, q⟩

theorem nilEq_run {t : TypeId} {a b a' b' : Value} {r : Bool} (h : nilEq (typ P t) a b = some r) (ha : VR φ a a') (hb : VR φ b b') (op : BinOp) (x y : Operand) (w : World) :
    (eqGuard op t x y a' b').run P w = .ok () w ∧ (Op.equal t a' b').run P w = .ok r w ∧
      binOp .eql t a' b' = (do pure (.bool (← Op.equal t a' b'))) ∧ binOp .neq t a' b' = (do pure (.bool (!(← Op.equal t a' b')))) := by
  unfold nilEq typ at h
  split at h <;> (try split at h) <;> simp only [Option.some.injEq, reduceCtorEq] at h <;> subst h <;>
    (first
      | (obtain ⟨_, rfl⟩ := psome_inv ha; obtain rfl := pnil_inv hb)
      | (obtain rfl := pnil_inv ha; obtain ⟨_, rfl⟩ := psome_inv hb)
      | (obtain ⟨_, _, rfl⟩ := ssome_inv ha; obtain rfl := snil_inv hb)
      | (obtain rfl := snil_inv ha; obtain ⟨_, _, rfl⟩ := ssome_inv hb)
      | (obtain ⟨_, rfl⟩ := msome_inv ha; obtain rfl := mnil_inv hb)
      | (obtain rfl := mnil_inv ha; obtain ⟨_, rfl⟩ := msome_inv hb)
      | (obtain rfl := nilFunc_inv ha; obtain ⟨_, _, rfl, _⟩ := func_inv hb)
      | (obtain ⟨_, _, rfl, _⟩ := func_inv ha; obtain rfl := nilFunc_inv hb)
      | (obtain ⟨_, rfl, _⟩ := iface_inv ha; obtain rfl := nilIface_inv hb)
      | (obtain rfl := nilIface_inv ha; obtain ⟨_, rfl, _⟩ := iface_inv hb)) <;>
    refine ⟨?_, ?_, rfl, rfl⟩ <;>
    first
      | (cases op <;> simp [eqGuard]; done)
      | (rw [show ∀ a b, Op.equal t a b = Op.equalIn (9999 + 1) t a b from fun _ _ => rfl, Op.equalIn, Sem.run_bind, run_underlying (by assumption)]; rfl)

theorem ptrEq_run {t : TypeId} {a b a' b' : Value} {r : Bool} (h : ptrEq P t a b = some r) (ha : VR φ a a') (hb : VR φ b b') (op : BinOp) (x y : Operand) (w : World) :
    (eqGuard op t x y a' b').run P w = .ok () w ∧ (Op.equal t a' b').run P w = .ok r w ∧
      binOp .eql t a' b' = (do pure (.bool (← Op.equal t a' b'))) ∧ binOp .neq t a' b' = (do pure (.bool (!(← Op.equal t a' b')))) := by
  unfold ptrEq at h
  split at h
  · rename_i i o j p
    split at h
    · rename_i hij
      have hij : i = j := Nat.eq_of_beq_eq_true hij
      subst hij
      split at h
      · rename_i e ht
        split at h
        · rename_i n hn
          split at h
          · cases h
          · rename_i hn0
            simp only [Option.some.injEq] at h
            obtain ⟨b1, sh, sz, e1, rfl⟩ := ptr_inv ha
            obtain ⟨b2, sh2, sz2, e2, rfl⟩ := ptr_inv hb
            rw [e1] at e2; cases e2
            refine ⟨by cases op <;> simp [eqGuard], ?_, rfl, rfl⟩
            have hs : (sizeOf e).run P w = .ok n w := by
              unfold szOf at hn
              split at hn
              · rename_i i hi; cases hn; simp [sizeOf, typeInfo, hi]
              · cases hn
            rw [show ∀ a b, Op.equal t a b = Op.equalIn (9999 + 1) t a b from fun _ _ => rfl, Op.equalIn, Sem.run_bind, run_underlying ht]
            have hn0 : n ≠ 0 := by rintro rfl; simp at hn0
            simp only [Result.andThen_ok, Sem.run_bind, hs, Sem.run_ite, if_pos hn0, sameAddr, beq_self_eq_true, if_true, ← h]
            simp
            rw [Bool.eq_iff_iff]; simp
        · cases h
      · cases h
    · cases h
  · exact nilEq_run h ha hb op x y w

theorem i64_and255 (n : Int) : bits .and .i64 n 255 = n % 256 := by
  have h255 : (BitVec.ofInt 64 255).toNat = 2 ^ 8 - 1 := by decide
  have key : (BitVec.ofInt 64 n &&& BitVec.ofInt 64 255).toNat = (n % ((2 ^ 64 : Nat) : Int)).toNat % 2 ^ 8 := by
    rw [BitVec.toNat_and, BitVec.toNat_ofInt, h255, Nat.and_two_pow_sub_one_eq_mod]
  show IntKind.i64.wrap ((BitVec.ofInt 64 n &&& BitVec.ofInt 64 255).toNat : Nat) = n % 256
  rw [key, IntKind.wrap_i64]
  omega

theorem i64_and_bits (n : Int) {k : Nat} (hk : k ≤ 15) : bits .and .i64 n ((2 ^ k - 1 : Nat) : Int) = n % ((2 ^ k : Nat) : Int) := by
  have hM : (BitVec.ofInt 64 ((2 ^ k - 1 : Nat) : Int)).toNat = 2 ^ k - 1 := by
    rw [BitVec.toNat_ofInt]
    have : 2 ^ k ≤ 2 ^ 15 := Nat.pow_le_pow_right (by omega) hk
    omega
  have key : (BitVec.ofInt 64 n &&& BitVec.ofInt 64 ((2 ^ k - 1 : Nat) : Int)).toNat = (n % ((2 ^ 64 : Nat) : Int)).toNat % 2 ^ k := by
    rw [BitVec.toNat_and, BitVec.toNat_ofInt, hM, Nat.and_two_pow_sub_one_eq_mod]
  show IntKind.i64.wrap ((BitVec.ofInt 64 n &&& BitVec.ofInt 64 ((2 ^ k - 1 : Nat) : Int)).toNat : Nat) = _
  rw [key, IntKind.wrap_i64]
  have hd : k = 0 ∨ k = 1 ∨ k = 2 ∨ k = 3 ∨ k = 4 ∨ k = 5 ∨ k = 6 ∨ k = 7 ∨ k = 8 ∨ k = 9 ∨ k = 10 ∨ k = 11 ∨ k = 12 ∨ k = 13 ∨ k = 14 ∨ k = 15 := by omega
  rcases hd with rfl | rfl | rfl | rfl | rfl | rfl | rfl | rfl | rfl | rfl | rfl | rfl | rfl | rfl | rfl | rfl <;> simp only [Nat.reducePow] <;> omega

theorem eqCells_flat : ∀ {ks : List Nat} {a b : List Value} {r : Bool}, eqCells ks a b = some r → flatL a = true ∧ flatL b = true
  | [], a, b, r, h => by
    unfold eqCells at h
    split at h
    · exact ⟨rfl, rfl⟩
    · rename_i q; cases q
    · rename_i q; cases q
    · rename_i q; cases q
    · cases h
  | k :: ks, a, b, r, h => by
    unfold eqCells at h
    split at h
    · rename_i q; cases q
    · rename_i e
      cases e
      split at h
      · split at h
        · rename_i hr
          obtain ⟨q1, q2⟩ := eqCells_flat hr
          exact ⟨by simp [flatL, flat1, q1], by simp [flatL, flat1, q2]⟩
        · cases h
      · cases h
    · rename_i e
      cases e
      split at h
      · rename_i hr
        obtain ⟨q1, q2⟩ := eqCells_flat hr
        exact ⟨by simp [flatL, flat1, q1], by simp [flatL, flat1, q2]⟩
      · cases h
    · rename_i e
      cases e
      split at h
      · rename_i hr
        obtain ⟨q1, q2⟩ := eqCells_flat hr
        exact ⟨by simp [flatL, flat1, q1], by simp [flatL, flat1, q2]⟩
      · cases h
    · cases h

theorem aggEq_run {t : TypeId} {a b : List Value} {r : Bool} (h : aggEq P t a b = some r) (w : World) :
    (Op.equalIn 10000 t (.agg ⟨a⟩) (.agg ⟨b⟩)).run P w = .ok r w ∧ P.eqGuardType P.depth t = false ∧ flatL a = true ∧ flatL b = true := by
  unfold aggEq at h
  split at h
  case h_2 => cases h
  rename_i fs hu
  split at h
  · cases h
  rename_i hg
  rw [Bool.or_eq_false_iff] at hg
  split at h
  case h_2 => cases h
  rename_i ks hk
  refine ⟨?_, hg.2, (eqCells_flat h).1, (eqCells_flat h).2⟩
  have hfs : P.fieldsOf t = fs := by unfold Program.fieldsOf; rw [hu]
  show (Op.equalIn (9999 + 1) t (.agg ⟨a⟩) (.agg ⟨b⟩)).run P w = .ok r w
  rw [run_equalIn_struct w 9999 t ⟨a⟩ ⟨b⟩ (by rw [hfs]; exact hu) hg.1, hfs]
  refine eqFields_run (sh := fun t => match plainSh P 11 t, szOf P t with | some ks, some m => (match Nat.beq m ks.length with | true => some ks | false => none) | _, _ => none) ?_ fs.toList 0 ks ?_ [] a [] b r w rfl rfl h
  · intro t' ks' h'
    split at h'
    case h_2 => cases h'
    rename_i ks2 m h1 h2
    split at h'
    case h_2 => cases h'
    rename_i h3
    cases h'
    exact plain_shape 11 9999 (by decide) t' ks' h1 fun _ _ => by rw [h2, Nat.eq_of_beq_eq_true h3]
  · refine plainFs_congr ?_ _ _ _ hk
    intro t ks m h1 h2 h3
    simp only [h1, h2, h3]

theorem opBin_ok {op : BinOp} {t : TypeId} {x y : Operand} (h : opBin P op t x y l s = some (v, s')) (H : HR φ s.h w0 w) (hx : VR φ (evalO l x) (ρ x)) (hy : VR φ (evalO l y) (ρ y)) :
    Gives P w0 φ lo s' v ((do pure (.value (← (do eqGuard op t x y (ρ x) (ρ y); binOp op t (ρ x) (ρ y)))) : Sem Next).run P w) := by
  unfold opBin ofV at h
  split at h
  case h_2 => cases h
  rename_i r hr
  simp only [Option.some.injEq, Prod.mk.injEq] at h
  obtain ⟨rfl, rfl⟩ := h
  revert hx hy hr
  generalize evalO l x = a
  generalize evalO l y = b
  generalize ρ x = a'
  generalize ρ y = b'
  intro ha hb hr
  have hS : ∀ {a b a' b' : Value} {r : Value}, VR φ a a' → VR φ b b' → binS P op t x y a b = some r → Gives P w0 φ lo s r ((do pure (.value (← (do eqGuard op t x y a' b'; binOp op t a' b'))) : Sem Next).run P w) := by
    intro a b a' b' r ha hb h
    unfold binS at h
    split at h
    · rename_i hf
      simp only [Bool.and_eq_true] at hf
      split at h
      · rename_i r' hr'
        split at h
        · rename_i hfr
          cases h
          rw [flat2_inv hf.1 ha, flat2_inv hf.2 hb]
          exact gives_pure H (flat_self hfr φ) (pureRun_run hr' w)
        · cases h
      · cases h
    · split at h
      · rename_i r' hr'
        cases h
        obtain ⟨q1, q2, q3, q4⟩ := ptrEq_run hr' ha hb .eql x y w
        refine gives_pure H (.bool _) ?_
        rw [Sem.run_bind, q1, Result.andThen_ok, q3, Sem.run_bind, q2]; rfl
      · rename_i r' hr'
        cases h
        obtain ⟨q1, q2, q3, q4⟩ := ptrEq_run hr' ha hb .neq x y w
        refine gives_pure H (.bool _) ?_
        rw [Sem.run_bind, q1, Result.andThen_ok, q4, Sem.run_bind, q2]; rfl
      · cases h
  unfold binD at hr
  split at hr
  · rename_i c n
    obtain ⟨m, rfl, hm⟩ : ∃ m, a' = .int .i64 m ∧ markOk c m := by cases ha with | mark _ m hm => exact ⟨m, rfl, hm⟩
    rw [int_inv hb]
    unfold markBin at hr
    split at hr
    · split at hr
      · rename_i hbig
        have hbig := Nat.le_of_ble_eq_true hbig
        split at hr
        case h_2 => cases hr
        rename_i hc
        rw [Bool.and_eq_true, Bool.and_eq_true] at hc
        obtain ⟨hn, hc, hle⟩ := hc
        have hn := of_decide_eq_true hn
        have hn : n = ((2 ^ (c / 2 % 65536 - 256) - 1 : Nat) : Int) := hn
        subst hn
        have hc := Nat.eq_of_beq_eq_true hc
        have hle := Nat.le_of_ble_eq_true hle
        cases hr
        refine gives_pure H (v' := .int .i64 (bits .and .i64 m ((2 ^ (c / 2 % 65536 - 256) - 1 : Nat) : Int))) ?_ (by simp [eqGuard, binOp, Op.intBits, bits])
        rw [i64_and_bits m (by omega)]
        rcases hm with ⟨_, h2, _⟩ | ⟨h1, _⟩ | ⟨_, _, h3⟩
        · omega
        · omega
        · rw [h3]; exact .int _ _
      rename_i hbig
      have hbig : c / 2 % 65536 < 256 := by
        rcases Nat.lt_or_ge (c / 2 % 65536) 256 with q | q
        · exact q
        · exact absurd (Nat.ble_eq_true_of_le q) (by rw [hbig]; simp)
      split at hr
      case h_2 => cases hr
      rename_i hc
      rw [Bool.and_eq_true] at hc
      obtain ⟨hn, hc⟩ := hc
      obtain rfl := of_decide_eq_true hn
      have hc := Nat.eq_of_beq_eq_true hc
      cases hr
      refine gives_pure H (v' := .int .i64 (bits .and .i64 m 255)) (.mark _ _ ?_) (by simp [eqGuard, binOp, Op.intBits, bits])
      rw [i64_and255]
      rcases hm with ⟨_, _, h2⟩ | ⟨h1, _⟩ | ⟨_, h1, _⟩
      · right; left
        refine ⟨by omega, by omega, ?_⟩
        rw [show (c + 1) / 2 = c / 2 by omega, show (c + 1) / 131072 = c / 131072 by omega]
        exact h2
      · omega
      · omega
    · split at hr
      case h_2 => cases hr
      rename_i hc
      rw [Bool.and_eq_true, Bool.and_eq_true] at hc
      obtain ⟨hn, hc, hd⟩ := hc
      obtain rfl := of_decide_eq_true hn
      have hc := Nat.eq_of_beq_eq_true hc
      have hd := Nat.le_of_ble_eq_true hd
      cases hr
      rcases hm with ⟨h1, _⟩ | ⟨_, h1, h2⟩ | ⟨h1, _⟩
      · omega
      · refine gives_pure H (v' := .int .i64 (m.tmod ((c / 2 % 65536 : Nat) : Int))) ?_ ?_
        · rw [Int.tmod_eq_emod_of_nonneg h1, h2]; exact .int _ _
        · have hne : ¬ ((c / 2 % 65536 : Nat) : Int) = 0 := by omega
          simp only [eqGuard, binOp, Op.intDiv, hne, if_false]
          rfl
      · omega
    · cases hr
  · rename_i k m k' n
    rw [int_inv ha, int_inv hb]
    split at hr
    · rename_i v hv
      cases hr
      exact gives_pure H (shiftBin_kind hv φ) (shiftBin_run hv t x y w)
    · split at hr
      · rename_i hk
        rw [← kindEq_eq hk]
        exact gives_pure H (intBin_kind hr φ) (intBin_run hr t x y w)
      · cases hr
  · rename_i p q
    split at hr
    · rename_i v hv
      cases hr
      rw [string_inv ha, string_inv hb]
      exact gives_pure H (strBin_kind hv φ) (strBin_run hv t x y w)
    · exact hS ha hb hr
  · rename_i p q
    split at hr
    · rename_i v hv
      cases hr
      obtain ⟨p⟩ := p
      obtain ⟨q⟩ := q
      unfold aggBin at hv
      split at hv
      · split at hv
        case h_2 => cases hv
        rename_i r hr
        cases hv
        obtain ⟨h1, h2, h3, h4⟩ := aggEq_run hr w
        rw [flat2_inv (v := .agg ⟨p⟩) h3 ha, flat2_inv (v := .agg ⟨q⟩) h4 hb]
        refine gives_pure H (.bool _) ?_
        rw [Sem.run_bind, run_eqGuard_agg w _ t x y _ _ h2, Result.andThen_ok, run_eql_struct, h1]; rfl
      · split at hv
        case h_2 => cases hv
        rename_i r hr
        cases hv
        obtain ⟨h1, h2, h3, h4⟩ := aggEq_run hr w
        rw [flat2_inv (v := .agg ⟨p⟩) h3 ha, flat2_inv (v := .agg ⟨q⟩) h4 hb]
        refine gives_pure H (.bool _) ?_
        rw [Sem.run_bind, run_eqGuard_agg w _ t x y _ _ h2, Result.andThen_ok, run_neq_struct, h1]; rfl
      · cases hv
    · exact hS ha hb hr
  · exact hS ha hb hr

theorem opUn_ok {op : UnOp} {x : Operand} (h : opUn P op x l s = some (v, s')) (H : HR φ s.h w0 w) (hx : VR φ (evalO l x) (ρ x)) :
    Gives P w0 φ lo s' v ((do pure (.value (← Op.unary op (ρ x))) : Sem Next).run P w) := by
  unfold opUn at h
  split at h
  · rename_i hf
    split at h
    · rename_i r hr
      split at h
      · rename_i hfr
        simp only [Option.some.injEq, Prod.mk.injEq] at h
        obtain ⟨rfl, rfl⟩ := h
        rw [flat2_inv hf hx]
        exact gives_pure H (flat_self hfr φ) (pureRun_run hr w)
      · cases h
    · cases h
  · cases h

theorem opMakeInterface_ok {t : TypeId} {x : Operand} (h : opMakeInterface P t x l s = some (v, s')) (H : HR φ s.h w0 w) (hx : VR φ (evalO l x) (ρ x)) :
    Gives P w0 φ lo s' v ((do pure (.value (← Instr.makeInterface t (ρ x))) : Sem Next).run P w) := by
  unfold opMakeInterface typ at h
  split at h
  · rename_i d hd
    split at h
    · cases h
    · rename_i hni
      simp only [Option.some.injEq, Prod.mk.injEq] at h
      obtain ⟨rfl, rfl⟩ := h
      refine gives_pure H (.iface _ _ _ hx) ?_
      unfold Instr.makeInterface
      rw [Sem.run_bind, run_underlying hd]
      cases d <;> first | rfl | exact absurd rfl (hni _)
  · cases h

theorem evalL_ok {xs : List Operand} (h : ∀ x ∈ xs, VR φ (evalO l x) (ρ x)) : VRL φ (evalL l xs) (xs.map ρ) := by
  induction xs with
  | nil => exact VRL.nil φ
  | cons x t ih => exact VRL.cons (h x (by simp)) (ih fun y hy => h y (by simp [hy]))
theorem pairsO_ok {xs : List (Nat × Operand)} (h : ∀ x ∈ xs, VR φ (evalO l x.2) (ρ x.2)) :
    (pairsO l xs).map (·.1) = xs.map (·.1) ∧ VRL φ ((pairsO l xs).map (·.2)) (xs.map fun x => ρ x.2) := by
  induction xs with
  | nil => exact ⟨rfl, VRL.nil φ⟩
  | cons x t ih =>
    obtain ⟨i1, i2⟩ := ih fun y hy => h y (by simp [hy])
    obtain ⟨i, x⟩ := x
    exact ⟨by simp [pairsO, i1], VRL.cons (h (i, x) (by simp)) i2⟩

theorem opMakeFunc_ok {fn : Fn} {a b : Array Operand} (h : opMakeFunc fn a b l s = some (v, s')) (H : HR φ s.h w0 w) (ha : ∀ x ∈ a.toList, VR φ (evalO l x) (ρ x)) (hb : ∀ x ∈ b.toList, VR φ (evalO l x) (ρ x)) :
    Gives P w0 φ lo s' v ((do pure (.value (← Instr.makeFunc fn (a.map ρ) (b.map ρ))) : Sem Next).run P w) := by
  simp only [opMakeFunc, Option.some.injEq, Prod.mk.injEq] at h
  obtain ⟨rfl, rfl⟩ := h
  have h1 := evalL_ok ha
  have h2 := evalL_ok hb
  obtain ⟨a⟩ := a
  obtain ⟨b⟩ := b
  exact gives_pure H (v' := Value.func fn ⟨a.map ρ⟩ ⟨b.map ρ⟩) (.func fn _ _ _ _ h1.1 h1.2 h2.1 h2.2) (by simp [Instr.makeFunc])

theorem opExtract_ok {t : Operand} {i : Nat} (h : opExtract t i l s = some (v, s')) (H : HR φ s.h w0 w) (hx : VR φ (evalO l t) (ρ t)) :
    Gives P w0 φ lo s' v ((do pure (.value (← Instr.extract (ρ t) i)) : Sem Next).run P w) := by
  unfold opExtract at h
  split at h
  · rename_i vs hv
    split at h
    · cases h
    · rename_i x xs hxs
      obtain ⟨vs⟩ := vs
      simp only at hxs; subst hxs
      rw [hv] at hx
      obtain ⟨a', ha', q⟩ := tuple_inv hx
      unfold ofV at h
      split at h
      · rename_i r hr
        simp only [Option.some.injEq, Prod.mk.injEq] at h
        obtain ⟨rfl, rfl⟩ := h
        have hnth : ∀ {l : List Value} {i : Nat} {r : Value}, nth l i = some r → l[i]? = some r := by
          intro l
          induction l with
          | nil => intro i r h; simp [nth] at h
          | cons a t ih => intro i r h; cases i with | zero => simpa [nth] using h | succ i => simpa using ih (by simpa [nth] using h)
        have hr := hnth hr
        have hi : i < (x :: xs).length := by
          rcases Nat.lt_or_ge i (x :: xs).length with q | q
          · exact q
          · rw [List.getElem?_eq_none q] at hr; cases hr
        have hv1 := q.2 i
        have hi' : i < a'.toList.length := by rw [← q.1]; exact hi
        rw [List.getD_eq_getElem?_getD, hr, List.getD_eq_getElem?_getD, List.getElem?_eq_getElem hi'] at hv1
        refine gives_pure H hv1 ?_
        rw [ha']
        simp only [Instr.extract]
        rw [show a'[i]? = some (a'.toList[i]) by rw [← Array.getElem?_toList, List.getElem?_eq_getElem hi']]
        rfl
      · cases h
  · cases h

theorem opNilCheck_ok {x : Operand} (h : opNilCheck x l s = some (v, s')) (H : HR φ s.h w0 w) (hx : VR φ (evalO l x) (ρ x)) {o : Oper} (ho : o.op = .nilCheck x) :
    Gives P w0 φ lo s' v ((execOp ρ o).run P w) := by
  unfold opNilCheck at h
  split at h
  · rename_i a hv
    split at h
    · rename_i a
      simp only [Option.some.injEq, Prod.mk.injEq] at h
      obtain ⟨rfl, rfl⟩ := h
      rw [hv] at hx
      obtain ⟨a', e⟩ := psome_inv hx
      have hx' := hx
      rw [e] at hx'
      simp only [execOp, ho, e]
      exact ⟨φ, Ext.refl _ _ _, hx', H⟩
    · cases h
  · rename_i f a b hv
    split at h
    · rename_i f
      simp only [Option.some.injEq, Prod.mk.injEq] at h
      obtain ⟨rfl, rfl⟩ := h
      rw [hv] at hx
      obtain ⟨a', b', e, q1, q2⟩ := func_inv hx
      have hx' := hx
      rw [e] at hx'
      simp only [execOp, ho, e]
      exact ⟨φ, Ext.refl _ _ _, hx', H⟩
    · cases h
  · cases h

end
end Go.Det
