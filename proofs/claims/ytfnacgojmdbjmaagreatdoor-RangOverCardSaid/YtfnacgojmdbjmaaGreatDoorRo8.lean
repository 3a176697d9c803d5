/- A text of a proof. -/
import Derived.Test.YtfnacgojmdbjmaaGreatDoorRo7
namespace Go.Det
variable {P : Program}

def LE (l l' : Tmps) : Prop := ∀ t, lget l t = lget l' t
theorem LE.refl (l : Tmps) : LE l l := fun _ => rfl
theorem LE.evalO {l l' : Tmps} (h : LE l l') (x : Operand) : evalO l x = evalO l' x := by cases x <;> first | rfl | exact h _
theorem LE.evalL {l l' : Tmps} (h : LE l l') : ∀ xs, evalL l xs = evalL l' xs
  | [] => rfl
  | x :: t => by simp only [Det.evalL, h.evalO x, LE.evalL h t]
theorem LE.pairs {l l' : Tmps} (h : LE l l') : ∀ xs, pairsO l xs = pairsO l' xs
  | [] => rfl
  | (i, x) :: t => by simp only [pairsO, h.evalO x, LE.pairs h t]
theorem LE.opt {l l' : Tmps} (h : LE l l') (x : Option Operand) : evalOpt l x = evalOpt l' x := by
  cases x with
  | none => rfl
  | some x => simp only [evalOpt, h.evalO x]
theorem LE.set {l l' : Tmps} (h : LE l l') (d : Nat) (v : Value) : LE (lset l d v) (lset l' d v) := fun t => by rw [lget_set, lget_set]; split; rfl; exact h t
theorem LE.put {l l' : Tmps} (h : LE l l') (d : Option Tmp) (v : Value) : LE (putD l d v) (putD l' d v) := by
  cases d with
  | none => exact h
  | some d => exact h.set d v
theorem LE.know {l l' : Tmps} (h : LE l l') {d : Nat} {v : Value} (e : lget l' d = v) : LE l (lset l' d v) := fun t => by
  rw [lget_set]
  split
  · rename_i q; subst q; rw [h, e]
  · exact h t
theorem LE.op {call : Call} {o : Oper} {l l' : Tmps} (h : LE l l') : opD P call o l = opD P call o l' := by
  exact opD_congr fun x _ => LE.evalO h x

/-- contracts that hold of what is called -/
structure CwOk (call : Call) (cw : Cw) : Prop where
  some_ : ∀ g args s K, cw g args s K → ∃ v s', call g args s = some (v, s') ∧ K v s' ∧ ∀ K' : KV, K' v s' → cw g args s K'
  mono : ∀ g args s (K K' : KV), (∀ v s, K v s → K' v s) → cw g args s K → cw g args s K'
def CwMono (cw : Cw) : Prop := ∀ g args s (K K' : KV), (∀ v s, K v s → K' v s) → cw g args s K → cw g args s K'

theorem opCall_call0 {call : Call} {c : Go.Call} {t : TypeId} {l : Tmps} {s : St} {r : Value × St} (h : opCall P call0 c t l s = some r) : opCall P call c t l s = some r := by
  unfold opCall at h ⊢
  cases hc : c.callee with
  | builtin b => rw [hc] at h; exact h
  | invoke a b => rw [hc] at h; exact h
  | value f =>
    rw [hc] at h
    simp only [opCallV] at h
    split at h
    · split at h
      · cases h
      · cases h
    · cases h
theorem opD_call0 {call : Call} {o : Oper} {l : Tmps} {s : St} {r : Value × St} (h : opD P call0 o l s = some r) : opD P call o l s = some r := by
  unfold opD at h ⊢
  cases hop : o.op <;> rw [hop] at h <;> first
    | exact h
    | exact opCall_call0 h

theorem optW_some {r : Option (Value × St)} {K : KV} (h : optW r K) : ∃ v s', r = some (v, s') ∧ K v s' := by
  cases r with
  | none => exact h.elim
  | some x => exact ⟨x.1, x.2, rfl, h⟩
theorem optW_mono {r : Option (Value × St)} {K K' : KV} (k : ∀ v s, K v s → K' v s) (h : optW r K) : optW r K' := by
  cases r with
  | none => exact h
  | some x => exact k _ _ h

theorem aggEqW_eq {t : TypeId} {a b : List Value} : aggEq P t a b = aggEqW P t a b := by
  unfold aggEq aggEqW
  simp only [eqCellsW_eq]
  try rfl

theorem binW_some {op : BinOp} {t : TypeId} {x y : Operand} {a b : Value} {s : St} {K : KV} (h : binW P op t x y a b s K) : ∃ v s', ofV (binD P op t x y a b) s = some (v, s') ∧ K v s' := by
  unfold binW at h
  split at h
  · rename_i k m k' n
    split at h
    · refine ⟨_, _, ?_, h.2⟩
      have : decide (n < 0) = false := decide_eq_false (by omega)
      simp only [binD, shiftBin, this, ofV]
    · refine ⟨_, _, ?_, h.2⟩
      have : decide (n < 0) = false := decide_eq_false (by omega)
      simp only [binD, shiftBin, this, ofV]
    · rename_i hs1 hs2
      split at h
      · exact h.elim
      rename_i hk
      have hsh : shiftBin op k m n = none := by
        cases op <;> first | rfl | exact (hs1 rfl).elim | exact (hs2 rfl).elim
      have e : binD P op t x y (.int k m) (.int k' n) = intBin op k m n := by simp only [binD, hsh, hk]
      rw [e]
      split at h
      · refine ⟨_, _, ?_, h.2⟩
        have : decide (n = 0) = false := decide_eq_false h.1
        simp only [intBin, this, ofV]
      · refine ⟨_, _, ?_, h.2⟩
        have : decide (n = 0) = false := decide_eq_false h.1
        simp only [intBin, this, ofV]
      · exact ⟨_, _, by simp only [intBin, cdec_beq, ofV], h⟩
      · exact ⟨_, _, by simp only [intBin, cdec_bne, ofV], h⟩
      · exact ⟨_, _, by simp only [intBin, cdec_eq, ofV], h⟩
      · exact ⟨_, _, by simp only [intBin, cdec_eq, ofV], h⟩
      · exact ⟨_, _, by simp only [intBin, cdec_eq, ofV], h⟩
      · exact ⟨_, _, by simp only [intBin, cdec_eq, ofV], h⟩
      · exact optW_some h
  · rename_i p q
    split at h
    · refine ⟨_, _, ?_, h.2⟩
      have : Nat.ble (p.size + q.size) 9223372036854775807 = true := Nat.ble_eq_true_of_le h.1
      simp only [binD, strBin, this, ofV]
    · exact ⟨_, _, by simp only [binD, strBin, cdec_str, ofV], h⟩
    · exact ⟨_, _, by simp only [binD, strBin, cdec_str, ofV], h⟩
    · exact optW_some h
  · rename_i p q
    split at h
    · split at h
      · rename_i r hr
        exact ⟨_, _, by simp only [binD, aggBin, aggEqW_eq, hr, ofV], h⟩
      · exact h.elim
    · split at h
      · rename_i r hr
        exact ⟨_, _, by simp only [binD, aggBin, aggEqW_eq, hr, ofV], h⟩
      · exact h.elim
    · exact h.elim
  · exact optW_some h
theorem binW_mono {op : BinOp} {t : TypeId} {x y : Operand} {a b : Value} {s : St} {K K' : KV} (k : ∀ v s, K v s → K' v s) (h : binW P op t x y a b s K) : binW P op t x y a b s K' := by
  unfold binW at h ⊢
  split at h
  · split at h
    · exact ⟨h.1, k _ _ h.2⟩
    · exact ⟨h.1, k _ _ h.2⟩
    · split at h
      · exact h.elim
      · split at h <;> first
          | exact ⟨h.1, k _ _ h.2⟩
          | exact k _ _ h
          | exact optW_mono k h
  · split at h
    · exact ⟨h.1, k _ _ h.2⟩
    · exact k _ _ h
    · exact k _ _ h
    · exact optW_mono k h
  · split at h
    · split at h
      · exact k _ _ h
      · exact h.elim
    · split at h
      · exact k _ _ h
      · exact h.elim
    · exact h.elim
  · exact optW_mono k h

theorem natOf_int {k : IntKind} {i : Int} (h : 0 ≤ i) : natOf (.int k i) = some i.toNat := by simp only [natOf, if_pos h]
theorem ble_lt {n : Nat} {i : Int} (h0 : 0 ≤ i) (h : i < (n : Int)) : Nat.ble n i.toNat = false := by
  cases hb : Nat.ble n i.toNat with
  | false => rfl
  | true => have := Nat.le_of_ble_eq_true hb; omega
theorem indexAddrW_some {t : TypeId} {x ix : Value} {s : St} {K : KV} (h : indexAddrW P t x ix s K) : ∃ v s', ofV (indexAddrD P t x ix) s = some (v, s') ∧ K v s' := by
  unfold indexAddrW at h
  split at h
  · rename_i elem id off n c k i ht
    split at h
    case h_2 => exact h.elim
    rename_i size hs
    obtain ⟨⟨h0, h1⟩, h⟩ := h
    refine ⟨_, _, ?_, h⟩
    simp only [indexAddrD, ht, natOf_int h0, hs, ble_lt h0 h1]
    rfl
  · rename_i n elem id off k i ht
    split at h
    case h_2 => exact h.elim
    rename_i size hs
    obtain ⟨⟨h0, h1⟩, h⟩ := h
    refine ⟨_, _, ?_, h⟩
    simp only [indexAddrD, ht, natOf_int h0, hs, ble_lt h0 h1]
    rfl
  · exact h.elim
theorem indexAddrW_mono {t : TypeId} {x ix : Value} {s : St} {K K' : KV} (k : ∀ v s, K v s → K' v s) (h : indexAddrW P t x ix s K) : indexAddrW P t x ix s K' := by
  unfold indexAddrW at h ⊢
  split at h
  · split at h
    · exact ⟨h.1, k _ _ h.2⟩
    · exact h.elim
  · split at h
    · exact ⟨h.1, k _ _ h.2⟩
    · exact h.elim
  · exact h.elim
theorem indexW_some {t : TypeId} {x ix : Value} {s : St} {K : KV} (h : indexW P t x ix s K) : ∃ v s', ofV (indexD P t x ix) s = some (v, s') ∧ K v s' := by
  unfold indexW at h
  split at h
  · rename_i b k i ht
    obtain ⟨⟨h0, h1⟩, h⟩ := h
    refine ⟨_, _, ?_, h⟩
    have hlt : i.toNat < (b.data.toList.map fun x => Value.int .u8 x.toNat).length := by rw [List.length_map]; omega
    have hlt2 : i.toNat < b.data.toList.length := by omega
    simp only [indexD, ht, natOf_int h0, ldrop_eq]
    rw [List.drop_eq_getElem_cons hlt, List.getElem_map, List.getD_eq_getElem?_getD, List.getElem?_eq_getElem hlt2]
    rfl
  · exact optW_some h
theorem indexW_mono {t : TypeId} {x ix : Value} {s : St} {K K' : KV} (k : ∀ v s, K v s → K' v s) (h : indexW P t x ix s K) : indexW P t x ix s K' := by
  unfold indexW at h ⊢
  split at h
  · exact ⟨h.1, k _ _ h.2⟩
  · exact optW_mono k h

theorem opW_some {call : Call} {cw : Cw} (ho : CwOk call cw) {o : Oper} {l : Tmps} {s : St} {K : KV} (h : opW P cw o l s K) : ∃ v s', opD P call o l s = some (v, s') ∧ K v s' := by
  unfold opW at h
  split at h
  · rename_i op t x y yt hop
    unfold opD; rw [hop]
    exact binW_some h
  · rename_i t a hop
    unfold opD; rw [hop]
    exact loadW_some h
  · rename_i t a x hop
    unfold opD; rw [hop]
    obtain ⟨s', e, k⟩ := storeW_some h
    exact ⟨und, s', by simp only [opStore, e], k⟩
  · rename_i c a b hop
    unfold opD; rw [hop]
    split at h
    · rename_i t ht
      cases t with
      | true => exact ⟨_, _, by simp only [opPick, ht], h⟩
      | false => exact ⟨_, _, by simp only [opPick, ht], h⟩
    · exact h.elim
  · rename_i t x i hop
    unfold opD; rw [hop]
    exact indexAddrW_some h
  · rename_i t x i hop
    unfold opD; rw [hop]
    exact indexW_some h
  · rename_i c hop
    unfold opD; rw [hop]
    unfold opCall
    simp only
    split at h
    · rename_i f hc
      simp only [hc, opCallV]
      split at h
      · rename_i g first cap hv
        obtain ⟨v, s', e, k, _⟩ := ho.some_ _ _ _ _ h
        exact ⟨v, s', by simp only [hv]; exact e, k⟩
      · exact h.elim
    · rename_i b hc
      simp only [hc, opBuiltin]
      exact optW_some h
    · exact h.elim
  · obtain ⟨v, s', e, k⟩ := optW_some h
    exact ⟨v, s', opD_call0 e, k⟩
theorem opW_mono {cw : Cw} (hm : CwMono cw) {o : Oper} {l : Tmps} {s : St} {K K' : KV} (k : ∀ v s, K v s → K' v s) (h : opW P cw o l s K) : opW P cw o l s K' := by
  unfold opW at h ⊢
  split at h
  · exact binW_mono k h
  · exact loadW_mono k h
  · exact storeW_mono (fun s => k _ s) h
  · split at h
    · exact bifW_mono (k _ _) (k _ _) h
    · exact h.elim
  · exact indexAddrW_mono k h
  · exact indexW_mono k h
  · split at h
    · split at h
      · exact hm _ _ _ _ _ k h
      · exact h.elim
    · exact optW_mono k h
    · exact h.elim
  · exact optW_mono k h

theorem wantW_some {all : List Oper} {l : Tmps} {o : Oper} {yes no : Tmps → Prop} (h : wantW all l o yes no) : ∃ l', LE l l' ∧ ((wantedD all l o = some true ∧ yes l') ∨ (wantedD all l o = some false ∧ no l')) := by
  unfold wantW at h
  unfold wantedD
  split at h
  · rename_i hg; exact ⟨l, LE.refl l, .inl ⟨by simp only [hg], h⟩⟩
  · rename_i g hg
    split at h
    case h_2 => exact h.elim
    rename_i q hq
    split at h
    case h_2 => exact h.elim
    rename_i d hd
    simp only [hg, hq, hd]
    split at h
    · rename_i b hb
      cases b with
      | true =>
        refine ⟨_, (LE.refl l).know hb, ?_⟩
        cases h2 : g.2 with
        | true => left; simp only [hb]; exact ⟨rfl, by simpa only [bifW, h2] using h⟩
        | false => right; simp only [hb]; exact ⟨rfl, by simpa only [bifW, h2] using h⟩
      | false =>
        refine ⟨_, (LE.refl l).know hb, ?_⟩
        cases h2 : g.2 with
        | true => right; simp only [hb]; exact ⟨rfl, by simpa only [bifW, h2] using h⟩
        | false => left; simp only [hb]; exact ⟨rfl, by simpa only [bifW, h2] using h⟩
    · exact h.elim
    · rename_i h1 h2
      refine ⟨l, LE.refl l, .inr ⟨?_, h⟩⟩
      split
      · rename_i b hb; exact absurd hb (h1 b)
      · rename_i vs hv; exact absurd hv (h2 vs)
      · rfl
theorem wantW_mono {all : List Oper} {l : Tmps} {o : Oper} {yes no yes' no' : Tmps → Prop} (k1 : ∀ l, yes l → yes' l) (k2 : ∀ l, no l → no' l) (h : wantW all l o yes no) : wantW all l o yes' no' := by
  unfold wantW at h ⊢
  split at h
  · exact k1 _ h
  · rename_i g hg
    split at h
    case h_2 => exact h.elim
    split at h
    case h_2 => exact h.elim
    split at h
    · cases h2 : g.2 with
      | true => simp only [h2] at h ⊢; exact bifW_mono (k1 _) (k2 _) h
      | false => simp only [h2] at h ⊢; exact bifW_mono (k2 _) (k1 _) h
    · exact h.elim
    · exact k2 _ h

theorem wantedD_congr {all : List Oper} {l l' : Tmps} {o : Oper} (h : LE l l') : wantedD all l o = wantedD all l' o := by
  unfold wantedD
  cases o.guard with
  | none => rfl
  | some g =>
    simp only
    cases nth all g.1 with
    | none => rfl
    | some q =>
      simp only
      cases q.dst with
      | none => rfl
      | some d => simp only [h d]
theorem LE.trans {a b c : Tmps} (h : LE a b) (k : LE b c) : LE a c := fun t => (h t).trans (k t)
theorem LE.symm {a b : Tmps} (h : LE a b) : LE b a := fun t => (h t).symm

theorem opsW_some {call : Call} {cw : Cw} (ho : CwOk call cw) {all : List Oper} : ∀ {ops : List Oper} {l : Tmps} {s : St} {K : KT}, opsW P cw all ops l s K → ∀ l0, LE l0 l → ∃ l1 s1 l', opsD P call all ops l0 s = some (l1, s1) ∧ LE l1 l' ∧ K l' s1
  | [], l, s, K, h, l0, hl => ⟨l0, s, l, rfl, hl, h⟩
  | o :: rest, l, s, K, h, l0, hl => by
    rw [opsD_cons]
    unfold opsStep
    rw [hl.op (P := P)]
    simp only [wantedD_congr hl]
    obtain ⟨l1, h1, ⟨hw, h⟩ | ⟨hw, h⟩⟩ := wantW_some h
    · simp only [hw]
      obtain ⟨v, s1, e, k⟩ := opW_some ho h
      rw [← h1.op (P := P)] at e
      obtain ⟨l2, s2, l3, e2, q1, q2⟩ := opsW_some ho k (putD l0 o.dst v) ((hl.trans h1).put _ _)
      exact ⟨l2, s2, l3, by simp only [e, nextOp]; exact e2, q1, q2⟩
    · simp only [hw]
      obtain ⟨l2, s2, l3, e2, q1, q2⟩ := opsW_some ho h (putD l0 o.dst skp) ((hl.trans h1).put _ _)
      exact ⟨l2, s2, l3, e2, q1, q2⟩
theorem opsW_mono {cw : Cw} (hm : CwMono cw) {all : List Oper} : ∀ {ops : List Oper} {l : Tmps} {s : St} {K K' : KT}, (∀ l s, K l s → K' l s) → opsW P cw all ops l s K → opsW P cw all ops l s K'
  | [], _, _, _, _, k, h => k _ _ h
  | _ :: _, _, _, _, _, k, h => wantW_mono (fun _ h => opW_mono hm (fun _ _ h => opsW_mono hm k h) h) (fun _ h => opsW_mono hm k h) h

theorem drawW_some {call : Call} {cw : Cw} (ho : CwOk call cw) {all : List Oper} : ∀ {ops : List Oper} {done : List Foot} {l : Tmps} {s : St} {K : KT}, drawW P cw all ops done l s K → ∀ l0, LE l0 l → ∀ sl, ∃ l1 s1 l', drawD P call all ops done sl l0 s = some (l1, s1) ∧ LE l1 l' ∧ K l' s1
  | [], done, l, s, K, h, l0, hl, sl => ⟨l0, s, l, rfl, hl, h⟩
  | o :: rest, done, l, s, K, h, l0, hl, sl => by
    rw [drawD_cons]
    unfold drawW at h
    split at h
    case h_2 => exact h.elim
    rename_i he
    rw [he]
    simp only
    unfold wantRun
    rw [hl.op (P := P)]
    simp only [wantedD_congr hl]
    obtain ⟨l1, h1, ⟨hw, h⟩ | ⟨hw, h⟩⟩ := wantW_some h
    · simp only [hw]
      obtain ⟨v, x, e, k⟩ := opW_some ho h
      rw [← h1.op (P := P)] at e
      split at k
      case h_2 => exact k.elim
      rename_i ha
      obtain ⟨l2, s2, l3, e2, q1, q2⟩ := drawW_some ho k (putD l0 o.dst v) ((hl.trans h1).put _ _) (sl ++ [softOf all o l0 v])
      refine ⟨l2, s2, l3, ?_, q1, q2⟩
      rw [e]
      unfold drawStep drawGo
      simp only
      unfold footOf at ha e2
      rw [softGo_apart ha]
      exact e2
    · simp only [hw]
      split at h
      case h_2 => exact h.elim
      rename_i ha
      obtain ⟨l2, s2, l3, e2, q1, q2⟩ := drawW_some ho h (putD l0 o.dst skp) ((hl.trans h1).put _ _) (sl ++ [softOf all o l0 skp])
      refine ⟨l2, s2, l3, ?_, q1, q2⟩
      unfold drawStep drawGo
      simp only
      unfold footOf at ha e2
      simp only [solo] at e2 ⊢
      rw [softGo_apart ha]
      exact e2
theorem drawW_mono {cw : Cw} (hm : CwMono cw) {all : List Oper} : ∀ {ops : List Oper} {done : List Foot} {l : Tmps} {s : St} {K K' : KT}, (∀ l s, K l s → K' l s) → drawW P cw all ops done l s K → drawW P cw all ops done l s K'
  | [], _, _, _, _, _, k, h => k _ _ h
  | o :: rest, done, l, s, K, K', k, h => by
    unfold drawW at h ⊢
    split at h
    case h_2 => exact h.elim
    refine wantW_mono (fun l h => opW_mono hm (fun v x h => ?_) h) (fun l h => ?_) h
    · split at h
      · exact drawW_mono hm k h
      · exact h.elim
    · split at h
      · exact drawW_mono hm k h
      · exact h.elim

theorem stepW_mono {R R' : KT} {K K' : KC} (h : ∀ l s, R l s → R' l s) (k : ∀ e l s, K e l s → K' e l s) (e : Ex) (l : Tmps) (s : St) (q : stepW R K e l s) : stepW R' K' e l s := by
  cases e with
  | normal => exact h _ _ q
  | exit i => exact k _ _ _ q
  | ret => exact k _ _ _ q

theorem codeW_mono {cw : Cw} (hm : CwMono cw) : ∀ (c : Code) {l : Tmps} {s : St} {K K' : KC}, (∀ e l s, K e l s → K' e l s) → codeW P cw c l s K → codeW P cw c l s K'
  | .skip, _, _, _, _, k, h => k _ _ _ h
  | .region _ ops draw, _, _, _, _, k, h => by
    cases draw with
    | true => exact drawW_mono hm (k .normal) h
    | false => exact opsW_mono hm (k .normal) h
  | .seq a b, _, _, _, _, k, h => codeW_mono hm a (fun e l s h => by
      cases e with
      | normal => exact codeW_mono hm b k h
      | exit i => exact k _ _ _ h
      | ret => exact k _ _ _ h) h
  | .cond c a b, l, s, K, K', k, h => by
    unfold codeW at h ⊢
    split at h
    · exact bifW_mono (codeW_mono hm a k) (codeW_mono hm b k) h
    · exact h.elim
  | .block id a, _, _, _, _, k, h => codeW_mono hm a (fun e l s h => by
      cases e with
      | normal => exact k _ _ _ h
      | exit i =>
        simp only at h ⊢
        split at h
        · exact k _ _ _ h
        · exact k _ _ _ h
      | ret => exact k _ _ _ h) h
  | .loop a, l, s, K, K', k, h => by
    intro R h1 h2
    exact h R (fun l s q => h1 l s (codeW_mono hm a (stepW_mono (fun _ _ h => h) k) q)) h2
  | .exit i, _, _, _, _, k, h => k _ _ _ h
  | .ret, _, _, _, _, k, h => k _ _ _ h
  | .rangeFunc .., _, _, _, _, _, h => h.elim
  | .scope .., _, _, _, _, _, h => h.elim
  | .label .., _, _, _, _, _, h => h.elim
  | .goto .., _, _, _, _, _, h => h.elim
  | .refuse .., _, _, _, _, _, h => h.elim

end Go.Det
