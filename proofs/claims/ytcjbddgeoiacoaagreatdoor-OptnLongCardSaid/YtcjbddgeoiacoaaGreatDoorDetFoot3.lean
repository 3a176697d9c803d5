/- A part of an evaluator of closed runs and of its soundness. -/
import Derived.Test.YtcjbddgeoiacoaaGreatDoorDetFoot2
namespace Go.Det
variable {P : Program}

noncomputable def obind {α β : Type} (r : Option (α × St)) (g : α → St → Option (β × St)) : Option (β × St) := match r with
  | some x => g x.1 x.2
  | none => none
noncomputable def omap {α β : Type} (r : Option (α × St)) (g : α → β) : Option (β × St) := match r with
  | some x => some (g x.1, x.2)
  | none => none
noncomputable def asc (r : Option (Ex × Tmps × St)) : Option ((Ex × Tmps) × St) := match r with
  | some x => some ((x.1, x.2.1), x.2.2)
  | none => none
theorem Tr.congr {α : Type} {f g : St → Option (α × St)} (h : Tr f) (e : ∀ s, g s = f s) : Tr g := by
  have : g = f := funext e
  rw [this]; exact h
theorem Tr.obind {α β : Type} {f : St → Option (α × St)} {g : α → St → Option (β × St)} (hf : Tr f) (hg : ∀ a, Tr (g a)) : Tr (fun s => Det.obind (f s) g) :=
  (Tr.bind hf hg).congr fun s => by
    unfold Det.obind
    cases f s <;> rfl

/-- the same, the answer turned -/
theorem Tr.map {α β : Type} {f : St → Option (α × St)} (hf : Tr f) (g : α → β) : Tr (fun s => match f s with | some x => some (g x.1, x.2) | none => none) := by
  intro s b s' h
  simp only at h
  split at h
  case h_2 => cases h
  rename_i x hx
  obtain ⟨a, s1⟩ := x
  cases h
  obtain ⟨g1, k⟩ := hf s a s1 hx
  refine ⟨g1, fun t h1 h2 h3 h4 => ?_⟩
  obtain ⟨t', e, p⟩ := k t h1 h2 h3 h4
  exact ⟨t', by simp only [e], p⟩

theorem Tr.omap {α β : Type} {f : St → Option (α × St)} (hf : Tr f) (g : α → β) : Tr (fun s => Det.omap (f s) g) :=
  (Tr.map hf g).congr fun s => by
    unfold Det.omap
    cases f s <;> rfl

theorem nextOp_tr {f : St → Option (Value × St)} {ih : Tmps → St → Option (Tmps × St)} (hf : Tr f) (hi : ∀ l, Tr (ih l)) (l : Tmps) (d : Option Tmp) : Tr (fun s => nextOp l d ih (f s)) := by
  exact (Tr.obind hf (fun v => hi (putD l d v))).congr fun s => by unfold nextOp Det.obind; cases f s <;> rfl

theorem opsD_nil (call : Call) (all : List Oper) (l : Tmps) (s : St) : opsD P call all [] l s = some (l, s) := rfl
theorem opsD_cons (call : Call) (all : List Oper) (o : Oper) (rest : List Oper) (l : Tmps) (s : St) :
    opsD P call all (o :: rest) l s = opsStep (opD P call o) o.dst (fun l => wantedD all l o) (opsD P call all rest) l s := rfl

theorem opsD_tr {call : Call} (hc : ∀ f args, Tr (call f args)) (all : List Oper) : ∀ (ops : List Oper) (l : Tmps), Tr (opsD P call all ops l)
  | [], l => pure_tr (some l) fun _ => rfl
  | o :: rest, l => by
    cases hw : wantedD all l o with
    | none => exact none_tr fun s => by rw [opsD_cons]; simp only [opsStep, hw]
    | some b => cases b with
      | true =>
        have e : opsD P call all (o :: rest) l = fun s => nextOp l o.dst (opsD P call all rest) (opD P call o l s) := by funext s; rw [opsD_cons]; simp only [opsStep, hw]
        rw [e]; exact nextOp_tr (opD_tr hc o l) (opsD_tr hc all rest) l o.dst
      | false =>
        have e : opsD P call all (o :: rest) l = opsD P call all rest (putD l o.dst skp) := by funext s; rw [opsD_cons]; simp only [opsStep, hw]
        rw [e]; exact opsD_tr hc all rest _

/-- an operation alone: its own feet -/
noncomputable def solo (s : St) : St := { h := s.h, next := s.next, hi := s.next, rd := 0, wr := 0 }
noncomputable def merge (s x : St) : St := { h := x.h, next := x.hi, hi := Nat.max s.hi x.hi, rd := Nat.lor s.rd x.rd, wr := Nat.lor s.wr x.wr }

theorem G1.solo {s x : St} (g : G1 (solo s) x) : G1 s (merge s x) := by
  have hi : x.next ≤ x.hi := g.inv (Nat.le_refl _)
  have hn : s.next ≤ x.next := g.next
  refine ⟨Nat.le_trans hn hi, Nat.le_max_left _ _, fun _ => Nat.le_max_right _ _, fun i q => bit_or.2 (.inl q), fun i q => bit_or.2 (.inl q), fun i q => g.frame i fun r => q (bit_or.2 (.inr r)), fun i q => ?_, fun i q => g.keep i q, fun i q => ?_, fun i q => ?_⟩
  · rcases g.dom i q with r | r
    · exact .inl r
    · right; exact ⟨r.1, Nat.lt_of_lt_of_le r.2 hi⟩
  · rcases bit_or.1 q with r | r
    · exact .inl r
    · rcases g.oldw i r with r | ⟨r1, r2⟩ | r
      · exact absurd r bit_zero
      · exact .inr (.inl ⟨bit_or.2 (.inr r1), r2⟩)
      · right; right; exact ⟨r.1, Nat.lt_of_lt_of_le r.2 hi⟩
  · rcases bit_or.1 q with r | r
    · exact .inl r
    · rcases g.oldr i r with r | r | r
      · exact absurd r bit_zero
      · exact .inr (.inl r)
      · right; right; exact ⟨r.1, Nat.lt_of_lt_of_le r.2 hi⟩

noncomputable def osolo {α : Type} (s : St) (r : Option (α × St)) : Option ((α × Nat × Nat) × St) := match r with
  | some x => some ((x.1, x.2.rd, x.2.wr), merge s x.2)
  | none => none
theorem Tr.solo {α : Type} {f : St → Option (α × St)} (hf : Tr f) : Tr (fun s => osolo s (f (Det.solo s))) := by
  intro s a s' h
  simp only at h
  unfold osolo at h
  split at h
  case h_2 => cases h
  rename_i x hx
  obtain ⟨v, y⟩ := x
  cases h
  obtain ⟨g, k⟩ := hf _ _ _ hx
  refine ⟨g.solo, fun t hF hb hr hn => ?_⟩
  obtain ⟨t', e, p⟩ := k (Det.solo t) ⟨Nat.le_refl _, fun i hi hB => hF.get i hi (Nat.lt_of_lt_of_le hB (Nat.le_max_right _ _))⟩ ⟨hb.next, hb.next, rfl, rfl⟩ (fun i q => hr i (bit_or.2 (.inr q))) (fun i q1 q2 => hn i q1 (Nat.lt_of_lt_of_le q2 (Nat.le_max_right _ _)))
  refine ⟨merge t t', by simp only [osolo, e, p.rd, p.wr], ⟨?_, ?_, ?_, ?_, p.pt⟩⟩
  · exact p.hi
  · show Nat.max t.hi t'.hi = Nat.max s.hi y.hi; rw [hb.hi, p.hi]
  · show Nat.lor t.rd t'.rd = Nat.lor s.rd y.rd; rw [hb.rd, p.rd]
  · show Nat.lor t.wr t'.wr = Nat.lor s.wr y.wr; rw [hb.wr, p.wr]

theorem drawD_nil (call : Call) (all : List Oper) (done : List Foot) (sl : List Soft) (l : Tmps) (s : St) : drawD P call all [] done sl l s = some (l, s) := rfl
theorem drawD_cons (call : Call) (all : List Oper) (o : Oper) (rest : List Oper) (done : List Foot) (sl : List Soft) (l : Tmps) (s : St) :
    drawD P call all (o :: rest) done sl l s = (match edgesOk done.length o.after.toList with
      | true => drawStep P all o done sl (drawD P call all rest) l s (wantRun (opD P call o) (fun l => wantedD all l o) l (solo s))
      | false => none) := rfl

theorem wantRun_tr {f : OpF} (w : Tmps → Option Bool) (l : Tmps) (hf : Tr (f l)) : Tr (wantRun f w l) := by
  cases hw : w l with
  | none => exact none_tr fun s => by simp only [wantRun, hw]
  | some b => cases b with
    | true =>
      have : wantRun f w l = f l := by funext s; simp only [wantRun, hw]
      rw [this]; exact hf
    | false => exact pure_tr (some skp) fun s => by simp only [wantRun, hw]

noncomputable def footOf (all : List Oper) (o : Oper) (done : List Foot) (rd wr : Nat) : Foot := { rt := readsT all o, wt := writesT o, rd := rd, wr := wr, before := beforeOf done o.after.toList }

/-- the loads that are looked at again -/
theorem softOne_tr (x : Option Soft) : Tr (fun s => match softOne P x s with | some s' => some ((), s') | none => none) := by
  cases x with
  | none => exact none_tr fun s => rfl
  | some y => cases y with
    | none => exact none_tr fun s => rfl
    | some z =>
      obtain ⟨ty, a, v⟩ := z
      refine (Tr.obind (loadD_tr (P := P) ty a) (g := fun r s => match sameV v r with | true => some ((), s) | false => none) fun r => ?_).congr fun s => ?_
      · cases sameV v r with
        | true => exact pure_tr (some ()) fun s => rfl
        | false => exact none_tr fun s => rfl
      · simp only [Det.obind, softOne]
        cases hl : loadD P s ty a with
        | none => rfl
        | some r => simp only; cases sameV v r.1 <;> rfl
theorem softGo_tr (f : Foot) : ∀ (done : List Foot) (i : Nat) (sl : List Soft), Tr (fun s => match softGo P f i done sl s with | some s' => some ((), s') | none => none)
  | [], i, sl => pure_tr (some ()) fun s => by simp only [softGo]
  | g :: t, i, sl => by
    cases h1 : (Nat.testBit f.before i || apart g f) with
    | true => exact (softGo_tr f t (i + 1) sl.tail).congr fun s => by simp only [softGo, h1]
    | false => cases h2 : apartS g f with
      | false => exact none_tr fun s => by simp only [softGo, h1, h2]
      | true =>
        refine (Tr.obind (softOne_tr (P := P) sl.head?) (g := fun _ s => match softGo P f (i + 1) t sl.tail s with | some s' => some ((), s') | none => none) fun _ => softGo_tr f t (i + 1) sl.tail).congr fun s => ?_
        simp only [Det.obind, softGo, h1, h2]
        cases softOne P sl.head? s <;> rfl

noncomputable def drawNext (call : Call) (all : List Oper) (o : Oper) (rest : List Oper) (done : List Foot) (sl : List Soft) (l : Tmps) (a : Value × Nat × Nat) (s : St) : Option (Tmps × St) :=
  drawGo P (footOf all o done a.2.1 a.2.2) done sl (drawD P call all rest (done ++ [footOf all o done a.2.1 a.2.2]) (sl ++ [softOf all o l a.1])) (putD l o.dst a.1) s
theorem drawD_tr {call : Call} (hc : ∀ f args, Tr (call f args)) (all : List Oper) : ∀ (ops : List Oper) (done : List Foot) (sl : List Soft) (l : Tmps), Tr (drawD P call all ops done sl l)
  | [], _, _, l => pure_tr (some l) fun _ => rfl
  | o :: rest, done, sl, l => by
    cases he : edgesOk done.length o.after.toList with
    | false => exact none_tr fun s => by rw [drawD_cons]; simp only [he]
    | true =>
      refine (Tr.obind (Tr.solo (wantRun_tr (f := opD P call o) (fun l => wantedD all l o) l (opD_tr hc o l))) (g := drawNext (P := P) call all o rest done sl l) (fun a => ?_)).congr fun s => ?_
      · refine (Tr.obind (softGo_tr (P := P) (footOf all o done a.2.1 a.2.2) done 0 sl) (g := fun _ => drawD P call all rest (done ++ [footOf all o done a.2.1 a.2.2]) (sl ++ [softOf all o l a.1]) (putD l o.dst a.1)) fun _ => drawD_tr hc all rest _ _ _).congr fun s => ?_
        simp only [drawNext, drawGo, Det.obind]
        cases softGo P (footOf all o done a.2.1 a.2.2) 0 done sl s <;> rfl
      · rw [drawD_cons]
        simp only [he]
        unfold drawStep osolo Det.obind
        cases wantRun (opD P call o) (fun l => wantedD all l o) l (solo s) <;> rfl

/-- a piece of code -/
def TrC (f : CodeF) : Prop := ∀ l, Tr (fun s => asc (f l s))

theorem ofTS_tr {f : St → Option (Tmps × St)} (hf : Tr f) : Tr (fun s => asc (ofTS (f s))) :=
  (hf.omap (fun l => (Ex.normal, l))).congr fun s => by unfold asc ofTS Det.omap; cases f s <;> rfl

noncomputable def seqNext (g : CodeF) (a : Ex × Tmps) (s : St) : Option ((Ex × Tmps) × St) := match a.1 with
  | .normal => asc (g a.2 s)
  | e => some ((e, a.2), s)
theorem cSeq_tr {f g : CodeF} (hf : TrC f) (hg : TrC g) : TrC (cSeq f g) := by
  intro l
  refine (Tr.obind (hf l) (g := seqNext g) (fun a => ?_)).congr fun s => ?_
  · obtain ⟨e, l1⟩ := a
    cases e with
    | normal => exact hg l1
    | exit i => exact pure_tr (some (Ex.exit i, l1)) fun _ => rfl
    | ret => exact pure_tr (some (Ex.ret, l1)) fun _ => rfl
  · unfold cSeq andThen
    cases f l s with
    | none => rfl
    | some x => obtain ⟨e, l1, s1⟩ := x; cases e <;> rfl

theorem cLoop_tr {f : CodeF} (hf : TrC f) : ∀ k, TrC (cLoop k f)
  | 0 => fun _ => none_tr fun _ => rfl
  | k + 1 => cSeq_tr hf (cLoop_tr hf k)

noncomputable def exOf (id : Nat) (a : Ex × Tmps) : Ex × Tmps := match a.1 with
  | .exit i => (match Nat.beq i id with | true => Ex.normal | false => Ex.exit i, a.2)
  | e => (e, a.2)
theorem cBlock_tr {f : CodeF} (hf : TrC f) (id : Nat) : TrC (cBlock id f) := by
  intro l
  refine ((hf l).omap (exOf id)).congr fun s => ?_
  unfold cBlock unblock
  cases f l s with
  | none => rfl
  | some x =>
    obtain ⟨e, l1, s1⟩ := x
    cases e with
    | exit i =>
      show asc (match Nat.beq i id with | true => some (Ex.normal, l1, s1) | false => some (Ex.exit i, l1, s1)) = some (exOf id (Ex.exit i, l1), s1)
      unfold exOf
      cases hb : Nat.beq i id <;> simp only [hb] <;> rfl
    | _ => rfl

theorem cCond_tr {f g : CodeF} (hf : TrC f) (hg : TrC g) (c : Operand) : TrC (cCond c f g) := by
  intro l
  cases hv : evalO l c with
  | bool b => cases b with
    | true => exact (hf l).congr fun s => by simp only [cCond, hv]
    | false => exact (hg l).congr fun s => by simp only [cCond, hv]
  | _ => exact none_tr fun s => by simp only [cCond, hv]; rfl

theorem codeD_tr {call : Call} (hc : ∀ f args, Tr (call f args)) (k : Nat) (c : Code) : TrC (codeD P call k c) := by
  induction c with
  | skip => exact fun l => pure_tr (some (Ex.normal, l)) fun _ => rfl
  | region id ops draw =>
    cases draw with
    | true => exact fun l => ofTS_tr (drawD_tr hc ops.toList ops.toList [] [] l)
    | false => exact fun l => ofTS_tr (opsD_tr hc ops.toList ops.toList l)
  | seq a b ha hb => exact cSeq_tr ha hb
  | cond c a b ha hb => exact cCond_tr ha hb c
  | block id a ha => exact cBlock_tr ha id
  | loop a ha => exact cLoop_tr ha k
  | exit id => exact fun l => pure_tr (some (Ex.exit id, l)) fun _ => rfl
  | ret => exact fun l => pure_tr (some (Ex.ret, l)) fun _ => rfl
  | _ => exact fun l => none_tr fun _ => rfl

end Go.Det
