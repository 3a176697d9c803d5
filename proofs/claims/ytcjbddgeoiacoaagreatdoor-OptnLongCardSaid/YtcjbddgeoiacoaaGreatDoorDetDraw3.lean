/- A part of an evaluator of closed runs and of its soundness. -/
import Derived.Test.YtcjbddgeoiacoaaGreatDoorDetDraw2
namespace Go.Det
variable {P : Program}

def WT (all : List Oper) (j t : Nat) : Prop := ∃ o, all[j]? = some o ∧ o.dst = some t
def WM (m : Nat) (X : Nat → St) (j id : Nat) : Prop := j < m ∧ bit (X j).wr id

structure Ctx (P : Program) (w0 : World) (n G : Nat) (call : Call) (ops : Array Oper) (fs : List Foot) (ss : List Soft) (L : Nat → Tmps) (S X : Nat → St) (V : Nat → Value) (φ0 : Ren) : Prop where
  hcall : CallOk P w0 G call
  hT : ∀ f args, Tr (call f args)
  T : Trace P call ops.toList ops.toList [] [] fs ss L S X V
  full : Full (S ops.toList.length).hi (S 0)
  fresh : ∀ id, (S 0).next ≤ id → id < (S ops.toList.length).hi → φ0 id = none
  glob : Glob G φ0
  ok : ∀ o ∈ ops.toList, okOper n G o = true

structure Done (w0 : World) (n : Nat) (ops : Array Oper) (L : Nat → Tmps) (S X : Nat → St) (V : Nat → Value) (φ0 : Ren) (E : Nat → Prop) (φ : Ren) (h : Heap) (l : Tmps) (a : Act) (w : World) : Prop where
  hr : HR φ h w0 w
  fr : Fr n φ l a
  tm : ∀ t, Last (WT ops.toList) (fun j _ => V j) (lget (L 0)) E t (lget l t)
  bl : ∀ id, Last (WM ops.toList.length X) (fun j id => (X j).h.get id) (S 0).h.get E id (h.get id)
  le : Le φ0 φ
  new : ∀ id, φ id ≠ none → φ0 id ≠ none ∨ ∃ j, E j ∧ (S j).next ≤ id ∧ id < (X j).next
  inside : ∀ j, E j → j < ops.toList.length
  closed : Closed ops.toList E

theorem opAt {all : List Oper} {j : Nat} (h : j < all.length) : ∃ o, all[j]? = some o := ⟨all[j], List.getElem?_eq_getElem h⟩

section
variable {w0 : World} {n G : Nat} {call : Call} {ops : Array Oper} {fs : List Foot} {ss : List Soft} {L : Nat → Tmps} {S X : Nat → St} {V : Nat → Value} {φ0 : Ren}

theorem Ctx.g (C : Ctx P w0 n G call ops fs ss L S X V φ0) {i : Nat} (hi : i < ops.toList.length) : G1 (solo (S i)) (X i) := by
  obtain ⟨o, ho⟩ := opAt hi
  exact (runO_tr C.hT ops.toList o (L i) _ _ _ (C.T.run i o ho)).1
theorem Ctx.g' (C : Ctx P w0 n G call ops fs ss L S X V φ0) {i : Nat} (hi : i < ops.toList.length) : G1 (S i) (S (i + 1)) := by
  obtain ⟨o, ho⟩ := opAt hi
  obtain ⟨f, _, _, f3⟩ := C.T.ft i o ho
  exact (C.g hi).solo.trans (softGo_some f3).1
theorem Ctx.snext (C : Ctx P w0 n G call ops fs ss L S X V φ0) {i : Nat} (hi : i < ops.toList.length) : (S (i + 1)).next = (X i).hi := by
  obtain ⟨o, ho⟩ := opAt hi
  obtain ⟨f, _, _, f3⟩ := C.T.ft i o ho
  rw [(softGo_some f3).2.2.1]; rfl
theorem Ctx.sheap (C : Ctx P w0 n G call ops fs ss L S X V φ0) {i : Nat} (hi : i < ops.toList.length) : (S (i + 1)).h = (X i).h := by
  obtain ⟨o, ho⟩ := opAt hi
  obtain ⟨f, _, _, f3⟩ := C.T.ft i o ho
  rw [(softGo_some f3).2.1]; rfl
theorem Ctx.gs (C : Ctx P w0 n G call ops fs ss L S X V φ0) {i : Nat} : ∀ {j : Nat}, i ≤ j → j ≤ ops.toList.length → G1 (S i) (S j) := by
  intro j hij
  induction hij with
  | refl => exact fun _ => G1.refl _
  | step hij ih => exact fun hj => (ih (Nat.le_of_succ_le hj)).trans (C.g' hj)
theorem Ctx.xnext (C : Ctx P w0 n G call ops fs ss L S X V φ0) {i : Nat} (hi : i < ops.toList.length) : (S i).next ≤ (X i).next ∧ (X i).next ≤ (X i).hi := ⟨(C.g hi).next, (C.g hi).inv (Nat.le_refl _)⟩
theorem Ctx.xhi (C : Ctx P w0 n G call ops fs ss L S X V φ0) {i j : Nat} (hij : i < j) (hj : j ≤ ops.toList.length) : (X i).hi ≤ (S j).next := by
  rw [← C.snext (Nat.lt_of_lt_of_le hij hj)]
  exact (C.gs hij hj).next
theorem Ctx.top (C : Ctx P w0 n G call ops fs ss L S X V φ0) {i : Nat} (hi : i < ops.toList.length) : (X i).hi ≤ (S ops.toList.length).hi :=
  Nat.le_trans (C.xhi hi (Nat.le_refl _)) ((C.gs (Nat.zero_le _) (Nat.le_refl _)).inv C.full.le)
theorem Ctx.fullAt (C : Ctx P w0 n G call ops fs ss L S X V φ0) {i : Nat} (hi : i ≤ ops.toList.length) : Full (S ops.toList.length).hi (S i) := C.full.step (C.gs (Nat.zero_le _) hi)

theorem Ctx.lastT (C : Ctx P w0 n G call ops fs ss L S X V φ0) (t : Nat) : ∀ i, i ≤ ops.toList.length → Last (WT ops.toList) (fun j _ => V j) (lget (L 0)) (fun j => j < i) t (lget (L i) t)
  | 0, _ => .inr ⟨fun j hj => absurd hj (Nat.not_lt_zero _), rfl⟩
  | i + 1, hi => by
    obtain ⟨o, ho⟩ := opAt hi
    have ih := C.lastT t i (Nat.le_of_succ_le hi)
    rw [C.T.nl i o ho]
    have hiff : ∀ j, (j = i ∨ j < i) ↔ j < i + 1 := fun j => by omega
    cases hd : o.dst with
    | none => exact (ih.skip (i := i) (fun ⟨o', h1, h2⟩ => by rw [ho] at h1; cases h1; rw [hd] at h2; cases h2)).iff hiff
    | some d =>
      show Last _ _ _ _ t (lget (lset (L i) d (V i)) t)
      rw [lget_set]
      by_cases e : t = d
      · rw [if_pos e]
        exact (Last.add (val := fun j _ => V j) (i := i) ⟨o, ho, by rw [hd, e]⟩ (fun k hk _ => Nat.le_of_lt hk)).iff hiff
      · rw [if_neg e]
        exact (ih.skip (i := i) (fun ⟨o', h1, h2⟩ => by rw [ho] at h1; cases h1; rw [hd] at h2; cases h2; exact e rfl)).iff hiff

theorem Ctx.lastM (C : Ctx P w0 n G call ops fs ss L S X V φ0) (id : Nat) : ∀ i, i ≤ ops.toList.length → Last (WM ops.toList.length X) (fun j id => (X j).h.get id) (S 0).h.get (fun j => j < i) id ((S i).h.get id)
  | 0, _ => .inr ⟨fun j hj => absurd hj (Nat.not_lt_zero _), rfl⟩
  | i + 1, hi => by
    have ih := C.lastM id i (Nat.le_of_succ_le hi)
    rw [C.sheap hi]
    have hiff : ∀ j, (j = i ∨ j < i) ↔ j < i + 1 := fun j => by omega
    by_cases hb : bit (X i).wr id
    · exact (Last.add (val := fun j id => (X j).h.get id) (i := i) ⟨hi, hb⟩ (fun k hk _ => Nat.le_of_lt hk)).iff hiff
    · have e : (X i).h.get id = (S i).h.get id := (C.g hi).frame id hb
      rw [e]
      exact (ih.skip (i := i) (fun h => hb h.2)).iff hiff

variable {E : Nat → Prop} {φ : Ren} {h : Heap} {l : Tmps} {a : Act} {w : World}

theorem WT.bit (C : Ctx P w0 n G call ops fs ss L S X V φ0) {j t : Nat} (hw : WT ops.toList j t) : j < ops.toList.length ∧ bit (ftAt fs j).wt t := by
  obtain ⟨o, h1, h2⟩ := hw
  refine ⟨(List.getElem?_eq_some_iff.1 h1).1, ?_⟩
  rw [(C.T.foot h1).2.1]
  unfold writesT
  rw [h2]
  exact bit_one.2 rfl
theorem WM.bit (C : Ctx P w0 n G call ops fs ss L S X V φ0) {j id : Nat} (hw : WM ops.toList.length X j id) : Det.bit (ftAt fs j).wr id := by
  obtain ⟨o, ho⟩ := opAt hw.1
  rw [(C.T.foot ho).2.2.2]; exact hw.2

structure Ready (ops : Array Oper) (E : Nat → Prop) (i : Nat) (o : Oper) : Prop where
  op : ops.toList[i]? = some o
  new : ¬ E i
  edges : ∀ e ∈ o.after.toList, Region.binds .any e = true → E e.on

theorem Ready.lt {i : Nat} {o : Oper} (R : Ready ops E i o) : i < ops.toList.length := (List.getElem?_eq_some_iff.1 R.op).1

theorem agreeT (C : Ctx P w0 n G call ops fs ss L S X V φ0) (D : Done w0 n ops L S X V φ0 E φ h l a w) {i : Nat} {o : Oper} (R : Ready ops E i o) {t : Nat} (ht : bit (ftAt fs i).rt t ∨ bit (ftAt fs i).wt t)
    (j : Nat) (hj : WT ops.toList j t) : E j ↔ j < i := by
  obtain ⟨jm, jb⟩ := WT.bit C hj
  rcases Nat.lt_trichotomy j i with q | q | q
  · exact ⟨fun _ => q, fun _ => C.T.down1 D.closed D.inside R.op R.edges j (C.T.clashT q R.lt (.inl ⟨jb, ht⟩))⟩
  · exact ⟨fun e => absurd (q ▸ e) R.new, fun e => absurd e (by omega)⟩
  · refine ⟨fun e => absurd (C.T.down D.closed D.inside j e i (C.T.clashT (t := t) q jm ?_)) R.new, fun e => absurd e (by omega)⟩
    rcases ht with ht | ht
    · exact .inr ⟨jb, ht⟩
    · exact .inl ⟨ht, .inr jb⟩

/-- an operation that must run where it does, as to the memory that it reads -/
def Hard (P : Program) (ops : Array Oper) (ss : List Soft) (X : Nat → St) (i : Nat) : Prop := ∀ j, i < j → j < ops.toList.length → ¬ SoftAt P ss X i j

theorem earlyM (C : Ctx P w0 n G call ops fs ss L S X V φ0) (D : Done w0 n ops L S X V φ0 E φ h l a w) {i : Nat} {o : Oper} (R : Ready ops E i o) {id : Nat} (ht : bit (X i).rd id ∨ bit (X i).wr id)
    (j : Nat) (hj : WM ops.toList.length X j id) (q : j < i) : E j := by
  have jb := WM.bit C hj
  have ht : bit (ftAt fs i).rd id ∨ bit (ftAt fs i).wr id := by rw [(C.T.foot R.op).2.2.1, (C.T.foot R.op).2.2.2]; exact ht
  exact C.T.down1 D.closed D.inside R.op R.edges j (C.T.clashM q R.lt ⟨jb, ht⟩)

theorem agreeM (C : Ctx P w0 n G call ops fs ss L S X V φ0) (D : Done w0 n ops L S X V φ0 E φ h l a w) {i : Nat} {o : Oper} (R : Ready ops E i o) {id : Nat} (ht : (Hard P ops ss X i ∧ bit (X i).rd id) ∨ bit (X i).wr id)
    (j : Nat) (hj : WM ops.toList.length X j id) : E j ↔ j < i := by
  have jb := WM.bit C hj
  rcases Nat.lt_trichotomy j i with q | q | q
  · exact ⟨fun _ => q, fun _ => earlyM C D R (ht.imp And.right (fun q => q)) j hj q⟩
  · exact ⟨fun e => absurd (q ▸ e) R.new, fun e => absurd e (by omega)⟩
  · refine ⟨fun e => absurd (C.T.down D.closed D.inside j e i ?_) R.new, fun e => absurd e (by omega)⟩
    rcases ht with ⟨hh, ht⟩ | ht
    · rcases C.T.clashR (t := id) q hj.1 ⟨jb, by rw [(C.T.foot R.op).2.2.1]; exact ht⟩ with r | r
      · exact r
      · exact absurd r (hh j q hj.1)
    · exact C.T.clashM (t := id) q hj.1 ⟨by rw [(C.T.foot R.op).2.2.2]; exact ht, .inr jb⟩

theorem sameT (C : Ctx P w0 n G call ops fs ss L S X V φ0) (D : Done w0 n ops L S X V φ0 E φ h l a w) {i : Nat} {o : Oper} (R : Ready ops E i o) (t : Nat) (ht : bit (readsT ops.toList o) t) : lget l t = lget (L i) t :=
  (D.tm t).unique (C.lastT t i (Nat.le_of_lt R.lt)) (agreeT C D R (.inl (by rw [(C.T.foot R.op).1]; exact ht)))
theorem sameM (C : Ctx P w0 n G call ops fs ss L S X V φ0) (D : Done w0 n ops L S X V φ0 E φ h l a w) {i : Nat} {o : Oper} (R : Ready ops E i o) (id : Nat) (ht : (Hard P ops ss X i ∧ bit (X i).rd id) ∨ bit (X i).wr id) : h.get id = (S i).h.get id :=
  (D.bl id).unique (C.lastM id i (Nat.le_of_lt R.lt)) (agreeM C D R ht)

/-- a load that may run elsewhere too loads the same -/
theorem softly (C : Ctx P w0 n G call ops fs ss L S X V φ0) (D : Done w0 n ops L S X V φ0 E φ h l a w) {i : Nat} {o : Oper} (R : Ready ops E i o) {k : Nat} (_ : i < k) (_ : k < ops.toList.length) (hs : SoftAt P ss X i k) :
    ∀ u : St, u.h = h → ∃ id, runO P call ops.toList o (L i) u = some (V i, u.read id) ∧ X i = (solo (S i)).read id := by
  obtain ⟨t, ad, v, h1, u0, u0', h2, h3⟩ := hs
  have h4 := C.T.so i o R.op
  rw [h1] at h4
  have h4 := Option.some.inj h4
  unfold softOf at h4
  split at h4
  case h_2 => cases h4
  rename_i t' a' hop
  split at h4
  case h_2 => cases h4
  rename_i b hw
  split at h4
  case h_2 => cases h4
  cases h4
  have hro : ∀ u, runO P call ops.toList o (L i) u = loadD P u t (evalO (L i) a') := by
    intro u
    unfold runO wantRun
    simp only [hw]
    unfold opD
    rw [hop]
    rfl
  have hrun := C.T.run i o R.op
  rw [hro] at hrun
  obtain ⟨id, off, e1, e2, e3, e4⟩ := loadD_same hrun
  have hrd : bit (X i).rd id := by rw [e2]; exact rd_self
  intro u hu
  refine ⟨id, ?_, e2⟩
  rw [hro]
  have key : h.get id = (S i).h.get id ∨ ∃ j, i < j ∧ j < ops.toList.length ∧ SoftAt P ss X i j ∧ h.get id = (X j).h.get id := by
    rcases D.bl id with ⟨j, p1, p2, p3, p4⟩ | ⟨p1, p4⟩
    · rcases Nat.lt_trichotomy j i with q | q | q
      · left
        rw [p4]
        refine Last.unique (E := E) (E' := fun j => j < i) (.inl ⟨j, p1, p2, p3, rfl⟩ : Last (WM ops.toList.length X) (fun j id => (X j).h.get id) (S 0).h.get E id ((X j).h.get id)) ?_ ?_
        · exact C.lastM id i (Nat.le_of_lt R.lt)
        · exact fun j' hj' => ⟨fun e => Nat.lt_of_le_of_lt (p3 j' e hj') q, fun e => earlyM C D R (.inl hrd) j' hj' e⟩
      · exact absurd (q ▸ p1) R.new
      · right
        have hb : ¬ bit (ftAt fs j).before i := fun hb => R.new (C.T.down D.closed D.inside j p1 i hb)
        refine ⟨j, q, p2.1, ?_, p4⟩
        rcases C.T.clashR (t := id) q p2.1 ⟨WM.bit C p2, by rw [(C.T.foot R.op).2.2.1]; exact hrd⟩ with r | r
        · exact absurd r hb
        · exact r
    · left
      rw [p4]
      refine Last.unique (E := E) (E' := fun j => j < i) (.inr ⟨p1, rfl⟩ : Last (WM ops.toList.length X) (fun j id => (X j).h.get id) (S 0).h.get E id ((S 0).h.get id)) (C.lastM id i (Nat.le_of_lt R.lt)) ?_
      exact fun j' hj' => ⟨fun e => absurd hj' (p1 j' e), fun e => earlyM C D R (.inl hrd) j' hj' e⟩
  rcases key with q | ⟨j, q1, q2, ⟨t2, a2, v2, k1, u2, u2', k2, k3⟩, q3⟩
  · exact e4 u (by rw [hu]; exact q)
  · rw [h1] at k1; cases k1
    obtain ⟨id2, off2, f1, _, _, f4⟩ := loadD_same k3
    rw [e1] at f1; cases f1
    exact f4 u (by rw [hu, q3, k2])

theorem Ctx.chain (C : Ctx P w0 n G call ops fs ss L S X V φ0) {i id : Nat} (hid : id < (X i).hi) : ∀ {j : Nat}, i + 1 ≤ j → j ≤ ops.toList.length → (S j).h.get id ≠ none → (S (i + 1)).h.get id ≠ none := by
  intro j hij
  induction hij with
  | refl => exact fun _ h => h
  | @step k hij ih =>
    intro hj hn
    rcases (C.g' hj).dom id hn with r | r
    · exact ih (Nat.le_of_succ_le hj) r
    · exact absurd hid (Nat.not_lt.2 (Nat.le_trans (C.xhi hij (Nat.le_of_succ_le hj)) r.1))

theorem Ctx.zero (C : Ctx P w0 n G call ops fs ss L S X V φ0) {i : Nat} (hi : i ≤ ops.toList.length) : (S 0).next ≤ (S i).next := (C.gs (Nat.zero_le _) hi).next

theorem unborn (C : Ctx P w0 n G call ops fs ss L S X V φ0) (D : Done w0 n ops L S X V φ0 E φ h l a w) {i : Nat} {o : Oper} (R : Ready ops E i o) (id : Nat) (h1 : (S i).next ≤ id) (h2 : id < (X i).hi) : h.get id = none := by
  have ht := Nat.lt_of_lt_of_le h2 (C.top R.lt)
  have e : h.get id = (S 0).h.get id := (D.bl id).unique (E' := fun _ => False) (.inr ⟨fun _ => False.elim, rfl⟩) fun j hj => by
    refine ⟨fun hE => ?_, False.elim⟩
    have hne : j ≠ i := fun q => R.new (q ▸ hE)
    have gj := C.g hj.1
    have hx := C.xnext hj.1
    rcases gj.oldw id hj.2 with r | ⟨r1, r2⟩ | r
    · exact bit_zero r
    · have hlt : id < (S j).next := by
        rcases Nat.lt_or_ge id (S j).next with q | q
        · exact q
        · exact absurd ((C.fullAt (Nat.le_of_lt hj.1)).get id q ht) r2
      have hij : i < j := by
        rcases Nat.lt_or_ge i j with q | q
        · exact q
        · have := (C.gs q (Nat.le_of_lt R.lt)).next
          omega
      have hn := C.chain h2 hij (Nat.le_of_lt hj.1) r2
      rw [C.sheap R.lt] at hn
      have hw : bit (X i).wr id := Classical.byContradiction fun hb => hn (((C.g R.lt).frame id hb).trans ((C.fullAt (Nat.le_of_lt R.lt)).get id h1 ht))
      obtain ⟨oj, hoj⟩ := opAt hj.1
      have hb := C.T.clashM (t := id) hij hj.1 ⟨by rw [(C.T.foot R.op).2.2.2]; exact hw, .inl (by rw [(C.T.foot hoj).2.2.1]; exact r1)⟩
      exact R.new (C.T.down D.closed D.inside j hE i hb)
    · have r1 : (S j).next ≤ id := r.1
      rcases Nat.lt_or_gt_of_ne hne with q | q
      · have := C.xhi q (Nat.le_of_lt R.lt)
        omega
      · have := C.xhi q (Nat.le_of_lt hj.1)
        omega
  rw [e]
  exact C.full.get id (Nat.le_trans (C.zero (Nat.le_of_lt R.lt)) h1) ht

theorem freshAt (C : Ctx P w0 n G call ops fs ss L S X V φ0) (D : Done w0 n ops L S X V φ0 E φ h l a w) {i : Nat} {o : Oper} (R : Ready ops E i o) (id : Nat) (h1 : (S i).next ≤ id) (h2 : id < (X i).hi) : φ id = none := by
  cases hφ : φ id with
  | none => rfl
  | some y =>
    exfalso
    rcases D.new id (by rw [hφ]; simp) with r | ⟨j, hE, r1, r2⟩
    · exact r (C.fresh id (Nat.le_trans (C.zero (Nat.le_of_lt R.lt)) h1) (Nat.lt_of_lt_of_le h2 (C.top R.lt)))
    · have hne : j ≠ i := fun q => R.new (q ▸ hE)
      have hjm := D.inside j hE
      have hx := C.xnext hjm
      rcases Nat.lt_or_gt_of_ne hne with q | q
      · have := C.xhi q (Nat.le_of_lt R.lt)
        omega
      · have := C.xhi q (Nat.le_of_lt hjm)
        omega

noncomputable def mix (h : Heap) (s : St) : St := { h := h, next := s.next, hi := s.next, rd := 0, wr := 0 }

theorem Done.next (C : Ctx P w0 n G call ops fs ss L S X V φ0) (D : Done w0 n ops L S X V φ0 E φ h l a w) {i : Nat} {o : Oper} (R : Ready ops E i o) {t' : St} {φ' : Ren} {a' : Act} {w' : World}
    (g : G1 (mix h (S i)) t') (p : PW (solo (S i)) (mix h (S i)) (X i) t') (hx : Ext φ φ' (S i).next t'.next) (hr : HR φ' t'.h w0 w') (hf : Fr n φ' (putD l o.dst (V i)) a') :
    Done w0 n ops L S X V φ0 (fun j => j = i ∨ E j) φ' t'.h (putD l o.dst (V i)) a' w' := by
  refine ⟨hr, hf, fun t => ?_, fun id => ?_, D.le.trans hx.le, fun id hid => ?_, fun j hj => ?_, fun j q e hj hq he hb => ?_⟩
  · cases hd : o.dst with
    | none => exact (D.tm t).skip (i := i) (fun ⟨o', h1, h2⟩ => by rw [R.op] at h1; cases h1; rw [hd] at h2; cases h2)
    | some d =>
      show Last _ _ _ _ t (lget (lset l d (V i)) t)
      rw [lget_set]
      by_cases e : t = d
      · rw [if_pos e]
        have hwt : WT ops.toList i t := ⟨o, R.op, by rw [hd, e]⟩
        exact Last.add (val := fun j _ => V j) (i := i) hwt (fun k hk hkw => Nat.le_of_lt ((agreeT C D R (.inr (WT.bit C hwt).2) k hkw).1 hk))
      · rw [if_neg e]
        exact (D.tm t).skip (i := i) (fun ⟨o', h1, h2⟩ => by rw [R.op] at h1; cases h1; rw [hd] at h2; cases h2; exact e rfl)
  · by_cases hb : bit (X i).wr id
    · have e : t'.h.get id = (X i).h.get id := by
        rcases p.pt id with q | ⟨q1, q2⟩
        · exact q
        · rw [q1, q2]; exact sameM C D R id (.inr hb)
      rw [e]
      exact Last.add (val := fun j id => (X j).h.get id) (i := i) ⟨R.lt, hb⟩ (fun k hk hkw => Nat.le_of_lt ((agreeM C D R (.inr hb) k hkw).1 hk))
    · have e : t'.h.get id = h.get id := g.frame id (by rw [p.wr]; exact hb)
      rw [e]
      exact (D.bl id).skip (i := i) (fun q => hb q.2)
  · rcases hx.new id hid with r | r
    · rcases D.new id r with r | ⟨j, r1, r2⟩
      · exact .inl r
      · exact .inr ⟨j, .inr r1, r2⟩
    · exact .inr ⟨i, .inl rfl, by rw [p.next] at r; exact r⟩
  · rcases hj with rfl | hj
    · exact R.lt
    · exact D.inside j hj
  · rcases hj with rfl | hj
    · rw [R.op] at hq; cases hq; exact .inr (R.edges e he hb)
    · exact .inr (D.closed j q e hj hq he hb)

theorem Done.step (C : Ctx P w0 n G call ops fs ss L S X V φ0) (D : Done w0 n ops L S X V φ0 E φ h l a w) {i : Nat} {o : Oper} (R : Ready ops E i o) {Q : Exit → Act → World → Prop} {K : Act → World → Prop}
    (k : ∀ φ' h' l' a' w', Done w0 n ops L S X V φ0 (fun j => j = i ∨ E j) φ' h' l' a' w' → K a' w') : wpOp P ops Q i K a w := by
  have hop : ops[i]? = some o := by rw [← Array.getElem?_toList]; exact R.op
  have hok := C.ok o (List.mem_of_getElem? R.op)
  unfold okOper at hok
  rw [Bool.and_eq_true] at hok
  obtain ⟨hwc, hrc⟩ := wantRun_congr (P := P) (call := call) (all := ops.toList) (o := o) (l := l) (l' := L i) (sameT C D R)
  have hrun := C.T.run i o R.op
  have htr := runO_tr C.hT ops.toList o (L i) _ _ _ hrun
  obtain ⟨t', ht', p⟩ : ∃ t', runO P call ops.toList o (L i) (mix h (S i)) = some (V i, t') ∧ PW (solo (S i)) (mix h (S i)) (X i) t' := by
    by_cases hh : Hard P ops ss X i
    · exact htr.2 (mix h (S i)) ⟨Nat.le_refl _, fun id q1 q2 => (C.fullAt (Nat.le_of_lt R.lt)).get id q1 (Nat.lt_of_lt_of_le q2 (C.top R.lt))⟩ ⟨rfl, rfl, rfl, rfl⟩
        (fun id q => sameM C D R id (.inl ⟨hh, q⟩)) (fun id q1 q2 => unborn C D R id q1 q2)
    · obtain ⟨k, hk⟩ := Classical.not_forall.1 hh
      obtain ⟨k1, hk⟩ := Classical.not_forall.1 hk
      obtain ⟨k2, hk⟩ := Classical.not_forall.1 hk
      obtain ⟨id, e1, e2⟩ := softly C D R k1 k2 (Classical.not_not.1 hk) (mix h (S i)) rfl
      refine ⟨_, e1, ?_⟩
      rw [e2]
      exact PW.read (s := solo (S i)) (t := mix h (S i)) ⟨rfl, rfl, rfl, rfl⟩ id
  have g := (runO_tr C.hT ops.toList o (L i) _ _ _ ht').1
  have ht2 : runO P call ops.toList o l (mix h (S i)) = some (V i, t') := by unfold runO at ht' ⊢; rw [hrc]; exact ht'
  unfold wpOp
  rw [hop]
  simp only
  unfold runO wantRun at ht2
  cases hw : wantedD ops.toList l o with
  | none => simp [hw] at ht2
  | some b =>
    simp only [hw] at ht2
    have hwant := wanted_ok D.fr hw
    cases b with
    | false =>
      simp only [Option.some.injEq, Prod.mk.injEq] at ht2
      obtain ⟨e1, e2⟩ := ht2
      rw [if_neg (by rw [hwant]; simp)]
      refine k φ t'.h (putD l o.dst (V i)) _ _ (D.next C R g p (Ext.refl _ _ _) ?_ ?_)
      · rw [← e2]; exact D.hr
      · rw [← e1]; exact D.fr.put hok.2 .skip
    | true =>
      simp only at ht2
      rw [if_pos hwant]
      left
      have hgv := opD_ok (ρ := a.eval) C.hcall C.hT ht2 D.hr (C.glob.mono D.le) (fun x hx => evalO_ok (C.glob.mono D.le) D.fr (okOperands_mem hok.1 x hx))
        (fun id q1 q2 => freshAt C D R id q1 (by rw [p.hi] at q2; exact q2)) ⟨Nat.le_refl _, fun id q1 q2 => unborn C D R id q1 (by rw [p.hi] at q2; exact q2)⟩
      refine hgv.wp fun φ' v' w' e hv H' => ?_
      exact k φ' t'.h (putD l o.dst (V i)) _ _ (D.next C R g p e H' ((D.fr.mono e.le).put hok.2 hv))
end

end Go.Det
