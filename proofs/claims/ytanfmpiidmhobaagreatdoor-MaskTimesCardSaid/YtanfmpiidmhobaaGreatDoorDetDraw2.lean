/- A part of an evaluator of closed runs and of its soundness. -/
import Derived.Test.YtanfmpiidmhobaaGreatDoorDetDraw
namespace Go.Det
variable {P : Program}

noncomputable def runO (P : Program) (call : Call) (all : List Oper) (o : Oper) : Tmps → St → Option (Value × St) := wantRun (opD P call o) (fun l => wantedD all l o)
theorem runO_tr {call : Call} (hT : ∀ f args, Tr (call f args)) (all : List Oper) (o : Oper) (l : Tmps) : Tr (runO P call all o l) :=
  wantRun_tr (f := opD P call o) (fun l => wantedD all l o) l (opD_tr hT o l)

/-- A run in the order of the text, laid out. -/
structure Trace (P : Program) (call : Call) (all rest : List Oper) (done : List Foot) (fs : List Foot) (L : Nat → Tmps) (S X : Nat → St) (V : Nat → Value) : Prop where
  len : fs.length = rest.length
  run : ∀ i o, rest[i]? = some o → runO P call all o (L i) (solo (S i)) = some (V i, X i)
  nl : ∀ i o, rest[i]? = some o → L (i + 1) = putD (L i) o.dst (V i)
  ns : ∀ i o, rest[i]? = some o → S (i + 1) = merge (S i) (X i)
  ft : ∀ i o, rest[i]? = some o → ∃ f, fs[i]? = some f ∧ f = footOf all o (done ++ fs.take i) (X i).rd (X i).wr ∧ apartAll f 0 (done ++ fs.take i) = true
  ed : ∀ i o, rest[i]? = some o → edgesOk (done.length + i) o.after.toList = true

theorem drawD_trace {call : Call} {all : List Oper} : ∀ (rest : List Oper) (done : List Foot) (l : Tmps) (s : St) (l' : Tmps) (s' : St), drawD P call all rest done l s = some (l', s') →
    ∃ fs L S X V, Trace P call all rest done fs L S X V ∧ L 0 = l ∧ S 0 = s ∧ L rest.length = l' ∧ S rest.length = s'
  | [], done, l, s, l', s', h => by
    rw [drawD_nil] at h
    cases h
    exact ⟨[], fun _ => l, fun _ => s, fun _ => s, fun _ => und, ⟨rfl, fun i o h => by simp at h, fun i o h => by simp at h, fun i o h => by simp at h, fun i o h => by simp at h, fun i o h => by simp at h⟩, rfl, rfl, rfl, rfl⟩
  | o :: rest, done, l, s, l', s', h => by
    rw [drawD_cons] at h
    split at h
    case h_2 => cases h
    rename_i he
    unfold drawStep at h
    split at h
    case h_2 => cases h
    rename_i x hx
    obtain ⟨v, y⟩ := x
    simp only at h
    unfold drawGo at h
    split at h
    case h_2 => cases h
    rename_i hap
    obtain ⟨fs, L, S, X, V, T, e1, e2, e3, e4⟩ := drawD_trace rest _ _ _ _ _ h
    refine ⟨footOf all o done y.rd y.wr :: fs, fun i => match i with | 0 => l | i + 1 => L i, fun i => match i with | 0 => s | i + 1 => S i, fun i => match i with | 0 => y | i + 1 => X i,
      fun i => match i with | 0 => v | i + 1 => V i, ⟨by simp [T.len], fun i q hq => ?_, fun i q hq => ?_, fun i q hq => ?_, fun i q hq => ?_, fun i q hq => ?_⟩, rfl, rfl, e3, e4⟩
    · cases i with
      | zero => simp only [List.getElem?_cons_zero, Option.some.injEq] at hq; subst hq; exact hx
      | succ i => exact T.run i q (by simpa using hq)
    · cases i with
      | zero => simp only [List.getElem?_cons_zero, Option.some.injEq] at hq; subst hq; exact e1
      | succ i => exact T.nl i q (by simpa using hq)
    · cases i with
      | zero => simp only [List.getElem?_cons_zero, Option.some.injEq] at hq; subst hq; exact e2
      | succ i => exact T.ns i q (by simpa using hq)
    · cases i with
      | zero =>
        simp only [List.getElem?_cons_zero, Option.some.injEq] at hq; subst hq
        exact ⟨_, rfl, by simp, by simpa [footOf] using hap⟩
      | succ i =>
        obtain ⟨f, f1, f2, f3⟩ := T.ft i q (by simpa using hq)
        refine ⟨f, by simpa using f1, ?_, ?_⟩
        · rw [f2]; simp [footOf, List.append_assoc]
        · have := f3; simpa [footOf, List.append_assoc] using this
    · cases i with
      | zero => simp only [List.getElem?_cons_zero, Option.some.injEq] at hq; subst hq; simpa using he
      | succ i =>
        have := T.ed i q (by simpa using hq)
        simpa [Nat.add_assoc, Nat.add_comm 1 i] using this

theorem edgesOk_mem {i : Nat} : ∀ {es : List Edge}, edgesOk i es = true → ∀ e ∈ es, Region.binds .any e = true → e.on < i
  | [], _, e, he, _ => by cases he
  | x :: t, h, e, he, hb => by
    simp only [edgesOk, Bool.and_eq_true] at h
    rcases List.mem_cons.1 he with rfl | he
    · have h1 := h.1
      unfold Region.binds at hb
      cases hg : e.ground <;> rw [hg] at h1 hb <;> first | exact Nat.le_of_ble_eq_true h1 | (simp at hb)
    · exact edgesOk_mem h.2 e he hb

theorem beforeOf_bit {done : List Foot} {k : Nat} : ∀ {es : List Edge}, bit (beforeOf done es) k → ∃ e ∈ es, Region.binds .any e = true ∧ (k = e.on ∨ ∃ f, nth done e.on = some f ∧ bit f.before k)
  | [], h => absurd h bit_zero
  | x :: t, h => by
    rw [beforeOf] at h
    rcases bit_or.1 h with h | h
    · refine ⟨x, by simp, ?_⟩
      cases hg : x.ground <;> rw [hg] at h <;> simp only at h <;> first
        | exact absurd h bit_zero
        | (refine ⟨by unfold Region.binds; rw [hg], ?_⟩
           rcases bit_or.1 h with h | h
           · exact .inl (bit_one.1 h)
           · right
             split at h
             · rename_i f hf; exact ⟨f, hf, h⟩
             · exact absurd h bit_zero)
    · obtain ⟨e, he, r⟩ := beforeOf_bit h
      exact ⟨e, by simp [he], r⟩

theorem apartAll_get {f : Foot} : ∀ {done : List Foot} {j : Nat}, apartAll f j done = true → ∀ k g, done[k]? = some g → bit f.before (j + k) ∨ apart g f = true
  | [], _, _, k, g, hk => by simp at hk
  | x :: t, j, h, k, g, hk => by
    simp only [apartAll, Bool.and_eq_true, Bool.or_eq_true] at h
    cases k with
    | zero => simp only [List.getElem?_cons_zero, Option.some.injEq] at hk; subst hk; exact h.1
    | succ k =>
      have := apartAll_get h.2 k g (by simpa using hk)
      rwa [show j + 1 + k = j + (k + 1) by omega] at this

theorem and_zero {a b i : Nat} (h : Nat.beq (Nat.land a b) 0 = true) (ha : bit a i) (hb : bit b i) : False := by
  have e : a &&& b = 0 := Nat.eq_of_beq_eq_true h
  have : Nat.testBit (a &&& b) i = true := by rw [Nat.testBit_and]; unfold bit at ha hb; rw [ha, hb]; rfl
  rw [e] at this
  simp at this

section
variable {call : Call} {all : List Oper} {fs : List Foot} {L : Nat → Tmps} {S X : Nat → St} {V : Nat → Value}

/-- the foot of the i-th -/
def ftAt (fs : List Foot) (i : Nat) : Foot := (fs[i]?).getD ⟨0, 0, 0, 0, 0⟩

theorem Trace.foot (T : Trace P call all all [] fs L S X V) {i : Nat} {o : Oper} (ho : all[i]? = some o) :
    (ftAt fs i).rt = readsT all o ∧ (ftAt fs i).wt = writesT o ∧ (ftAt fs i).rd = (X i).rd ∧ (ftAt fs i).wr = (X i).wr := by
  obtain ⟨f, f1, f2, _⟩ := T.ft i o ho
  unfold ftAt
  rw [f1]
  subst f2
  exact ⟨rfl, rfl, rfl, rfl⟩

theorem Trace.edge (T : Trace P call all all [] fs L S X V) {i : Nat} {o : Oper} (ho : all[i]? = some o) {e : Edge} (he : e ∈ o.after.toList) (hb : Region.binds .any e = true) : e.on < i := by
  have := edgesOk_mem (T.ed i o ho) e he hb
  simpa using this

theorem Trace.before (T : Trace P call all all [] fs L S X V) {i : Nat} {o : Oper} (ho : all[i]? = some o) {k : Nat} (h : bit (ftAt fs i).before k) :
    ∃ e ∈ o.after.toList, Region.binds .any e = true ∧ (k = e.on ∨ bit (ftAt fs e.on).before k) := by
  obtain ⟨f, f1, f2, _⟩ := T.ft i o ho
  have e1 : ftAt fs i = f := by unfold ftAt; rw [f1]; rfl
  rw [e1, f2] at h
  obtain ⟨e, he, hb, r⟩ := beforeOf_bit (show bit (beforeOf ([] ++ fs.take i) o.after.toList) k from h)
  refine ⟨e, he, hb, ?_⟩
  rcases r with r | ⟨f, hf, hk⟩
  · exact .inl r
  · right
    rw [nth_getElem?, List.nil_append, List.getElem?_take] at hf
    split at hf
    · unfold ftAt; rw [hf]; exact hk
    · cases hf

theorem Trace.apart (T : Trace P call all all [] fs L S X V) {i j : Nat} (hij : i < j) (hj : j < all.length) : bit (ftAt fs j).before i ∨ Det.apart (ftAt fs i) (ftAt fs j) = true := by
  obtain ⟨o, ho⟩ : ∃ o, all[j]? = some o := ⟨all[j], List.getElem?_eq_getElem hj⟩
  obtain ⟨f, f1, _, f3⟩ := T.ft j o ho
  have hi : i < fs.length := by rw [T.len]; omega
  have := apartAll_get f3 i fs[i] (by rw [List.nil_append, List.getElem?_take, if_pos hij, List.getElem?_eq_getElem hi])
  have e1 : ftAt fs j = f := by unfold ftAt; rw [f1]; rfl
  have e2 : ftAt fs i = fs[i] := by unfold ftAt; rw [List.getElem?_eq_getElem hi]; rfl
  rw [e1, e2]
  simpa using this

/-- Two that touch one temporary, one of them writing, stand in an order. -/
theorem Trace.clashT (T : Trace P call all all [] fs L S X V) {i j t : Nat} (hij : i < j) (hj : j < all.length)
    (h : (bit (ftAt fs i).wt t ∧ (bit (ftAt fs j).rt t ∨ bit (ftAt fs j).wt t)) ∨ (bit (ftAt fs j).wt t ∧ bit (ftAt fs i).rt t)) : bit (ftAt fs j).before i := by
  rcases T.apart hij hj with r | r
  · exact r
  · simp only [Det.apart, Bool.and_eq_true] at r
    rcases h with ⟨a, b⟩ | ⟨a, b⟩
    · exact (and_zero r.1.1.1 a (bit_or.2 b)).elim
    · exact (and_zero r.1.1.2 a b).elim
theorem Trace.clashM (T : Trace P call all all [] fs L S X V) {i j t : Nat} (hij : i < j) (hj : j < all.length)
    (h : (bit (ftAt fs i).wr t ∧ (bit (ftAt fs j).rd t ∨ bit (ftAt fs j).wr t)) ∨ (bit (ftAt fs j).wr t ∧ bit (ftAt fs i).rd t)) : bit (ftAt fs j).before i := by
  rcases T.apart hij hj with r | r
  · exact r
  · simp only [Det.apart, Bool.and_eq_true] at r
    rcases h with ⟨a, b⟩ | ⟨a, b⟩
    · exact (and_zero r.1.2 a (bit_or.2 b)).elim
    · exact (and_zero r.2 a b).elim

/-- A set with the ends of all the edges of its members. -/
def Closed (all : List Oper) (E : Nat → Prop) : Prop := ∀ j o e, E j → all[j]? = some o → e ∈ o.after.toList → Region.binds .any e = true → E e.on

theorem Trace.down (T : Trace P call all all [] fs L S X V) {E : Nat → Prop} (hE : Closed all E) (hin : ∀ j, E j → j < all.length) : ∀ j, E j → ∀ k, bit (ftAt fs j).before k → E k := by
  intro j
  induction j using Nat.strongRecOn with
  | _ j ih =>
    intro hj k hk
    obtain ⟨o, ho⟩ : ∃ o, all[j]? = some o := ⟨all[j]'(hin j hj), List.getElem?_eq_getElem (hin j hj)⟩
    obtain ⟨e, he, hb, r⟩ := T.before ho hk
    have h1 := hE j o e hj ho he hb
    rcases r with rfl | r
    · exact h1
    · exact ih e.on (T.edge ho he hb) h1 k r

/-- the same for one that is about to be taken -/
theorem Trace.down1 (T : Trace P call all all [] fs L S X V) {E : Nat → Prop} (hE : Closed all E) (hin : ∀ j, E j → j < all.length) {i : Nat} {o : Oper} (ho : all[i]? = some o)
    (hi : ∀ e ∈ o.after.toList, Region.binds .any e = true → E e.on) (k : Nat) (hk : bit (ftAt fs i).before k) : E k := by
  obtain ⟨e, he, hb, r⟩ := T.before ho hk
  rcases r with rfl | r
  · exact hi e he hb
  · exact T.down hE hin _ (hi e he hb) k r
end

end Go.Det
