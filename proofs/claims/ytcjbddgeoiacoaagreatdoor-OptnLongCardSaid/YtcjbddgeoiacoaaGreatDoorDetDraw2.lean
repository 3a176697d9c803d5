/- A part of an evaluator of closed runs and of its soundness. -/
import Derived.Test.YtcjbddgeoiacoaaGreatDoorDetDraw
import Derived.Test.YtcjbddgeoiacoaaGreatDoorDetOps12
namespace Go.Det
variable {P : Program}

noncomputable def runO (P : Program) (call : Call) (all : List Oper) (o : Oper) : Tmps → St → Option (Value × St) := wantRun (opD P call o) (fun l => wantedD all l o)
theorem runO_tr {call : Call} (hT : ∀ f args, Tr (call f args)) (all : List Oper) (o : Oper) (l : Tmps) : Tr (runO P call all o l) :=
  wantRun_tr (f := opD P call o) (fun l => wantedD all l o) l (opD_tr hT o l)

/-- A run in the order of the text, laid out. -/
structure Trace (P : Program) (call : Call) (all rest : List Oper) (done : List Foot) (sl : List Soft) (fs : List Foot) (ss : List Soft) (L : Nat → Tmps) (S X : Nat → St) (V : Nat → Value) : Prop where
  len : fs.length = rest.length
  slen : ss.length = rest.length
  run : ∀ i o, rest[i]? = some o → runO P call all o (L i) (solo (S i)) = some (V i, X i)
  nl : ∀ i o, rest[i]? = some o → L (i + 1) = putD (L i) o.dst (V i)
  ft : ∀ i o, rest[i]? = some o → ∃ f, fs[i]? = some f ∧ f = footOf all o (done ++ fs.take i) (X i).rd (X i).wr ∧ softGo P f 0 (done ++ fs.take i) (sl ++ ss.take i) (merge (S i) (X i)) = some (S (i + 1))
  so : ∀ i o, rest[i]? = some o → ss[i]? = some (softOf all o (L i) (V i))
  ed : ∀ i o, rest[i]? = some o → edgesOk (done.length + i) o.after.toList = true

theorem drawD_trace {call : Call} {all : List Oper} : ∀ (rest : List Oper) (done : List Foot) (sl : List Soft) (l : Tmps) (s : St) (l' : Tmps) (s' : St), drawD P call all rest done sl l s = some (l', s') →
    ∃ fs ss L S X V, Trace P call all rest done sl fs ss L S X V ∧ L 0 = l ∧ S 0 = s ∧ L rest.length = l' ∧ S rest.length = s'
  | [], done, sl, l, s, l', s', h => by
    rw [drawD_nil] at h
    cases h
    exact ⟨[], [], fun _ => l, fun _ => s, fun _ => s, fun _ => und, ⟨rfl, rfl, fun i o h => by simp at h, fun i o h => by simp at h, fun i o h => by simp at h, fun i o h => by simp at h, fun i o h => by simp at h⟩, rfl, rfl, rfl, rfl⟩
  | o :: rest, done, sl, l, s, l', s', h => by
    rw [drawD_cons] at h
    split at h
    case h_2 => cases h
    rename_i he
    unfold drawStep at h
    split at h
    case h_2 => cases h
    rename_i x hx
    obtain ⟨v, y⟩ := x
    simp only at h
    unfold drawGo at h
    split at h
    case h_2 => cases h
    rename_i s1 hap
    obtain ⟨fs, ss, L, S, X, V, T, e1, e2, e3, e4⟩ := drawD_trace rest _ _ _ _ _ _ h
    refine ⟨footOf all o done y.rd y.wr :: fs, softOf all o l v :: ss, fun i => match i with | 0 => l | i + 1 => L i, fun i => match i with | 0 => s | i + 1 => S i, fun i => match i with | 0 => y | i + 1 => X i,
      fun i => match i with | 0 => v | i + 1 => V i, ⟨by simp [T.len], by simp [T.slen], fun i q hq => ?_, fun i q hq => ?_, fun i q hq => ?_, fun i q hq => ?_, fun i q hq => ?_⟩, rfl, rfl, e3, e4⟩
    · cases i with
      | zero => simp only [List.getElem?_cons_zero, Option.some.injEq] at hq; subst hq; exact hx
      | succ i => exact T.run i q (by simpa using hq)
    · cases i with
      | zero => simp only [List.getElem?_cons_zero, Option.some.injEq] at hq; subst hq; exact e1
      | succ i => exact T.nl i q (by simpa using hq)
    · cases i with
      | zero =>
        simp only [List.getElem?_cons_zero, Option.some.injEq] at hq; subst hq
        refine ⟨_, rfl, by simp, ?_⟩
        simp only [List.take_zero, List.append_nil, Nat.zero_add]
        rw [e2]; exact hap
      | succ i =>
        obtain ⟨f, f1, f2, f3⟩ := T.ft i q (by simpa using hq)
        refine ⟨f, by simpa using f1, ?_, ?_⟩
        · rw [f2]; simp [footOf, List.append_assoc]
        · have := f3; simpa [footOf, List.append_assoc] using this
    · cases i with
      | zero => simp only [List.getElem?_cons_zero, Option.some.injEq] at hq; subst hq; rfl
      | succ i => simpa using T.so i q (by simpa using hq)
    · cases i with
      | zero => simp only [List.getElem?_cons_zero, Option.some.injEq] at hq; subst hq; simpa using he
      | succ i =>
        have := T.ed i q (by simpa using hq)
        simpa [Nat.add_assoc, Nat.add_comm 1 i] using this

theorem sameA_eq {a b : Option Addr} (h : sameA a b = true) : a = b := by
  unfold sameA at h
  split at h
  · rfl
  · rw [Bool.and_eq_true] at h
    rw [Nat.eq_of_beq_eq_true h.1, Nat.eq_of_beq_eq_true h.2]
  · cases h
theorem sameV_eq {a b : Value} (h : sameV a b = true) : a = b := by
  unfold sameV at h
  split at h
  · rw [sameA_eq h]
  · simp only [Bool.and_eq_true] at h
    rw [sameA_eq h.1, Nat.eq_of_beq_eq_true h.2.1, Nat.eq_of_beq_eq_true h.2.2]
  · split at h
    · rename_i r hr; exact (cellEq_iff hr).1 h
    · cases h

theorem softOne_some {x : Option Soft} {s s' : St} (h : softOne P x s = some s') : ∃ t a v, x = some (some (t, a, v)) ∧ loadD P s t a = some (v, s') := by
  unfold softOne at h
  split at h
  case h_2 => cases h
  split at h
  case h_2 => cases h
  rename_i z
  split at h
  case h_2 => cases h
  rename_i r hr
  split at h
  case h_2 => cases h
  rename_i hv
  cases h
  exact ⟨z.1, z.2.1, z.2.2, rfl, by rw [hr, sameV_eq hv]⟩

/-- a load only reads -/
theorem loadD_same {s s' : St} {t : TypeId} {a v : Value} (h : loadD P s t a = some (v, s')) : ∃ id off, a = .pointer (some ⟨id, off, none⟩) ∧ s' = s.read id ∧ s.h.get id ≠ none ∧
    ∀ u : St, u.h.get id = s.h.get id → loadD P u t a = some (v, u.read id) := by
  unfold loadD at h
  split at h
  case h_2 => cases h
  rename_i id off
  split at h
  case h_2 => cases h
  rename_i cs e ro hg
  refine ⟨id, off, rfl, ?_⟩
  split at h
  · rename_i hb
    split at h
    case h_2 => cases h
    rename_i n hn
    split at h
    case h_2 => cases h
    rename_i r hr
    cases h
    refine ⟨rfl, by rw [hg]; simp, fun u hu => ?_⟩
    simp only [loadD, hu, hg, hb, hn, hr]
  · rename_i hb
    split at h
    case h_2 => cases h
    rename_i v1 t1 hd
    cases h
    refine ⟨rfl, by rw [hg]; simp, fun u hu => ?_⟩
    simp only [loadD, hu, hg, hb, hd]
  · cases h

/-- looked at again, nothing else is done -/
theorem softGo_some {f : Foot} : ∀ {done : List Foot} {j : Nat} {sl : List Soft} {s s' : St}, softGo P f j done sl s = some s' →
    G1 s s' ∧ s'.h = s.h ∧ s'.next = s.next ∧ s'.hi = s.hi ∧ ∀ k g, done[k]? = some g → bit f.before (j + k) ∨ apart g f = true ∨ (apartS g f = true ∧ ∃ t a v, sl[k]? = some (some (t, a, v)) ∧ ∃ u u', u.h = s.h ∧ loadD P u t a = some (v, u'))
  | [], j, sl, s, s', h => by
    simp only [softGo, Option.some.injEq] at h
    subst h
    exact ⟨G1.refl _, rfl, rfl, rfl, fun k g hk => by simp at hk⟩
  | x :: t, j, sl, s, s', h => by
    have tl : ∀ k : Nat, sl.tail[k]? = sl[k + 1]? := fun k => by cases sl <;> simp
    unfold softGo at h
    split at h
    · rename_i h1
      obtain ⟨g1, g2, g3, g4, g5⟩ := softGo_some h
      refine ⟨g1, g2, g3, g4, fun k g hk => ?_⟩
      cases k with
      | zero =>
        simp only [List.getElem?_cons_zero, Option.some.injEq] at hk; subst hk
        rw [Bool.or_eq_true] at h1
        rcases h1 with h1 | h1
        · exact .inl h1
        · exact .inr (.inl h1)
      | succ k =>
        have := g5 k g (by simpa using hk)
        rwa [show j + 1 + k = j + (k + 1) by omega, tl] at this
    · rename_i h1
      split at h
      case h_2 => cases h
      rename_i h2
      split at h
      case h_2 => cases h
      rename_i s1 h3
      obtain ⟨ty, a, v, q1, q2⟩ := softOne_some h3
      obtain ⟨id, off, rfl, rfl, hne, _⟩ := loadD_same q2
      obtain ⟨g1, g2, g3, g4, g5⟩ := softGo_some h
      obtain ⟨b, hb⟩ := Option.ne_none_iff_exists'.1 hne
      refine ⟨(G1.read hb).trans g1, g2, g3, g4, fun k g hk => ?_⟩
      cases k with
      | zero =>
        simp only [List.getElem?_cons_zero, Option.some.injEq] at hk; subst hk
        refine .inr (.inr ⟨h2, ty, _, v, ?_, s, _, rfl, q2⟩)
        cases sl with
        | nil => simp at q1
        | cons y ys => simpa using q1
      | succ k =>
        have := g5 k g (by simpa using hk)
        rwa [show j + 1 + k = j + (k + 1) by omega, tl] at this

theorem softGo_apart {f : Foot} : ∀ {done : List Foot} {j : Nat} {sl : List Soft} {s : St}, apartAll f j done = true → softGo P f j done sl s = some s
  | [], _, _, _, _ => rfl
  | x :: t, j, sl, s, h => by
    simp only [apartAll, Bool.and_eq_true] at h
    simp only [softGo, h.1]
    exact softGo_apart h.2

theorem edgesOk_mem {i : Nat} : ∀ {es : List Edge}, edgesOk i es = true → ∀ e ∈ es, Region.binds .any e = true → e.on < i
  | [], _, e, he, _ => by cases he
  | x :: t, h, e, he, hb => by
    simp only [edgesOk, Bool.and_eq_true] at h
    rcases List.mem_cons.1 he with rfl | he
    · have h1 := h.1
      unfold Region.binds at hb
      cases hg : e.ground <;> rw [hg] at h1 hb <;> first | exact Nat.le_of_ble_eq_true h1 | (simp at hb)
    · exact edgesOk_mem h.2 e he hb

theorem beforeOf_bit {done : List Foot} {k : Nat} : ∀ {es : List Edge}, bit (beforeOf done es) k → ∃ e ∈ es, Region.binds .any e = true ∧ (k = e.on ∨ ∃ f, nth done e.on = some f ∧ bit f.before k)
  | [], h => absurd h bit_zero
  | x :: t, h => by
    rw [beforeOf] at h
    rcases bit_or.1 h with h | h
    · refine ⟨x, by simp, ?_⟩
      cases hg : x.ground <;> rw [hg] at h <;> simp only at h <;> first
        | exact absurd h bit_zero
        | (refine ⟨by unfold Region.binds; rw [hg], ?_⟩
           rcases bit_or.1 h with h | h
           · exact .inl (bit_one.1 h)
           · right
             split at h
             · rename_i f hf; exact ⟨f, hf, h⟩
             · exact absurd h bit_zero)
    · obtain ⟨e, he, r⟩ := beforeOf_bit h
      exact ⟨e, by simp [he], r⟩

theorem and_zero {a b i : Nat} (h : Nat.beq (Nat.land a b) 0 = true) (ha : bit a i) (hb : bit b i) : False := by
  have e : a &&& b = 0 := Nat.eq_of_beq_eq_true h
  have : Nat.testBit (a &&& b) i = true := by rw [Nat.testBit_and]; unfold bit at ha hb; rw [ha, hb]; rfl
  rw [e] at this
  simp at this

section
variable {call : Call} {all : List Oper} {fs : List Foot} {ss : List Soft} {L : Nat → Tmps} {S X : Nat → St} {V : Nat → Value}

/-- the foot of the i-th -/
def ftAt (fs : List Foot) (i : Nat) : Foot := (fs[i]?).getD ⟨0, 0, 0, 0, 0⟩

theorem Trace.foot (T : Trace P call all all [] [] fs ss L S X V) {i : Nat} {o : Oper} (ho : all[i]? = some o) :
    (ftAt fs i).rt = readsT all o ∧ (ftAt fs i).wt = writesT o ∧ (ftAt fs i).rd = (X i).rd ∧ (ftAt fs i).wr = (X i).wr := by
  obtain ⟨f, f1, f2, _⟩ := T.ft i o ho
  unfold ftAt
  rw [f1]
  subst f2
  exact ⟨rfl, rfl, rfl, rfl⟩

theorem Trace.edge (T : Trace P call all all [] [] fs ss L S X V) {i : Nat} {o : Oper} (ho : all[i]? = some o) {e : Edge} (he : e ∈ o.after.toList) (hb : Region.binds .any e = true) : e.on < i := by
  have := edgesOk_mem (T.ed i o ho) e he hb
  simpa using this

theorem Trace.before (T : Trace P call all all [] [] fs ss L S X V) {i : Nat} {o : Oper} (ho : all[i]? = some o) {k : Nat} (h : bit (ftAt fs i).before k) :
    ∃ e ∈ o.after.toList, Region.binds .any e = true ∧ (k = e.on ∨ bit (ftAt fs e.on).before k) := by
  obtain ⟨f, f1, f2, _⟩ := T.ft i o ho
  have e1 : ftAt fs i = f := by unfold ftAt; rw [f1]; rfl
  rw [e1, f2] at h
  obtain ⟨e, he, hb, r⟩ := beforeOf_bit (show bit (beforeOf ([] ++ fs.take i) o.after.toList) k from h)
  refine ⟨e, he, hb, ?_⟩
  rcases r with r | ⟨f, hf, hk⟩
  · exact .inl r
  · right
    rw [nth_getElem?, List.nil_append, List.getElem?_take] at hf
    split at hf
    · unfold ftAt; rw [hf]; exact hk
    · cases hf

/-- the later one (j) may write what the earlier one (i), a load, has read: it would load the same -/
def SoftAt (P : Program) (ss : List Soft) (X : Nat → St) (i j : Nat) : Prop := ∃ t a v, ss[i]? = some (some (t, a, v)) ∧ ∃ u u', u.h = (X j).h ∧ loadD P u t a = some (v, u')

theorem Trace.apart (T : Trace P call all all [] [] fs ss L S X V) {i j : Nat} (hij : i < j) (hj : j < all.length) :
    bit (ftAt fs j).before i ∨ Det.apart (ftAt fs i) (ftAt fs j) = true ∨ (apartS (ftAt fs i) (ftAt fs j) = true ∧ SoftAt P ss X i j) := by
  obtain ⟨o, ho⟩ : ∃ o, all[j]? = some o := ⟨all[j], List.getElem?_eq_getElem hj⟩
  obtain ⟨f, f1, _, f3⟩ := T.ft j o ho
  have hi : i < fs.length := by rw [T.len]; omega
  have := (softGo_some f3).2.2.2.2 i fs[i] (by rw [List.nil_append, List.getElem?_take, if_pos hij, List.getElem?_eq_getElem hi])
  have e1 : ftAt fs j = f := by unfold ftAt; rw [f1]; rfl
  have e2 : ftAt fs i = fs[i] := by unfold ftAt; rw [List.getElem?_eq_getElem hi]; rfl
  rw [e1, e2]
  rcases this with r | r | ⟨r1, t, a, v, r2, r3⟩
  · exact .inl (by simpa using r)
  · exact .inr (.inl r)
  · refine .inr (.inr ⟨r1, t, a, v, ?_, r3⟩)
    rw [List.nil_append, List.getElem?_take, if_pos hij] at r2
    exact r2

theorem apartS_of {a b : Foot} (h : Det.apart a b = true) : apartS a b = true := by
  simp only [Det.apart, Bool.and_eq_true] at h
  simp only [apartS, Bool.and_eq_true]
  exact ⟨h.1.1, h.1.2⟩

theorem Trace.apartS (T : Trace P call all all [] [] fs ss L S X V) {i j : Nat} (hij : i < j) (hj : j < all.length) : bit (ftAt fs j).before i ∨ Det.apartS (ftAt fs i) (ftAt fs j) = true := by
  rcases T.apart hij hj with r | r | r
  · exact .inl r
  · exact .inr (apartS_of r)
  · exact .inr r.1

/-- Two that touch one temporary, one of them writing, stand in an order. -/
theorem Trace.clashT (T : Trace P call all all [] [] fs ss L S X V) {i j t : Nat} (hij : i < j) (hj : j < all.length)
    (h : (bit (ftAt fs i).wt t ∧ (bit (ftAt fs j).rt t ∨ bit (ftAt fs j).wt t)) ∨ (bit (ftAt fs j).wt t ∧ bit (ftAt fs i).rt t)) : bit (ftAt fs j).before i := by
  rcases T.apartS hij hj with r | r
  · exact r
  · simp only [Det.apartS, Bool.and_eq_true] at r
    rcases h with ⟨a, b⟩ | ⟨a, b⟩
    · exact (and_zero r.1.1 a (bit_or.2 b)).elim
    · exact (and_zero r.1.2 a b).elim
theorem Trace.clashM (T : Trace P call all all [] [] fs ss L S X V) {i j t : Nat} (hij : i < j) (hj : j < all.length)
    (h : bit (ftAt fs i).wr t ∧ (bit (ftAt fs j).rd t ∨ bit (ftAt fs j).wr t)) : bit (ftAt fs j).before i := by
  rcases T.apartS hij hj with r | r
  · exact r
  · simp only [Det.apartS, Bool.and_eq_true] at r
    exact (and_zero r.2 h.1 (bit_or.2 h.2)).elim
/-- where an earlier one has read and a later one writes, they stand in an order, or it is a load that would load the same -/
theorem Trace.clashR (T : Trace P call all all [] [] fs ss L S X V) {i j t : Nat} (hij : i < j) (hj : j < all.length)
    (h : bit (ftAt fs j).wr t ∧ bit (ftAt fs i).rd t) : bit (ftAt fs j).before i ∨ SoftAt P ss X i j := by
  rcases T.apart hij hj with r | r | r
  · exact .inl r
  · simp only [Det.apart, Bool.and_eq_true] at r
    exact (and_zero r.2 h.1 h.2).elim
  · exact .inr r.2

/-- A set with the ends of all the edges of its members. -/
def Closed (all : List Oper) (E : Nat → Prop) : Prop := ∀ j o e, E j → all[j]? = some o → e ∈ o.after.toList → Region.binds .any e = true → E e.on

theorem Trace.down (T : Trace P call all all [] [] fs ss L S X V) {E : Nat → Prop} (hE : Closed all E) (hin : ∀ j, E j → j < all.length) : ∀ j, E j → ∀ k, bit (ftAt fs j).before k → E k := by
  intro j
  induction j using Nat.strongRecOn with
  | _ j ih =>
    intro hj k hk
    obtain ⟨o, ho⟩ : ∃ o, all[j]? = some o := ⟨all[j]'(hin j hj), List.getElem?_eq_getElem (hin j hj)⟩
    obtain ⟨e, he, hb, r⟩ := T.before ho hk
    have h1 := hE j o e hj ho he hb
    rcases r with rfl | r
    · exact h1
    · exact ih e.on (T.edge ho he hb) h1 k r

/-- the same for one that is about to be taken -/
theorem Trace.down1 (T : Trace P call all all [] [] fs ss L S X V) {E : Nat → Prop} (hE : Closed all E) (hin : ∀ j, E j → j < all.length) {i : Nat} {o : Oper} (ho : all[i]? = some o)
    (hi : ∀ e ∈ o.after.toList, Region.binds .any e = true → E e.on) (k : Nat) (hk : bit (ftAt fs i).before k) : E k := by
  obtain ⟨e, he, hb, r⟩ := T.before ho hk
  rcases r with rfl | r
  · exact hi e he hb
  · exact T.down hE hin _ (hi e he hb) k r
end

end Go.Det
