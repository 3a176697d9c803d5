/- A part of an evaluator of closed runs and of its soundness. -/
import Derived.Test.YtcjbddgeoiacoaaGreatDoorDetHeap
namespace Go.Det
variable {P : Program}

def bit (m i : Nat) : Prop := Nat.testBit m i = true
theorem bit_or {a b i : Nat} : bit (Nat.lor a b) i ↔ bit a i ∨ bit b i := by
  unfold bit
  rw [show Nat.lor a b = a ||| b from rfl, Nat.testBit_or, Bool.or_eq_true]
theorem bit_one {i j : Nat} : bit (Nat.shiftLeft 1 i) j ↔ j = i := by
  unfold bit
  rw [show Nat.shiftLeft 1 i = 1 <<< i from rfl, Nat.one_shiftLeft, Nat.testBit_two_pow]
  simp; exact eq_comm
theorem bit_zero {i : Nat} : ¬ bit 0 i := by simp [bit]
theorem bit_mod {m n i : Nat} : bit (Nat.mod m (Nat.shiftLeft 1 n)) i ↔ i < n ∧ bit m i := by
  unfold bit
  rw [show Nat.shiftLeft 1 n = 2 ^ n by rw [show Nat.shiftLeft 1 n = 1 <<< n from rfl, Nat.one_shiftLeft], show Nat.mod m (2 ^ n) = m % 2 ^ n from rfl, Nat.testBit_mod_two_pow]
  simp
theorem bit_lt {m n i : Nat} (h : m + 1 ≤ Nat.shiftLeft 1 n) (k : bit m i) : i < n := by
  rw [show Nat.shiftLeft 1 n = 2 ^ n by rw [show Nat.shiftLeft 1 n = 1 <<< n from rfl, Nat.one_shiftLeft]] at h
  rcases Nat.lt_or_ge i n with q | q
  · exact q
  · have := Nat.ge_two_pow_of_testBit k
    have := Nat.pow_le_pow_right (n := 2) (by omega) q
    omega

/-- What one run does to the state. -/
structure G1 (s s' : St) : Prop where
  next : s.next ≤ s'.next
  hi : s.hi ≤ s'.hi
  inv : s.next ≤ s.hi → s'.next ≤ s'.hi
  rd : ∀ i, bit s.rd i → bit s'.rd i
  wr : ∀ i, bit s.wr i → bit s'.wr i
  frame : ∀ i, ¬ bit s'.wr i → s'.h.get i = s.h.get i
  dom : ∀ i, s'.h.get i ≠ none → s.h.get i ≠ none ∨ (s.next ≤ i ∧ i < s'.next)
  keep : ∀ i, s.h.get i ≠ none → s'.h.get i ≠ none
  oldw : ∀ i, bit s'.wr i → bit s.wr i ∨ (bit s'.rd i ∧ s.h.get i ≠ none) ∨ (s.next ≤ i ∧ i < s'.next)
  oldr : ∀ i, bit s'.rd i → bit s.rd i ∨ s.h.get i ≠ none ∨ (s.next ≤ i ∧ i < s'.next)

theorem G1.refl (s : St) : G1 s s := ⟨Nat.le_refl _, Nat.le_refl _, id, fun _ => id, fun _ => id, fun _ _ => rfl, fun _ => .inl, fun _ => id, fun _ => .inl, fun _ => .inl⟩

theorem G1.trans {a b c : St} (h : G1 a b) (k : G1 b c) : G1 a c where
  next := Nat.le_trans h.next k.next
  hi := Nat.le_trans h.hi k.hi
  inv q := k.inv (h.inv q)
  rd i q := k.rd i (h.rd i q)
  wr i q := k.wr i (h.wr i q)
  frame i q := (k.frame i q).trans (h.frame i fun r => q (k.wr i r))
  dom i q := by
    rcases k.dom i q with r | r
    · rcases h.dom i r with r | r
      · exact .inl r
      · right; have := k.next; omega
    · right; have := h.next; omega
  keep i q := k.keep i (h.keep i q)
  oldw i q := by
    rcases k.oldw i q with r | ⟨r, r2⟩ | r
    · rcases h.oldw i r with r | ⟨r, r2⟩ | r
      · exact .inl r
      · exact .inr (.inl ⟨k.rd i r, r2⟩)
      · right; right; have := k.next; omega
    · rcases h.dom i r2 with r3 | r3
      · exact .inr (.inl ⟨r, r3⟩)
      · right; right; have := k.next; omega
    · right; right; have := h.next; omega
  oldr i q := by
    rcases k.oldr i q with r | r | r
    · rcases h.oldr i r with r | r | r
      · exact .inl r
      · exact .inr (.inl r)
      · right; right; have := k.next; omega
    · rcases h.dom i r with r | r
      · exact .inr (.inl r)
      · right; right; have := k.next; omega
    · right; right; have := h.next; omega

theorem G1.read {s : St} {id : Nat} {b : Blk} (h : s.h.get id = some b) : G1 s (s.read id) where
  next := Nat.le_refl _
  hi := Nat.le_refl _
  inv q := q
  rd i q := bit_or.2 (.inl q)
  wr i q := q
  frame i _ := rfl
  dom i q := .inl q
  keep i q := q
  oldw i q := .inl q
  oldr i q := by
    rcases bit_or.1 q with r | r
    · exact .inl r
    · right; left; rw [bit_one.1 r, h]; simp

theorem G1.write {s : St} {id : Nat} {b b' : Blk} (h : s.h.get id = some b) : G1 s (s.write id b') where
  next := Nat.le_refl _
  hi := Nat.le_refl _
  inv q := q
  rd i q := bit_or.2 (.inl q)
  wr i q := bit_or.2 (.inl q)
  frame i q := by
    have : i ≠ id := by rintro rfl; exact q (bit_or.2 (.inr (bit_one.2 rfl)))
    show (s.h.set id b').get i = s.h.get i
    rw [Heap.get_set, if_neg this]
  dom i q := by
    have q : (s.h.set id b').get i ≠ none := q
    rw [Heap.get_set] at q
    by_cases e : i = id
    · left; rw [e, h]; simp
    · rw [if_neg e] at q; exact .inl q
  keep i q := by
    show (s.h.set id b').get i ≠ none
    rw [Heap.get_set]
    by_cases e : i = id
    · rw [if_pos e]; simp
    · rw [if_neg e]; exact q
  oldw i q := by
    rcases bit_or.1 q with r | r
    · exact .inl r
    · right; left; rw [bit_one.1 r]; exact ⟨bit_or.2 (.inr (bit_one.2 rfl)), by rw [h]; simp⟩
  oldr i q := by
    rcases bit_or.1 q with r | r
    · exact .inl r
    · right; left; rw [bit_one.1 r, h]; simp

theorem G1.new (s : St) (b : Blk) : G1 s (s.new b) where
  next := Nat.le_succ _
  hi := Nat.le_max_left _ _
  inv q := Nat.le_max_right _ _
  rd i q := q
  wr i q := bit_or.2 (.inl q)
  frame i q := by
    have : i ≠ s.next := by rintro rfl; exact q (bit_or.2 (.inr (bit_one.2 rfl)))
    show (s.h.set s.next b).get i = s.h.get i
    rw [Heap.get_set, if_neg this]
  dom i q := by
    have q : (s.h.set s.next b).get i ≠ none := q
    rw [Heap.get_set] at q
    by_cases e : i = s.next
    · right; rw [e]; exact ⟨Nat.le_refl _, Nat.lt_succ_self _⟩
    · rw [if_neg e] at q; exact .inl q
  keep i q := by
    show (s.h.set s.next b).get i ≠ none
    rw [Heap.get_set]
    by_cases e : i = s.next
    · rw [if_pos e]; simp
    · rw [if_neg e]; exact q
  oldw i q := by
    rcases bit_or.1 q with r | r
    · exact .inl r
    · right; right; rw [bit_one.1 r]; exact ⟨Nat.le_refl _, Nat.lt_succ_self _⟩
  oldr i q := .inl q

/-- Two runs, side by side. -/
structure PW (s t s' t' : St) : Prop where
  next : t'.next = s'.next
  hi : t'.hi = s'.hi
  rd : t'.rd = s'.rd
  wr : t'.wr = s'.wr
  pt : ∀ i, t'.h.get i = s'.h.get i ∨ (t'.h.get i = t.h.get i ∧ s'.h.get i = s.h.get i)

structure Beside (s t : St) : Prop where
  next : t.next = s.next
  hi : t.hi = s.hi
  rd : t.rd = s.rd
  wr : t.wr = s.wr

theorem PW.refl {s t : St} (h : Beside s t) : PW s t s t := ⟨h.next, h.hi, h.rd, h.wr, fun _ => .inr ⟨rfl, rfl⟩⟩
theorem PW.beside {s t s' t' : St} (h : PW s t s' t') : Beside s' t' := ⟨h.next, h.hi, h.rd, h.wr⟩
theorem PW.trans {s t s1 t1 s2 t2 : St} (h : PW s t s1 t1) (k : PW s1 t1 s2 t2) : PW s t s2 t2 :=
  ⟨k.next, k.hi, k.rd, k.wr, fun i => by
    rcases k.pt i with q | ⟨q1, q2⟩
    · exact .inl q
    · rcases h.pt i with r | ⟨r1, r2⟩
      · left; rw [q1, q2, r]
      · right; exact ⟨q1.trans r1, q2.trans r2⟩⟩
theorem PW.read {s t : St} (h : Beside s t) (id : Nat) : PW s t (s.read id) (t.read id) :=
  ⟨h.next, h.hi, by show Nat.lor t.rd _ = Nat.lor s.rd _; rw [h.rd], h.wr, fun _ => .inr ⟨rfl, rfl⟩⟩
theorem PW.write {s t : St} (h : Beside s t) (id : Nat) (b : Blk) : PW s t (s.write id b) (t.write id b) :=
  ⟨h.next, h.hi, by show Nat.lor t.rd _ = Nat.lor s.rd _; rw [h.rd], by show Nat.lor t.wr _ = Nat.lor s.wr _; rw [h.wr], fun i => by
    show (t.h.set id b).get i = (s.h.set id b).get i ∨ ((t.h.set id b).get i = t.h.get i ∧ (s.h.set id b).get i = s.h.get i)
    rw [Heap.get_set, Heap.get_set]
    by_cases e : i = id
    · rw [if_pos e, if_pos e]; exact .inl rfl
    · rw [if_neg e, if_neg e]; exact .inr ⟨rfl, rfl⟩⟩
theorem PW.new {s t : St} (h : Beside s t) (b : Blk) : PW s t (s.new b) (t.new b) :=
  ⟨by show t.next + 1 = s.next + 1; rw [h.next], by show Nat.max t.hi (t.next + 1) = Nat.max s.hi (s.next + 1); rw [h.hi, h.next], h.rd, by show Nat.lor t.wr _ = Nat.lor s.wr _; rw [h.wr, h.next], fun i => by
    show (t.h.set t.next b).get i = (s.h.set s.next b).get i ∨ ((t.h.set t.next b).get i = t.h.get i ∧ (s.h.set s.next b).get i = s.h.get i)
    rw [Heap.get_set, Heap.get_set, h.next]
    by_cases e : i = s.next
    · rw [if_pos e, if_pos e]; exact .inl rfl
    · rw [if_neg e, if_neg e]; exact .inr ⟨rfl, rfl⟩⟩

/-- Nothing stands yet under the numbers to come, below B. -/
structure Full (B : Nat) (s : St) : Prop where
  le : s.next ≤ s.hi
  get : ∀ i, s.next ≤ i → i < B → s.h.get i = none
theorem Full.mono {B B' : Nat} {s : St} (h : Full B s) (k : B' ≤ B) : Full B' s := ⟨h.le, fun i a b => h.get i a (Nat.lt_of_lt_of_le b k)⟩
theorem Full.step {B : Nat} {s s' : St} (h : Full B s) (g : G1 s s') : Full B s' := by
  refine ⟨g.inv h.le, fun i hi hB => ?_⟩
  cases e : s'.h.get i with
  | none => rfl
  | some b =>
    rcases g.dom i (by rw [e]; simp) with q | q
    · exact absurd (h.get i (Nat.le_trans g.next hi) hB) q
    · omega

/-- What a run comes to hangs on the blocks that it has read. -/
def Tr {α : Type} (f : St → Option (α × St)) : Prop :=
  ∀ s a s', f s = some (a, s') → G1 s s' ∧ ∀ t, Full s'.hi s → Beside s t → (∀ i, bit s'.rd i → t.h.get i = s.h.get i) → (∀ i, s.next ≤ i → i < s'.hi → t.h.get i = none) →
    ∃ t', f t = some (a, t') ∧ PW s t s' t'

theorem Tr.pure {α : Type} (a : Option α) : Tr (fun s => match a with | some v => some (v, s) | none => none) := by
  intro s v s' h
  cases a with
  | none => cases h
  | some x =>
    simp only [Option.some.injEq, Prod.mk.injEq] at h
    obtain ⟨rfl, rfl⟩ := h
    exact ⟨G1.refl _, fun t _ hb _ _ => ⟨t, rfl, PW.refl hb⟩⟩

/-- One run behind another. -/
theorem Tr.bind {α β : Type} {f : St → Option (α × St)} {g : α → St → Option (β × St)} (hf : Tr f) (hg : ∀ a, Tr (g a)) :
    Tr (fun s => match f s with | some x => g x.1 x.2 | none => none) := by
  intro s b s2 h
  simp only at h
  split at h
  case h_2 => cases h
  rename_i x hx
  obtain ⟨a, s1⟩ := x
  simp only at h
  obtain ⟨g1, t1⟩ := hf s a s1 hx
  obtain ⟨g2, t2⟩ := hg a s1 b s2 h
  refine ⟨g1.trans g2, fun t hF hb hr hn => ?_⟩
  obtain ⟨u, hu, pu⟩ := t1 t (hF.mono g2.hi) hb (fun i q => hr i (g2.rd i q)) (fun i q1 q2 => hn i q1 (by have := g2.hi; omega))
  obtain ⟨gu, _⟩ := hf t a u hu
  obtain ⟨u2, hu2, pu2⟩ := t2 u (hF.step g1) pu.beside (fun i q => by
      rcases pu.pt i with r | ⟨r1, r2⟩
      · exact r
      · rw [r1, r2]; exact hr i q) (fun i q1 q2 => by
      cases e : u.h.get i with
      | none => rfl
      | some bb =>
        rcases gu.dom i (by rw [e]; simp) with q | q
        · exact absurd (hn i (by have := g1.next; omega) q2) q
        · rw [pu.next] at q; omega)
  exact ⟨u2, by simp only [hu]; exact hu2, pu.trans pu2⟩

end Go.Det
