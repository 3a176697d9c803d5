/- A part of an evaluator of closed runs and of its soundness. -/
import Derived.Test.YtcjbddgeoiacoaaGreatDoorDetOps11
import Derived.Maps.RangeRun
namespace Go.Det
variable {P : Program}
open Go.WideMaps

theorem keyD_law {k : TypeId} (h : keyD P k = true) : KeyLaw P k := by
  unfold keyD at h
  split at h
  · rename_i hu; exact string_law hu
  · rename_i hu
    rw [Bool.and_eq_true] at h
    exact deep_law (m := 12) (by decide) h.1 h.2 (by rw [hu])
  · rename_i hu
    rw [Bool.and_eq_true] at h
    exact deep_law (m := 12) (by decide) h.1 h.2 (by rw [hu])
  · cases h

theorem strEq_iff {a b : ByteArray} : strEq a b = true ↔ a = b := by
  unfold strEq
  rw [beq_iff_eq]
  constructor
  · intro h
    obtain ⟨⟨a⟩⟩ := a; obtain ⟨⟨b⟩⟩ := b
    simp only at h
    rw [h]
  · rintro rfl; rfl
theorem cellEq_iff {a b : Value} {r : Bool} (h : cellEq a b = some r) : r = true ↔ a = b := by
  unfold cellEq at h
  split at h
  · split at h
    · rename_i hk; cases h; have := kindEq_eq hk; subst this; simp
    · cases h
  · cases h; simp
  · cases h; rw [strEq_iff]; simp
  · cases h
theorem cellsEq_iff : ∀ {a b : List Value} {r : Bool}, cellsEq a b = some r → (r = true ↔ a = b)
  | [], [], r, h => by cases h; simp
  | [], _ :: _, r, h => by cases h
  | _ :: _, [], r, h => by cases h
  | a :: s, b :: t, r, h => by
    unfold cellsEq at h
    split at h
    case h_2 => cases h
    rename_i q hq
    have e := cellEq_iff hq
    split at h
    · have := cellsEq_iff h
      simp only [true_iff] at e
      rw [this, e]; simp
    · cases h
      simp only [Bool.false_eq_true, false_iff] at e ⊢
      intro k; cases k; exact e rfl
theorem keyEq_iff {a b : Value} {r : Bool} (h : keyEq a b = some r) : r = true ↔ a = b := by
  unfold keyEq at h
  split at h
  · rename_i p q
    rw [cellsEq_iff h]
    constructor
    · intro e; obtain ⟨p⟩ := p; obtain ⟨q⟩ := q; simp only at e; rw [e]
    · intro e; cases e; rfl
  · exact cellEq_iff h

/-- what was found -/
theorem findD_spec {kt : TypeId} {k : Value} : ∀ {es : List (Value × Value × Nat)} {r : Option Nat}, findD P kt k es = some r →
    (∀ e ∈ es, ∃ l, keyOf P kt e.1 = some l) ∧ (match r with | none => ∀ e ∈ es, e.1 ≠ k | some j => (∃ v n, es[j]? = some (k, v, n)) ∧ ∀ i e, es[i]? = some e → e.1 = k → i = j)
  | [], r, h => by cases h; exact ⟨by simp, by simp⟩
  | e :: t, r, h => by
    unfold findD at h
    split at h
    case h_2 => cases h
    rename_i hl
    have hl := Option.isSome_iff_exists.1 hl
    split at h
    case h_2 => cases h
    rename_i r0 hr
    obtain ⟨i1, i2⟩ := findD_spec hr
    split at h
    case h_2 => cases h
    rename_i q hq
    have hk := keyEq_iff hq
    refine ⟨fun x hx => by rcases List.mem_cons.1 hx with rfl | hx; exact hl; exact i1 x hx, ?_⟩
    split at h
    · simp only [true_iff] at hk
      split at h
      · cases h
        simp only at i2 ⊢
        refine ⟨⟨e.2.1, e.2.2, by rw [← hk]; rfl⟩, fun i x hi hx => ?_⟩
        cases i with
        | zero => rfl
        | succ i => exact absurd hx (i2 x (List.mem_of_getElem? (by simpa using hi)))
      · cases h
    · simp only [Bool.false_eq_true, false_iff] at hk
      split at h
      · cases h
        simp only at i2 ⊢
        intro x hx
        rcases List.mem_cons.1 hx with rfl | hx
        · exact hk
        · exact i2 x hx
      · rename_i j
        cases h
        simp only at i2 ⊢
        obtain ⟨⟨v, n, hv⟩, h2⟩ := i2
        refine ⟨⟨v, n, by simpa using hv⟩, fun i x hi hx => ?_⟩
        cases i with
        | zero => simp only [List.getElem?_cons_zero, Option.some.injEq] at hi; subst hi; exact absurd hx hk
        | succ i => rw [h2 i x (by simpa using hi) hx]

theorem MapR.len {φ : Ren} {es : List (Value × Value × Nat)} {ms : List MapEntry} (h : MapR φ es ms) : es.length = ms.length := by
  induction h with
  | nil => rfl
  | cons _ _ _ _ _ ih => simp [ih]
theorem MapR.at {φ : Ren} {es : List (Value × Value × Nat)} {ms : List MapEntry} (h : MapR φ es ms) : ∀ {i : Nat} {m : MapEntry}, ms[i]? = some m → ∃ e, es[i]? = some e ∧ m.key = e.1 ∧ VR φ e.2.1 m.val := by
  induction h with
  | nil => intro i m q; simp at q
  | cons e f n v _ ih =>
    intro i m q
    cases i with
    | zero => simp only [List.getElem?_cons_zero, Option.some.injEq] at q; subst q; exact ⟨_, rfl, e, v⟩
    | succ i => obtain ⟨x, h1, h2⟩ := ih (by simpa using q); exact ⟨x, by simpa using h1, h2⟩
theorem MapR.mem {φ : Ren} {es : List (Value × Value × Nat)} {ms : List MapEntry} (h : MapR φ es ms) {m : MapEntry} (hm : m ∈ ms) : ∃ e ∈ es, m.key = e.1 := by
  obtain ⟨i, hi⟩ := List.getElem?_of_mem hm
  obtain ⟨e, h1, h2, _⟩ := h.at hi
  exact ⟨e, List.mem_of_getElem? h1, h2⟩

/-- the machine finds the same -/
theorem find_run {φ : Ren} {kt : TypeId} {k : Value} {es : List (Value × Value × Nat)} {ms : List MapEntry} {r : Option Nat} (hK : KeyLaw P kt) (hk : (keyOf P kt k).isSome = true) (h : findD P kt k es = some r) (hR : MapR φ es ms) (w : World) :
    (match r with
      | none => (Instr.findKey kt k ms).run P w = .ok none w
      | some j => ∃ m v n, ms[j]? = some m ∧ es[j]? = some (k, v, n) ∧ m.key = k ∧ VR φ v m.val ∧ (Instr.findKey kt k ms).run P w = .ok (some (j, m.val)) w) := by
  obtain ⟨l, hl⟩ := Option.isSome_iff_exists.1 hk
  obtain ⟨h1, h2⟩ := findD_spec h
  have hall : ∀ m ∈ ms, ∃ l, keyOf P kt m.key = some l := fun m hm => by
    obtain ⟨e, he, q⟩ := hR.mem hm
    rw [q]; exact h1 e he
  rcases hK.find w hl ms hall with ⟨q1, q2⟩ | ⟨j, m, q1, q2, q3⟩
  · cases r with
    | none => exact q1
    | some j =>
      obtain ⟨⟨v, n, hv⟩, _⟩ := h2
      have hlt : j < ms.length := by rw [← hR.len]; exact (List.getElem?_eq_some_iff.1 hv).1
      obtain ⟨e, p1, p2, _⟩ := hR.at (List.getElem?_eq_getElem hlt)
      rw [hv] at p1; cases p1
      exact absurd p2 (q2 _ (List.getElem_mem hlt))
  · obtain ⟨e, p1, p2, p3⟩ := hR.at q2
    cases r with
    | none => exact absurd (by rw [← p2]; exact q3) (h2 e (List.mem_of_getElem? p1))
    | some j' =>
      obtain ⟨⟨v, n, hv⟩, hu⟩ := h2
      have := hu j e p1 (by rw [← p2]; exact q3)
      subst this
      rw [hv] at p1; cases p1
      exact ⟨m, v, n, q2, hv, q3, p3, q1⟩

theorem mapv_inv {φ : Ren} {id : Nat} {x : Value} {b sh sz : Nat} (h : VR φ (.map (some id)) x) (k : φ id = some (b, sh, sz)) : x = .map (some b) := by
  cases h with | map _ b' _ _ e => rw [k] at e; cases e; rfl

theorem MapR.push {φ : Ren} {es : List (Value × Value × Nat)} {ms : List MapEntry} (h : MapR φ es ms) {k v : Value} {m : MapEntry} (hk : m.key = k) (hf : flat2 k = true) (hv : VR φ v m.val) : MapR φ (es ++ [(k, v, m.born)]) (ms ++ [m]) := by
  induction h with
  | nil => exact .cons hk hf rfl hv .nil
  | cons e f n q _ ih => exact .cons e f n q ih
theorem MapR.set {φ : Ren} {es : List (Value × Value × Nat)} {ms : List MapEntry} (h : MapR φ es ms) {k v v' : Value} (hv : VR φ v v') : ∀ {j : Nat}, (∃ x n, es[j]? = some (k, x, n)) →
    MapR φ (setVal v es j) (ms.modify j fun e => { e with key := k, val := v' }) := by
  induction h with
  | nil => rintro j ⟨x, n, q⟩; simp at q
  | cons e f n q t ih =>
    rintro j ⟨x, n', h1⟩
    cases j with
    | zero =>
      simp only [List.getElem?_cons_zero, Option.some.injEq] at h1
      cases h1
      simp only [setVal, List.modify_zero_cons]
      exact .cons rfl f n hv t
    | succ j =>
      simp only [setVal, List.modify_succ_cons]
      exact .cons e f n q (ih ⟨x, n', by simpa using h1⟩)

theorem hasN_iff {n : Nat} : ∀ {l : List Nat}, hasN n l = l.contains n
  | [] => rfl
  | m :: t => by
    have e : Nat.beq n m = (n == m) := by
      cases h : Nat.beq n m
      · have := Nat.ne_of_beq_eq_false h; simp [this]
      · have := Nat.eq_of_beq_eq_true h; simp [this]
    rw [hasN, List.contains_cons, hasN_iff, e]
theorem MapR.left {φ : Ren} {es : List (Value × Value × Nat)} {ms : List MapEntry} (seen : List Nat) (h : MapR φ es ms) : MapR φ (leftD seen es) (ms.filter fun e => !seen.contains e.born) := by
  induction h with
  | nil => exact .nil
  | @cons k v n t e t' h1 hf h2 h3 h4 ih =>
    rw [List.filter_cons]
    unfold leftD
    simp only
    rw [hasN_iff, h2]
    cases hc : seen.contains n with
    | true => exact ih
    | false => exact .cons h1 hf h2 h3 ih
theorem elderD_all {φ : Ren} {since : Nat} {es : List (Value × Value × Nat)} {ms : List MapEntry} (h : MapR φ es ms) (k : elderD since es = true) : ∀ x ∈ ms, x.born < since := by
  induction h with
  | nil => simp
  | cons h1 _ h2 _ _ ih =>
    simp only [elderD, Bool.and_eq_true] at k
    intro x hx
    rcases List.mem_cons.1 hx with rfl | hx
    · rw [h2]; exact Nat.le_of_ble_eq_true k.1
    · exact ih k.2 x hx
theorem lastN_back : ∀ {l : List Nat} {n : Nat}, lastN l = some n → (⟨l⟩ : Array Nat).back? = some n
  | [], n, h => by simp [lastN] at h
  | [a], n, h => by simp [lastN] at h; simp [h]
  | a :: b :: t, n, h => by
    have := lastN_back (l := b :: t) (n := n) (by simpa [lastN] using h)
    simpa using this
theorem MapR.stamp {φ : Ren} {es : List (Value × Value × Nat)} {ms : List MapEntry} {n : Nat} (h : MapR φ es ms) : ∀ {e : Value × Value × Nat}, stampD n es = some e → ∃ m, ms.find? (·.born == n) = some m ∧ m.key = e.1 ∧ VR φ e.1 m.key ∧ VR φ e.2.1 m.val := by
  induction h with
  | nil => intro e q; simp [stampD] at q
  | @cons k v n' t m t' h1 hf h2 h3 h4 ih =>
    intro e q
    unfold stampD at q
    split at q
    · rename_i hb
      cases q
      have := Nat.eq_of_beq_eq_true hb
      exact ⟨m, by rw [List.find?_cons_of_pos]; simpa [h2] using this, h1, by rw [h1]; exact flat2_self hf φ, h3⟩
    · rename_i hb
      obtain ⟨m', q1, q2⟩ := ih q
      refine ⟨m', ?_, q2⟩
      rw [List.find?_cons_of_neg]
      · exact q1
      · simp only [h2, beq_iff_eq]; exact Nat.ne_of_beq_eq_false hb

section
variable {w0 w : World} {φ : Ren} {l : Tmps} {s s' : St} {v : Value} {ρ : Operand → Value} {lo : Nat}

theorem ObR.map_inv {φ : Ren} {es : List (Value × Value × Nat)} {ck : Nat} {O : Obj} (h : ObR φ (.mp es ck) O) : ∃ ms, O = .map ms ck ∧ MapR φ es ms.toList := by
  cases h with | mp h => exact ⟨_, rfl, h⟩
theorem ObR.it_inv {φ : Ren} {id since last : Nat} {seen : List Nat} {O : Obj} (h : ObR φ (.it (some id) since seen last) O) : ∃ b sh sz, O = .mapIter (some b) since ⟨seen⟩ last ∧ φ id = some (b, sh, sz) := by
  cases h with | it h => exact ⟨_, _, _, rfl, h⟩
theorem ObR.itn_inv {φ : Ren} {since last : Nat} {seen : List Nat} {O : Obj} (h : ObR φ (.it none since seen last) O) : O = .mapIter none since ⟨seen⟩ last := by
  cases h with | itn => rfl

theorem opRange_ok {t : TypeId} {x : Operand} (h : opRange P t x l s = some (v, s')) (H : HR φ s.h w0 w) (hf : ∀ id, s.next ≤ id → id < s'.next → φ id = none) (hx : VR φ (evalO l x) (ρ x)) :
    Gives P w0 φ s.next s' v ((do pure (Next.value (← Instr.range t (ρ x))) : Sem Next).run P w) := by
  unfold opRange rangeD at h
  split at h
  case h_2 => cases h
  rename_i kt e a ht hxv
  have ht : P.underlying t = some (.map kt e) := ht
  rw [hxv] at hx
  split at h
  · cases h
    have hn : φ s.next = none := hf _ (Nat.le_refl _) (Nat.lt_succ_self _)
    rw [mnil_inv hx]
    simp [Instr.range, run_underlying ht, Result.andThen]
    exact ⟨upd φ s.next (w.heap.size, 0, 0), Ext.upd hn _, .ptr _ 0 _ 0 0 (upd_same _ _ _), H.obNew hn rfl rfl rfl rfl .itn⟩
  · rename_i id
    split at h
    case h_2 => cases h
    rename_i o hg
    split at h
    case h_2 => cases h
    rename_i es ck
    cases h
    have hn : φ s.next = none := hf _ (Nat.le_refl _) (Nat.lt_succ_self _)
    obtain ⟨b, sh, sz, O, M⟩ := H.obs _ _ hg
    obtain ⟨ms, rfl, hent⟩ := M.ob.map_inv
    rw [mapv_inv hx M.at_]
    simp [Instr.range, run_underlying ht, MapKept.run_getObj_map M.blk, Result.andThen]
    exact ⟨upd φ s.next (w.heap.size, 0, 0), Ext.upd hn _, .ptr _ 0 _ 0 0 (upd_same _ _ _), H.obNew hn rfl rfl rfl rfl (.it M.at_)⟩

theorem run_next_none {ty : TypeId} {r since last : Nat} {seen : Array Nat} (hr : w.heap[r]? = some (.mapIter none since seen last)) :
    (Instr.next (.pointer (some ⟨r, 0, none⟩)) false ty).run P w = .ok (.tuple #[.bool false]) w := by
  simp [Instr.next, getObj, Sem.run, hr, Result.andThen]

theorem opNext_ok {ty : TypeId} {x : Operand} {str : Bool} (h : opNext x str l s = some (v, s')) (H : HR φ s.h w0 w) (hx : VR φ (evalO l x) (ρ x)) :
    Gives P w0 φ lo s' v ((do pure (Next.value (← Instr.next (ρ x) str ty)) : Sem Next).run P w) := by
  unfold opNext nextD at h
  split at h
  case h_2 => cases h
  rename_i r hxv
  rw [hxv] at hx
  split at h
  case h_2 => cases h
  rename_i o hg
  split at h
  case h_2 => cases h
  rename_i m since seen last
  obtain ⟨b, sh, sz, O, M⟩ := H.obs _ _ hg
  obtain ⟨b', sh', sz', e1, e2⟩ := ptr_inv hx
  rw [M.at_] at e1; cases e1
  have hsh : sh = 0 := M.zero
  subst hsh
  rw [e2]
  unfold nextIt at h
  split at h
  · cases h
    obtain rfl := M.ob.itn_inv
    exact gives_pure (s := s.read r) H (VR.tuple_of (VRL.cons (.bool false) (VRL.nil _))) (run_next_none M.blk)
  · rename_i id
    split at h
    case h_2 => cases h
    rename_i o2 hg2
    split at h
    case h_2 => cases h
    rename_i es ck
    obtain ⟨bm, shm, szm, rfl, hid⟩ := M.ob.it_inv
    obtain ⟨b2, sh2, sz2, O2, M2⟩ := H.obs _ _ hg2
    rw [M2.at_] at hid; cases hid
    obtain ⟨ms, rfl, hent⟩ := M2.ob.map_inv
    unfold nextGo at h
    split at h
    case h_2 => cases h
    rename_i hc
    rw [Bool.and_eq_true] at hc
    have hleft : MapR φ (leftD seen es) (leftOf ms ⟨seen⟩).toList := by
      have := hent.left seen
      unfold leftOf
      rw [Array.toList_filter]
      simpa using this
    have hrun := run_next_at (P := P) w ty b bm since last ⟨seen⟩ ms ck M.blk M2.blk (elderD_all hent hc.2) (Nat.le_of_ble_eq_true hc.1)
    split at h
    · rename_i hl
      cases h
      rw [hl] at hleft
      have h0 : (leftOf ms ⟨seen⟩).toList = [] := by have := hleft.len; exact List.eq_nil_of_length_eq_zero this.symm
      rcases hrun with ⟨_, hrun⟩ | ⟨e, he, _⟩
      · exact gives_pure (s := (s.read r).read id) H (VR.tuple_of (VRL.cons (.bool false) (VRL.nil _))) hrun
      · rw [h0] at he; cases he
    · rename_i e t hl
      split at h
      case h_2 => cases h
      cases h
      rw [hl] at hleft
      rcases hrun with ⟨h0, _⟩ | ⟨m, hm, w1, hw1, hrun⟩
      · have := hleft.len; simp [h0] at this
      · obtain ⟨L, hL⟩ : ∃ L, (leftOf ms ⟨seen⟩).toList = L := ⟨_, rfl⟩
        rw [hL] at hleft hm
        cases hleft with
        | cons q1 qf q2 q3 q4 =>
          cases q4
          obtain rfl := List.mem_singleton.1 hm
          rw [Sem.run_bind, hrun]
          have H1 : HR φ s.h w0 w1 := by
            rcases hw1 with rfl | rfl
            · exact H
            · exact H.drawn _
          refine ⟨φ, Ext.refl _ _ _, VR.tuple_of (VRL.cons (.bool true) (VRL.cons (by rw [q1]; exact flat2_self qf φ) (VRL.cons q3 (VRL.nil _)))), ?_⟩
          refine H1.obTurn hg M.at_ rfl rfl rfl rfl ?_
          have : (⟨seen⟩ : Array Nat).push m.born = ⟨seen ++ [m.born]⟩ := by simp
          rw [this, q2]
          exact .it M2.at_

theorem opEntry_ok {x : Operand} (h : opEntry x l s = some (v, s')) (H : HR φ s.h w0 w) (hx : VR φ (evalO l x) (ρ x)) :
    Gives P w0 φ lo s' v ((do pure (Next.value (← Instr.entry (ρ x))) : Sem Next).run P w) := by
  unfold opEntry entryD at h
  split at h
  case h_2 => cases h
  rename_i r hxv
  rw [hxv] at hx
  split at h
  case h_2 => cases h
  rename_i o hg
  split at h
  case h_2 => cases h
  rename_i m since seen last
  obtain ⟨b, sh, sz, O, M⟩ := H.obs _ _ hg
  obtain ⟨b', sh', sz', e1, e2⟩ := ptr_inv hx
  rw [M.at_] at e1; cases e1
  have hsh : sh = 0 := M.zero
  subst hsh
  rw [e2]
  unfold entryIt at h
  split at h
  case h_1 => cases h
  rename_i id
  split at h
  case h_2 => cases h
  rename_i o2 hg2
  split at h
  case h_2 => cases h
  rename_i es ck
  obtain ⟨bm, shm, szm, rfl, hid⟩ := M.ob.it_inv
  obtain ⟨b2, sh2, sz2, O2, M2⟩ := H.obs _ _ hg2
  rw [M2.at_] at hid; cases hid
  obtain ⟨ms, rfl, hent⟩ := M2.ob.map_inv
  unfold entryGo at h
  split at h
  case h_2 => cases h
  rename_i n hc hn
  split at h
  case h_2 => cases h
  rename_i e he
  cases h
  obtain ⟨m, q1, q2, qk, q3⟩ := hent.stamp he
  have hck := Nat.eq_of_beq_eq_true hc
  subst hck
  refine gives_pure (s := (s.read r).read id) H (v' := .tuple #[m.key, m.val]) (VR.tuple_of (VRL.cons qk (VRL.cons q3 (VRL.nil _)))) ?_
  have hf : ms.find? (·.born == n) = some m := by rw [← Array.find?_toList]; exact q1
  simp [Instr.entry, getObj, Sem.run, M.blk, M2.blk, Result.andThen, lastN_back hn, hf]

theorem opMakeMap_ok {t : TypeId} {r : Option Operand} (h : opMakeMap r l s = some (v, s')) (H : HR φ s.h w0 w) (hf : ∀ id, s.next ≤ id → id < s'.next → φ id = none) :
    Gives P w0 φ s.next s' v ((do pure (Next.value (← Instr.makeMap t (r.map ρ))) : Sem Next).run P w) := by
  unfold opMakeMap at h
  split at h
  case h_2 => cases h
  cases h
  have hn : φ s.next = none := hf _ (Nat.le_refl _) (Nat.lt_succ_self _)
  simp [Instr.makeMap, Result.andThen]
  exact ⟨upd φ s.next (w.heap.size, 0, 0), Ext.upd hn _, .map _ _ _ _ (upd_same _ _ _), H.obNew hn rfl rfl rfl rfl (.mp .nil)⟩

theorem lookRes_ok {φ : Ren} {ok b : Bool} {v v' : Value} (h : VR φ v v') : VR φ (lookRes ok v b) (if ok = true then .tuple #[v', .bool b] else v') := by
  cases ok with
  | true => exact VR.tuple_of (VRL.cons h (VRL.cons (.bool b) (VRL.nil _)))
  | false => exact h

theorem opLookup_ok {t : TypeId} {x k : Operand} {ok : Bool} (h : opLookup P t x k ok l s = some (v, s')) (H : HR φ s.h w0 w) (hx : VR φ (evalO l x) (ρ x)) (hk : VR φ (evalO l k) (ρ k)) :
    Gives P w0 φ lo s' v ((do pure (Next.value (← Instr.lookup t (ρ x) (ρ k) ok)) : Sem Next).run P w) := by
  unfold opLookup lookupD at h
  split at h
  case h_2 => cases h
  rename_i kt e ht
  have ht : P.underlying t = some (.map kt e) := ht
  split at h
  case h_2 => cases h
  rename_i hc
  simp only [Bool.and_eq_true] at hc
  obtain ⟨c1, c2, c3⟩ := hc
  have hK := keyD_law c1
  rw [flat2_inv c2 hk]
  obtain ⟨kl, hkl⟩ := Option.isSome_iff_exists.1 c3
  unfold mapOf at h
  split at h
  case h_2 => cases h
  rename_i r hr
  obtain ⟨es, s1⟩ := r
  simp only at h
  split at h
  case h_2 => cases h
  rename_i v' hv
  cases h
  have main : ∀ (ms : List MapEntry), MapR φ es ms → ∃ y, VR φ v y ∧ ∀ em : Bool, (do
      Instr.checkKey em 10000 kt (evalO l k)
      let (v, b) ← match ← Instr.findKey kt (evalO l k) ms with
        | some (_, v) => pure (v, true)
        | none => pure (← zeroValue e, false)
      pure (if ok then .tuple #[v, .bool b] else v) : Sem Value).run P w = .ok y w := by
    intro ms hR
    unfold lookVal at hv
    split at hv
    · rename_i j hj
      have hfind := find_run hK c3 hj hR w
      obtain ⟨m, x0, n0, f1, f2, f3, f4, f5⟩ := hfind
      rw [nth_eq, f2] at hv
      cases hv
      refine ⟨_, lookRes_ok (ok := ok) (b := true) f4, fun em => ?_⟩
      simp [hK.check w em hkl, f5, Result.andThen]
    · rename_i hj
      have hfind := find_run hK c3 hj hR w
      simp only at hfind
      split at hv
      case h_2 => cases hv
      rename_i z hz
      cases hv
      refine ⟨_, lookRes_ok (ok := ok) (b := false) (flat2_self (zeroOf_flat hz) φ), fun em => ?_⟩
      simp [hK.check w em hkl, hfind, zeroOf_run hz, Result.andThen]
    · cases hv
  split at hr
  case h_2 => cases hr
  rename_i a ha
  rw [ha] at hx
  split at hr
  · cases hr
    rw [mnil_inv hx]
    obtain ⟨y, h1, h2⟩ := main [] .nil
    refine gives_pure H h1 ?_
    have := h2 true
    simp only [Instr.lookup, Sem.run_bind, run_underlying ht, Result.andThen_ok, Sem.run_pure] at this ⊢
    exact this
  · rename_i id
    split at hr
    case h_2 => cases hr
    rename_i o hg
    split at hr
    case h_2 => cases hr
    rename_i es' ck
    cases hr
    obtain ⟨b, sh, sz, O, M⟩ := H.obs _ _ hg
    obtain ⟨ms, rfl, hent⟩ := M.ob.map_inv
    obtain ⟨y, h1, h2⟩ := main ms.toList hent
    have hxe : ρ x = .map (some b) := mapv_inv hx M.at_
    rw [hxe]
    refine gives_pure (s := s.read id) H h1 ?_
    have := h2 ms.isEmpty
    simp only [Instr.lookup, Sem.run_bind, run_underlying ht, Result.andThen_ok, Sem.run_pure, MapKept.run_getObj_map M.blk] at this ⊢
    exact this

theorem opMapUpdate_ok {t : TypeId} {x k y : Operand} (h : opMapUpdate P t x k y l s = some (v, s')) (H : HR φ s.h w0 w) (hx : VR φ (evalO l x) (ρ x)) (hk : VR φ (evalO l k) (ρ k)) (hy : VR φ (evalO l y) (ρ y)) :
    Gives P w0 φ lo s' v ((do Instr.mapUpdate t (ρ x) (ρ k) (ρ y); pure Next.skip : Sem Next).run P w) := by
  unfold opMapUpdate updateD at h
  split at h
  case h_2 => cases h
  rename_i kt e id ht hxv
  have ht : P.underlying t = some (.map kt e) := ht
  split at h
  case h_2 => cases h
  rename_i hc
  simp only [Bool.and_eq_true] at hc
  obtain ⟨c1, c2, c3⟩ := hc
  have hK := keyD_law c1
  rw [flat2_inv c2 hk]
  obtain ⟨kl, hkl⟩ := Option.isSome_iff_exists.1 c3
  split at h
  case h_2 => cases h
  rename_i o hg
  split at h
  case h_2 => cases h
  rename_i es ck
  split at h
  case h_2 => cases h
  rename_i es' hu
  cases h
  obtain ⟨b, sh, sz, O, M⟩ := H.obs _ _ hg
  obtain ⟨ms, rfl, hent⟩ := M.ob.map_inv
  rw [hxv] at hx
  have hxe : ρ x = .map (some b) := mapv_inv hx M.at_
  rw [hxe]
  unfold updEs at hu
  split at hu
  · rename_i j hj
    cases hu
    obtain ⟨m, x0, n0, f1, f2, f3, f4, f5⟩ := find_run hK c3 hj hent w
    have hm : ms[j]? = some m := by simpa using f1
    have hrun : (do Instr.mapUpdate t (.map (some b)) (evalO l k) (ρ y); pure Next.skip : Sem Next).run P w = .ok .skip { w with heap := w.heap.setIfInBounds b (.map (ms.modify j fun e => { e with key := evalO l k, val := ρ y }) ck) } := by
      simp [Instr.mapUpdate, run_underlying ht, MapKept.run_getObj_map M.blk, hK.check w false hkl, f5, hm, f3, hK.stays w hkl, MapKept.run_setObj_map _ M.blk, Result.andThen]
    rw [hrun]
    refine ⟨φ, Ext.refl _ _ _, .any _, H.obTurn hg M.at_ rfl rfl rfl rfl (.mp ?_)⟩
    rw [Array.toList_modify]
    exact hent.set hy ⟨x0, n0, f2⟩
  · rename_i hj
    cases hu
    have f5 := find_run hK c3 hj hent w
    simp only at f5
    have hrun : (do Instr.mapUpdate t (.map (some b)) (evalO l k) (ρ y); pure Next.skip : Sem Next).run P w = .ok .skip { w with heap := w.heap.setIfInBounds b (.map (ms.push { key := evalO l k, val := ρ y, born := ck }) (ck + 1)) } := by
      simp [Instr.mapUpdate, run_underlying ht, MapKept.run_getObj_map M.blk, hK.check w false hkl, f5, MapKept.run_setObj_map _ M.blk, Result.andThen]
    rw [hrun]
    refine ⟨φ, Ext.refl _ _ _, .any _, H.obTurn hg M.at_ rfl rfl rfl rfl (.mp ?_)⟩
    rw [Array.toList_push]
    exact hent.push (m := { key := evalO l k, val := ρ y, born := ck }) rfl c2 hy
  · cases hu

end
end Go.Det
