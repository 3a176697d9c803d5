/- A part of an evaluator of closed runs and of its soundness. -/
import Derived.Test.YtcjbddgeoiacoaaGreatDoorDetRel
namespace Go.Det

theorem ltake_zero (l : List Value) : ltake 0 l = some [] := rfl
theorem ltake_succ_nil (n : Nat) : ltake (n + 1) [] = none := rfl
theorem ltake_succ_cons (n : Nat) (v : Value) (t : List Value) : ltake (n + 1) (v :: t) = match ltake n t with | some r => some (v :: r) | none => none := rfl
theorem ltake_some : ∀ {n : Nat} {l r : List Value}, ltake n l = some r → r = l.take n ∧ n ≤ l.length
  | 0, l, r, h => by rw [ltake_zero] at h; cases h; simp
  | n + 1, [], r, h => by rw [ltake_succ_nil] at h; cases h
  | n + 1, v :: t, r, h => by
    rw [ltake_succ_cons] at h
    split at h
    · rename_i r' hr; cases h; obtain ⟨rfl, hn⟩ := ltake_some hr; simp; exact hn
    · cases h
theorem ldrop_zero (l : List Value) : ldrop 0 l = l := rfl
theorem ldrop_succ_nil (n : Nat) : ldrop (n + 1) [] = [] := rfl
theorem ldrop_succ_cons (n : Nat) (v : Value) (t : List Value) : ldrop (n + 1) (v :: t) = ldrop n t := rfl
theorem ldrop_eq : ∀ (n : Nat) (l : List Value), ldrop n l = l.drop n
  | 0, l => rfl
  | n + 1, [] => rfl
  | n + 1, v :: t => by rw [ldrop_succ_cons, ldrop_eq n t]; rfl
theorem lput0_nil (l : List Value) : lput0 l [] = some l := rfl
theorem lput0_cons_nil (w : Value) (ws : List Value) : lput0 [] (w :: ws) = none := rfl
theorem lput0_cons (x w : Value) (t ws : List Value) : lput0 (x :: t) (w :: ws) = match lput0 t ws with | some r => some (w :: r) | none => none := rfl
theorem lput0_some : ∀ {l ws r : List Value}, lput0 l ws = some r → r = ws ++ l.drop ws.length ∧ ws.length ≤ l.length
  | l, [], r, h => by rw [lput0_nil] at h; cases h; simp
  | [], w :: ws, r, h => by rw [lput0_cons_nil] at h; cases h
  | x :: t, w :: ws, r, h => by
    rw [lput0_cons] at h
    split at h
    · rename_i r' hr; cases h; obtain ⟨rfl, hn⟩ := lput0_some hr; simp; exact hn
    · cases h
theorem lput_zero (l ws : List Value) : lput l 0 ws = lput0 l ws := rfl
theorem lput_succ_nil (n : Nat) (ws : List Value) : lput [] (n + 1) ws = none := rfl
theorem lput_succ_cons (n : Nat) (x : Value) (t ws : List Value) : lput (x :: t) (n + 1) ws = match lput t n ws with | some r => some (x :: r) | none => none := rfl
theorem lput_some : ∀ {n : Nat} {l ws r : List Value}, lput l n ws = some r → r = l.take n ++ ws ++ l.drop (n + ws.length) ∧ n + ws.length ≤ l.length
  | 0, l, ws, r, h => by rw [lput_zero] at h; obtain ⟨rfl, hn⟩ := lput0_some h; simp; exact hn
  | n + 1, [], ws, r, h => by rw [lput_succ_nil] at h; cases h
  | n + 1, x :: t, ws, r, h => by
    rw [lput_succ_cons] at h
    split at h
    · rename_i r' hr; cases h; obtain ⟨rfl, hn⟩ := lput_some hr
      refine ⟨?_, by simp; omega⟩
      rw [show n + 1 + ws.length = (n + ws.length) + 1 by omega]; rfl
    · cases h

/-- cell by cell -/
theorem lput_getD {n : Nat} {l ws r : List Value} (h : lput l n ws = some r) (i : Nat) :
    r.getD i und = if n ≤ i ∧ i < n + ws.length then ws.getD (i - n) und else l.getD i und := by
  obtain ⟨rfl, hn⟩ := lput_some h
  simp only [List.getD_eq_getElem?_getD]
  have hl : (l.take n).length = n := by rw [List.length_take]; omega
  have hl2 : (l.take n ++ ws).length = n + ws.length := by rw [List.length_append, hl]
  by_cases h1 : i < n
  · rw [if_neg (by omega), List.append_assoc, List.getElem?_append_left (by rw [hl]; exact h1), List.getElem?_take_of_lt h1]
  · by_cases h2 : i < n + ws.length
    · rw [if_pos (by omega), List.getElem?_append_left (by rw [hl2]; exact h2), List.getElem?_append_right (by rw [hl]; omega), hl]
    · rw [if_neg (by omega), List.getElem?_append_right (by rw [hl2]; omega), List.getElem?_drop, hl2, show n + ws.length + (i - (n + ws.length)) = i by omega]
theorem lput_length {n : Nat} {l ws r : List Value} (h : lput l n ws = some r) : r.length = l.length := by
  obtain ⟨rfl, hn⟩ := lput_some h; simp; omega

theorem half1 (e : Nat) : (2 * e + 1) / 2 = e := by omega
theorem half0 (e : Nat) : (2 * e) / 2 = e := by omega
theorem odd1 (e : Nat) : (2 * e + 1) % 2 = 1 := by omega
theorem even0 (e : Nat) : ¬ (2 * e) % 2 = 1 := by omega
/-! Memory -/
structure CellsAt (φ : Ren) (w0 w : World) (id : Nat) (cs : List Value) (e : TypeId) (ro : Bool) (b sh sz : Nat) (c : Array Value) (fz : Nat × Nat) : Prop where
  at_ : φ id = some (b, sh, sz)
  blk : w.heap[b]? = some (.cells c (e / 2) fz)
  exact_ : e % 2 = 1 → sh = 0
  size : c.size = sz
  fit : sh + cs.length ≤ sz
  cell : ∀ i, i < cs.length → VR φ (cs.getD i und) (c.getD (sh + i) und)
  mine : ro = false → w0.heap.size ≤ b ∧ ∀ o, o < sz → ¬ (fz.1 ≤ o ∧ o < fz.2)

/-- the entries of a map: the same keys, values that go together -/
inductive MapR (φ : Ren) : List (Value × Value × Nat) → List MapEntry → Prop
  | nil : MapR φ [] []
  | cons {k v : Value} {n : Nat} {t : List (Value × Value × Nat)} {e : MapEntry} {t' : List MapEntry} : e.key = k → flat2 k = true → e.born = n → VR φ v e.val → MapR φ t t' → MapR φ ((k, v, n) :: t) (e :: t')
theorem MapR.mono {φ φ' : Ren} (h : Le φ φ') {a : List (Value × Value × Nat)} {b : List MapEntry} (k : MapR φ a b) : MapR φ' a b := by
  induction k with
  | nil => exact .nil
  | cons e f n v _ ih => exact .cons e f n (v.mono h) ih
theorem MapR.back {φ φ' : Ren} (hle : Le φ φ') {a : List (Value × Value × Nat)} {b c : List MapEntry} (h : MapR φ a b) (k : MapR φ' a c) : MapR φ a c := by
  induction h generalizing c with
  | nil => cases k; exact .nil
  | cons e f n v _ ih => cases k with | cons e' f' n' v' t' => exact .cons e' f' n' (v.back hle v') (ih t')

inductive ObR (φ : Ren) : Ob → Obj → Prop
  | mp {es : List (Value × Value × Nat)} {ms : Array MapEntry} {ck : Nat} : MapR φ es ms.toList → ObR φ (.mp es ck) (.map ms ck)
  | it {id b sh sz since last : Nat} {seen : List Nat} : φ id = some (b, sh, sz) → ObR φ (.it (some id) since seen last) (.mapIter (some b) since ⟨seen⟩ last)
  | itn {since last : Nat} {seen : List Nat} : ObR φ (.it none since seen last) (.mapIter none since ⟨seen⟩ last)
theorem ObR.mono {φ φ' : Ren} (h : Le φ φ') {o : Ob} {O : Obj} (k : ObR φ o O) : ObR φ' o O := by
  cases k with
  | mp k => exact .mp (k.mono h)
  | it k => exact .it (h _ _ k)
  | itn => exact .itn
theorem ObR.back {φ φ' : Ren} (hle : Le φ φ') {o : Ob} {O O' : Obj} (h : ObR φ o O) (k : ObR φ' o O') : ObR φ o O' := by
  cases h with
  | mp h => cases k with | mp k => exact .mp (h.back hle k)
  | it h => cases k with | it k => have := hle _ _ h; rw [this] at k; cases k; exact .it h
  | itn => cases k; exact .itn
theorem ObR.not_cells {φ : Ren} {o : Ob} {c : Array Value} {e : TypeId} {fz : Nat × Nat} (h : ObR φ o (.cells c e fz)) : False := by cases h

structure ObAt (φ : Ren) (w0 w : World) (id : Nat) (o : Ob) (b sh sz : Nat) (O : Obj) : Prop where
  at_ : φ id = some (b, sh, sz)
  blk : w.heap[b]? = some O
  zero : sh = 0
  mine : w0.heap.size ≤ b
  ob : ObR φ o O

structure HR (φ : Ren) (h : Heap) (w0 w : World) : Prop where
  os : w.os = w0.os
  output : w.output = w0.output
  tape : w.tape = w0.tape
  size : w0.heap.size ≤ w.heap.size
  old : ∀ b, b < w0.heap.size → w.heap[b]? = w0.heap[b]?
  dom : ∀ id b sh sz, φ id = some (b, sh, sz) → b < w.heap.size
  cells : ∀ id cs e ro, h.get id = some (.cells cs e ro) → ∃ b sh sz c fz, CellsAt φ w0 w id cs e ro b sh sz c fz
  inj : ∀ i j ci ei cj ej ro bi si zi bj sj zj, i ≠ j → h.get i = some (.cells ci ei false) → h.get j = some (.cells cj ej ro) →
    φ i = some (bi, si, zi) → φ j = some (bj, sj, zj) → bi ≠ bj
  obs : ∀ id o, h.get id = some (.ob o) → ∃ b sh sz O, ObAt φ w0 w id o b sh sz O
  oinj : ∀ i j ei ej bi si zi bj sj zj, i ≠ j → h.get i = some (.ob ei) → h.get j = some (.ob ej) → φ i = some (bi, si, zi) → φ j = some (bj, sj, zj) → bi ≠ bj

theorem HR.drawn {φ : Ren} {h : Heap} {w0 w : World} (H : HR φ h w0 w) (k : Nat) : HR φ h w0 { w with drawn := k } :=
  ⟨H.os, H.output, H.tape, H.size, H.old, H.dom, fun id cs e ro g => let ⟨b, sh, sz, c, fz, q⟩ := H.cells id cs e ro g; ⟨b, sh, sz, c, fz, q.at_, q.blk, q.exact_, q.size, q.fit, q.cell, q.mine⟩, H.inj, fun id o g => let ⟨b, sh, sz, O, q⟩ := H.obs id o g; ⟨b, sh, sz, O, q.at_, q.blk, q.zero, q.mine, q.ob⟩, H.oinj⟩

/-- Only what stands under the numbers counts. -/
theorem HR.same {φ : Ren} {h h' : Heap} {w0 w : World} (H : HR φ h w0 w) (e : ∀ id cs t ro, h'.get id = some (.cells cs t ro) → h.get id = some (.cells cs t ro))
    (em : ∀ id o, h'.get id = some (.ob o) → h.get id = some (.ob o)) : HR φ h' w0 w :=
  ⟨H.os, H.output, H.tape, H.size, H.old, H.dom, fun id cs t ro g => H.cells id cs t ro (e _ _ _ _ g), fun i j ci ei cj ej ro bi si zi bj sj zj n g g' => H.inj i j ci ei cj ej ro bi si zi bj sj zj n (e _ _ _ _ g) (e _ _ _ _ g'),
    fun id es g => H.obs id es (em _ _ g), fun i j ei ej bi si zi bj sj zj n g g' => H.oinj i j ei ej bi si zi bj sj zj n (em _ _ g) (em _ _ g')⟩

def upd (φ : Ren) (n : Nat) (x : Nat × Nat × Nat) : Ren := fun i => if i = n then some x else φ i
theorem upd_same (φ : Ren) (n : Nat) (x : Nat × Nat × Nat) : upd φ n x n = some x := by simp [upd]
theorem upd_other (φ : Ren) {n i : Nat} (x : Nat × Nat × Nat) (h : i ≠ n) : upd φ n x i = φ i := by simp [upd, h]
theorem Le.upd {φ : Ren} {n : Nat} (h : φ n = none) (x : Nat × Nat × Nat) : Le φ (upd φ n x) := by
  intro i y hy
  rw [upd_other]
  · exact hy
  · rintro rfl; rw [h] at hy; cases hy

structure Ext (φ φ' : Ren) (lo hi : Nat) : Prop where
  le : Le φ φ'
  new : ∀ id, φ' id ≠ none → φ id ≠ none ∨ (lo ≤ id ∧ id < hi)
theorem Ext.refl (φ : Ren) (lo hi : Nat) : Ext φ φ lo hi := ⟨Le.refl φ, fun _ h => .inl h⟩
theorem Ext.upd {φ : Ren} {n : Nat} (h : φ n = none) (x : Nat × Nat × Nat) : Ext φ (upd φ n x) n (n + 1) :=
  ⟨Le.upd h x, fun id k => by
    by_cases e : id = n
    · right; omega
    · left; rwa [upd_other _ _ e] at k⟩
theorem Ext.trans {φ φ' φ'' : Ren} {a b c d lo hi : Nat} (h : Ext φ φ' a b) (k : Ext φ' φ'' c d) (h1 : lo ≤ a) (h2 : b ≤ hi) (h3 : lo ≤ c) (h4 : d ≤ hi) : Ext φ φ'' lo hi :=
  ⟨h.le.trans k.le, fun id q => by
    rcases k.new id q with q | q
    · rcases h.new id q with q | q
      · exact .inl q
      · right; omega
    · right; omega⟩
theorem Ext.mono {φ φ' : Ren} {a b lo hi : Nat} (h : Ext φ φ' a b) (h1 : lo ≤ a) (h2 : b ≤ hi) : Ext φ φ' lo hi :=
  ⟨h.le, fun id q => by rcases h.new id q with q | q; exact .inl q; right; omega⟩

/-- A block that nothing live lies in (a new one too) is taken under a new number. -/
theorem HR.adopt {φ : Ren} {h : Heap} {w0 w w' : World} (H : HR φ h w0 w) {n b sh sz : Nat} {c : Array Value} {e : TypeId} {fz : Nat × Nat} {cs : List Value} {ro : Bool}
    (hn : φ n = none) (hos : w'.os = w.os) (hout : w'.output = w.output) (htape : w'.tape = w.tape) (hsize : w.heap.size ≤ w'.heap.size)
    (hother : ∀ k, k < w.heap.size → k ≠ b → w'.heap[k]? = w.heap[k]?) (hb : w0.heap.size ≤ b) (hblk : w'.heap[b]? = some (.cells c (e / 2) fz)) (hex : e % 2 = 1 → sh = 0)
    (hfree : ∀ j cj ej rj bj sj zj, h.get j = some (.cells cj ej rj) → φ j = some (bj, sj, zj) → bj ≠ b)
    (hc : c.size = sz) (hfit : sh + cs.length ≤ sz) (hcell : ∀ i, i < cs.length → VR φ (cs.getD i und) (c.getD (sh + i) und))
    (hfz : ro = false → ∀ o, o < sz → ¬ (fz.1 ≤ o ∧ o < fz.2)) (hnm : ∀ O, w.heap[b]? = some O → ∃ c e fz, O = .cells c e fz) :
    HR (upd φ n (b, sh, sz)) (h.set n (.cells cs e ro)) w0 w' := by
  have hbs : b < w'.heap.size := by
    rcases Nat.lt_or_ge b w'.heap.size with q | q
    · exact q
    · rw [Array.getElem?_eq_none q] at hblk; cases hblk
  refine ⟨hos.trans H.os, hout.trans H.output, htape.trans H.tape, Nat.le_trans H.size hsize, fun k hk => ?_, fun id b' sh' sz' q => ?_, fun id cs' e' ro' q => ?_, fun i j ci ei cj ej ro' bi si zi bj sj zj hij gi gj ai aj => ?_, fun id es q => ?_, fun i j ei ej bi si zi bj sj zj hij gi gj ai aj => ?_⟩
  · rw [hother k (Nat.lt_of_lt_of_le hk H.size) (by omega)]; exact H.old k hk
  · by_cases hid : id = n
    · subst hid; rw [upd_same] at q; cases q; exact hbs
    · rw [upd_other _ _ hid] at q; exact Nat.lt_of_lt_of_le (H.dom _ _ _ _ q) hsize
  · rw [Heap.get_set] at q
    by_cases hid : id = n
    · subst hid; rw [if_pos rfl] at q; cases q
      exact ⟨b, sh, sz, c, fz, upd_same _ _ _, hblk, hex, hc, hfit, fun i hi => (hcell i hi).mono (Le.upd hn _), fun hr => ⟨hb, hfz hr⟩⟩
    · rw [if_neg hid] at q
      obtain ⟨b', sh', sz', c', fz', k⟩ := H.cells _ _ _ _ q
      refine ⟨b', sh', sz', c', fz', by rw [upd_other _ _ hid]; exact k.at_, ?_, k.exact_, k.size, k.fit, fun i hi => (k.cell i hi).mono (Le.upd hn _), k.mine⟩
      rw [hother b' (H.dom _ _ _ _ k.at_) (hfree _ _ _ _ _ _ _ q k.at_)]; exact k.blk
  · rw [Heap.get_set] at gi gj
    by_cases hi : i = n
    · subst hi
      rw [if_neg (Ne.symm hij)] at gj
      rw [upd_same] at ai; cases ai
      rw [upd_other _ _ (Ne.symm hij)] at aj
      exact Ne.symm (hfree _ _ _ _ _ _ _ gj aj)
    · rw [if_neg hi] at gi
      rw [upd_other _ _ hi] at ai
      by_cases hj : j = n
      · subst hj
        rw [upd_same] at aj; cases aj
        exact hfree _ _ _ _ _ _ _ gi ai
      · rw [if_neg hj] at gj; rw [upd_other _ _ hj] at aj
        exact H.inj _ _ _ _ _ _ _ _ _ _ _ _ _ hij gi gj ai aj
  · rw [Heap.get_set] at q
    by_cases hid : id = n
    · rw [if_pos hid] at q; cases q
    · rw [if_neg hid] at q
      obtain ⟨b', sh', sz', O, k⟩ := H.obs _ _ q
      refine ⟨b', sh', sz', O, by rw [upd_other _ _ hid]; exact k.at_, ?_, k.zero, k.mine, k.ob.mono (Le.upd hn _)⟩
      rw [hother b' (H.dom _ _ _ _ k.at_) (fun hb' => by obtain ⟨c, e, fz, rfl⟩ := hnm _ (hb' ▸ k.blk); exact k.ob.not_cells)]; exact k.blk
  · rw [Heap.get_set] at gi gj
    by_cases hi : i = n
    · rw [if_pos hi] at gi; cases gi
    · by_cases hj : j = n
      · rw [if_pos hj] at gj; cases gj
      · rw [if_neg hi] at gi; rw [if_neg hj] at gj; rw [upd_other _ _ hi] at ai; rw [upd_other _ _ hj] at aj
        exact H.oinj _ _ _ _ _ _ _ _ _ _ hij gi gj ai aj

/-- What stands under a number of one's own is turned. -/
theorem HR.turn {φ : Ren} {h : Heap} {w0 w w' : World} (H : HR φ h w0 w) {id b sh sz : Nat} {c : Array Value} {e : TypeId} {fz : Nat × Nat} {cs cs' : List Value} {ro : Bool}
    (hg : h.get id = some (.cells cs e false)) (hat : φ id = some (b, sh, sz)) (hos : w'.os = w.os) (hout : w'.output = w.output) (htape : w'.tape = w.tape) (hsize : w'.heap.size = w.heap.size)
    (hother : ∀ k, k ≠ b → w'.heap[k]? = w.heap[k]?) (hb : w0.heap.size ≤ b) (hblk : w'.heap[b]? = some (.cells c (e / 2) fz)) (hex : e % 2 = 1 → sh = 0)
    (hc : c.size = sz) (hfit : sh + cs'.length ≤ sz) (hcell : ∀ i, i < cs'.length → VR φ (cs'.getD i und) (c.getD (sh + i) und))
    (hfz : ro = false → ∀ o, o < sz → ¬ (fz.1 ≤ o ∧ o < fz.2)) :
    HR φ (h.set id (.cells cs' e ro)) w0 w' := by
  refine ⟨hos.trans H.os, hout.trans H.output, htape.trans H.tape, by rw [hsize]; exact H.size, fun k hk => ?_, fun id b' sh' sz' q => by rw [hsize]; exact H.dom _ _ _ _ q, fun j cj ej rj q => ?_, fun i j ci ei cj ej ro' bi si zi bj sj zj hij gi gj ai aj => ?_, fun j es q => ?_, fun i j ei ej bi si zi bj sj zj hij gi gj ai aj => ?_⟩
  · rw [hother k (by omega)]; exact H.old k hk
  · rw [Heap.get_set] at q
    by_cases hj : j = id
    · subst hj; rw [if_pos rfl] at q; cases q
      exact ⟨b, sh, sz, c, fz, hat, hblk, hex, hc, hfit, hcell, fun hr => ⟨hb, hfz hr⟩⟩
    · rw [if_neg hj] at q
      obtain ⟨b', sh', sz', c', fz', k⟩ := H.cells _ _ _ _ q
      refine ⟨b', sh', sz', c', fz', k.at_, ?_, k.exact_, k.size, k.fit, k.cell, k.mine⟩
      rw [hother b' (Ne.symm (H.inj _ _ _ _ _ _ _ _ _ _ _ _ _ (Ne.symm hj) hg q hat k.at_))]; exact k.blk
  · rw [Heap.get_set] at gi gj
    have gi' : ∃ c', h.get i = some (.cells c' ei false) := by
      by_cases q : i = id
      · subst q; rw [if_pos rfl] at gi; cases gi; exact ⟨_, hg⟩
      · rw [if_neg q] at gi; exact ⟨_, gi⟩
    have gj' : ∃ c' r', h.get j = some (.cells c' ej r') := by
      by_cases q : j = id
      · subst q; rw [if_pos rfl] at gj; cases gj; exact ⟨_, _, hg⟩
      · rw [if_neg q] at gj; exact ⟨_, _, gj⟩
    obtain ⟨_, gi'⟩ := gi'; obtain ⟨_, _, gj'⟩ := gj'
    exact H.inj _ _ _ _ _ _ _ _ _ _ _ _ _ hij gi' gj' ai aj
  · rw [Heap.get_set] at q
    by_cases hid : j = id
    · rw [if_pos hid] at q; cases q
    · rw [if_neg hid] at q
      obtain ⟨b', sh', sz', O, k⟩ := H.obs _ _ q
      refine ⟨b', sh', sz', O, k.at_, ?_, k.zero, k.mine, k.ob⟩
      rw [hother b' fun hb' => ?_]; exact k.blk
      obtain ⟨b2, sh2, sz2, c2, fz2, k2⟩ := H.cells _ _ _ _ hg
      have := k2.at_; rw [hat] at this; cases this
      have := k.blk; rw [hb', k2.blk] at this; cases this
      exact k.ob.not_cells
  · rw [Heap.get_set] at gi gj
    by_cases hi : i = id
    · rw [if_pos hi] at gi; cases gi
    · by_cases hj : j = id
      · rw [if_pos hj] at gj; cases gj
      · rw [if_neg hi] at gi; rw [if_neg hj] at gj
        exact H.oinj _ _ _ _ _ _ _ _ _ _ hij gi gj ai aj

/-- A new block that is no row of cells is taken under a new number. -/
theorem HR.obNew {φ : Ren} {h : Heap} {w0 w w' : World} (H : HR φ h w0 w) {n : Nat} {o : Ob} {O : Obj} (hn : φ n = none) (hos : w'.os = w.os) (hout : w'.output = w.output) (htape : w'.tape = w.tape)
    (hheap : w'.heap = w.heap.push O) (ho : ObR φ o O) : HR (upd φ n (w.heap.size, 0, 0)) (h.set n (.ob o)) w0 w' := by
  have hsz : w'.heap.size = w.heap.size + 1 := by rw [hheap]; simp
  have hold : ∀ k, k < w.heap.size → w'.heap[k]? = w.heap[k]? := fun k hk => by rw [hheap, Array.getElem?_push]; rw [if_neg (by omega)]
  have hnew : w'.heap[w.heap.size]? = some O := by rw [hheap]; simp
  refine ⟨hos.trans H.os, hout.trans H.output, htape.trans H.tape, by have := H.size; omega, fun k hk => ?_, fun id b' sh' sz' q => ?_, fun id cs' e' ro' q => ?_, fun i j ci ei cj ej ro' bi si zi bj sj zj hij gi gj ai aj => ?_, fun id o' q => ?_, fun i j ei ej bi si zi bj sj zj hij gi gj ai aj => ?_⟩
  · rw [hold k (Nat.lt_of_lt_of_le hk H.size)]; exact H.old k hk
  · by_cases hid : id = n
    · subst hid; rw [upd_same] at q; cases q; omega
    · rw [upd_other _ _ hid] at q; have := H.dom _ _ _ _ q; omega
  · rw [Heap.get_set] at q
    by_cases hid : id = n
    · rw [if_pos hid] at q; cases q
    · rw [if_neg hid] at q
      obtain ⟨b', sh', sz', c', fz', k⟩ := H.cells _ _ _ _ q
      exact ⟨b', sh', sz', c', fz', by rw [upd_other _ _ hid]; exact k.at_, by rw [hold _ (H.dom _ _ _ _ k.at_)]; exact k.blk, k.exact_, k.size, k.fit, fun i hi => (k.cell i hi).mono (Le.upd hn _), k.mine⟩
  · rw [Heap.get_set] at gi gj
    by_cases hi : i = n
    · rw [if_pos hi] at gi; cases gi
    · by_cases hj : j = n
      · rw [if_pos hj] at gj; cases gj
      · rw [if_neg hi] at gi; rw [if_neg hj] at gj; rw [upd_other _ _ hi] at ai; rw [upd_other _ _ hj] at aj
        exact H.inj _ _ _ _ _ _ _ _ _ _ _ _ _ hij gi gj ai aj
  · rw [Heap.get_set] at q
    by_cases hid : id = n
    · subst hid; rw [if_pos rfl] at q; cases q
      exact ⟨_, _, _, _, upd_same _ _ _, hnew, rfl, H.size, ho.mono (Le.upd hn _)⟩
    · rw [if_neg hid] at q
      obtain ⟨b', sh', sz', O', k⟩ := H.obs _ _ q
      exact ⟨b', sh', sz', O', by rw [upd_other _ _ hid]; exact k.at_, by rw [hold _ (H.dom _ _ _ _ k.at_)]; exact k.blk, k.zero, k.mine, k.ob.mono (Le.upd hn _)⟩
  · rw [Heap.get_set] at gi gj
    by_cases hi : i = n
    · subst hi; rw [upd_same] at ai; cases ai
      rw [if_neg (Ne.symm hij)] at gj; rw [upd_other _ _ (Ne.symm hij)] at aj
      have := H.dom _ _ _ _ aj; omega
    · rw [if_neg hi] at gi; rw [upd_other _ _ hi] at ai
      by_cases hj : j = n
      · subst hj; rw [upd_same] at aj; cases aj
        have := H.dom _ _ _ _ ai; omega
      · rw [if_neg hj] at gj; rw [upd_other _ _ hj] at aj
        exact H.oinj _ _ _ _ _ _ _ _ _ _ hij gi gj ai aj

/-- Such a block is turned. -/
theorem HR.obTurn {φ : Ren} {h : Heap} {w0 w w' : World} (H : HR φ h w0 w) {id b sh sz : Nat} {o o' : Ob} {O : Obj}
    (hg : h.get id = some (.ob o)) (hat : φ id = some (b, sh, sz)) (hos : w'.os = w.os) (hout : w'.output = w.output) (htape : w'.tape = w.tape)
    (hheap : w'.heap = w.heap.setIfInBounds b O) (ho : ObR φ o' O) : HR φ (h.set id (.ob o')) w0 w' := by
  obtain ⟨b2, sh2, sz2, O2, k2⟩ := H.obs _ _ hg
  have e2 := k2.at_; rw [hat] at e2; cases e2
  have hlt := H.dom _ _ _ _ hat
  have hsz : w'.heap.size = w.heap.size := by rw [hheap]; simp
  have hoth : ∀ k, k ≠ b → w'.heap[k]? = w.heap[k]? := fun k hk => by rw [hheap]; simp [Ne.symm hk]
  have hnew : w'.heap[b]? = some O := by rw [hheap]; simp [hlt]
  have hb := k2.mine
  refine ⟨hos.trans H.os, hout.trans H.output, htape.trans H.tape, by rw [hsz]; exact H.size, fun k hk => ?_, fun id b' sh' sz' q => by rw [hsz]; exact H.dom _ _ _ _ q, fun j cj ej rj q => ?_, fun i j ci ei cj ej ro' bi si zi bj sj zj hij gi gj ai aj => ?_, fun j oj q => ?_, fun i j ei ej bi si zi bj sj zj hij gi gj ai aj => ?_⟩
  · rw [hoth k (by omega)]; exact H.old k hk
  · rw [Heap.get_set] at q
    by_cases hj : j = id
    · rw [if_pos hj] at q; cases q
    · rw [if_neg hj] at q
      obtain ⟨b', sh', sz', c', fz', k⟩ := H.cells _ _ _ _ q
      refine ⟨b', sh', sz', c', fz', k.at_, ?_, k.exact_, k.size, k.fit, k.cell, k.mine⟩
      rw [hoth b' fun hb' => ?_]; exact k.blk
      have := k.blk; rw [hb', k2.blk] at this; cases this
      exact k2.ob.not_cells
  · rw [Heap.get_set] at gi gj
    by_cases hi : i = id
    · rw [if_pos hi] at gi; cases gi
    · by_cases hj : j = id
      · rw [if_pos hj] at gj; cases gj
      · rw [if_neg hi] at gi; rw [if_neg hj] at gj
        exact H.inj _ _ _ _ _ _ _ _ _ _ _ _ _ hij gi gj ai aj
  · rw [Heap.get_set] at q
    by_cases hj : j = id
    · subst hj; rw [if_pos rfl] at q; cases q
      exact ⟨_, _, _, _, hat, hnew, k2.zero, hb, ho⟩
    · rw [if_neg hj] at q
      obtain ⟨b', sh', sz', O', k⟩ := H.obs _ _ q
      refine ⟨b', sh', sz', O', k.at_, ?_, k.zero, k.mine, k.ob⟩
      rw [hoth b' (H.oinj _ _ _ _ _ _ _ _ _ _ hj q hg k.at_ hat)]; exact k.blk
  · rw [Heap.get_set] at gi gj
    have gi' : ∃ e', h.get i = some (.ob e') := by
      by_cases q : i = id
      · subst q; exact ⟨_, hg⟩
      · rw [if_neg q] at gi; exact ⟨_, gi⟩
    have gj' : ∃ e', h.get j = some (.ob e') := by
      by_cases q : j = id
      · subst q; exact ⟨_, hg⟩
      · rw [if_neg q] at gj; exact ⟨_, gj⟩
    obtain ⟨_, gi'⟩ := gi'; obtain ⟨_, gj'⟩ := gj'
    exact H.oinj _ _ _ _ _ _ _ _ _ _ hij gi' gj' ai aj

/-- What stood under a number stands there no more. -/
theorem HR.kill {φ : Ren} {h : Heap} {w0 w : World} (H : HR φ h w0 w) (id : Nat) : HR φ (h.set id .dead) w0 w := by
  refine H.same (fun j cs t ro g => ?_) fun j es g => ?_
  · rw [Heap.get_set] at g
    by_cases q : j = id
    · rw [if_pos q] at g; cases g
    · rwa [if_neg q] at g
  · rw [Heap.get_set] at g
    by_cases q : j = id
    · rw [if_pos q] at g; cases g
    · rwa [if_neg q] at g

/-- The new numbers are forgotten again. -/
theorem HR.forget {φ φ' : Ren} {h h' : Heap} {w0 w w' : World} (H : HR φ h w0 w) (H' : HR φ' h' w0 w') (hle : Le φ φ')
    (e : ∀ id cs t ro, h.get id = some (.cells cs t ro) → h'.get id = some (.cells cs t ro)) (em : ∀ id o, h.get id = some (.ob o) → h'.get id = some (.ob o)) : HR φ h w0 w' := by
  refine ⟨H'.os, H'.output, H'.tape, H'.size, H'.old, fun id b sh sz q => H'.dom _ _ _ _ (hle _ _ q), fun id cs t ro g => ?_, H.inj, fun id es g => ?_, H.oinj⟩
  · obtain ⟨b, sh, sz, c, fz, k⟩ := H.cells _ _ _ _ g
    obtain ⟨b', sh', sz', c', fz', k'⟩ := H'.cells _ _ _ _ (e _ _ _ _ g)
    have q := k'.at_
    rw [hle _ _ k.at_] at q; cases q
    exact ⟨b, sh, sz, c', fz', k.at_, k'.blk, k'.exact_, k'.size, k'.fit, fun i hi => (k.cell i hi).back hle (k'.cell i hi), k'.mine⟩
  · obtain ⟨b, sh, sz, O, k⟩ := H.obs _ _ g
    obtain ⟨b', sh', sz', O', k'⟩ := H'.obs _ _ (em _ _ g)
    have q := k'.at_
    rw [hle _ _ k.at_] at q; cases q
    exact ⟨b, sh, sz, O', k.at_, k'.blk, k'.zero, k'.mine, k.ob.back hle k'.ob⟩

end Go.Det
