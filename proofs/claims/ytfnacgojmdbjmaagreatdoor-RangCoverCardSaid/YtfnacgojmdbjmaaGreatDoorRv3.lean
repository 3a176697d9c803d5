/- Texts of a proof, joined: words of the print (those that are named here) and printed functions. -/
import Derived.Below
import Derived.Deep.Draws
import Derived.Deep.AppendLies
import Derived.Maps.AppendAt
import Derived.OwnWalk
import Derived.Laws.BytesArg
import Derived.Laws.MakeOwn
import Derived.Laws.OwnMore
import Derived.Deep.OwnRows
import Derived.Tactics
import Derived.Lib.ConvBytes
import Derived.Laws.Slices
import Derived.WalkKit
import Derived.KernelRfl
import Derived.RowKit3
import Derived.Deep.LoopGhost
import Derived.Deep.QuietTactic
import Derived.BigQuiet
import Derived.WideLaws
import Derived.Deep.DeepCutAuto
import Derived.Deep.CutBlock
import Derived.Deep.RegionHeld3
import Derived.Laws.Rows
import Derived.Lib.AppendStr
import Derived.ArgAppend
import Derived.Laws.IdiomCopy
import Derived.RowKit
import Derived.OrdersHeld
import Derived.Laws.BitsLemmas
import Derived.Test.YtfnacgojmdbjmaaGreatDoorRv2
import Derived.Shelf.Strings.Builder1
import Derived.Shelf.Strings.Builder2
import Derived.Shelf.Strings.OnBuilder
import Derived.Shelf.Small.Strs
import Derived.Shelf.Utf8.RuneCount
import Derived.Shelf.Strconv.Itoa0
import Derived.Shelf.Strconv.Itoa1
import Derived.Shelf.LaysM
import Derived.Shelf.Strconv.Itoa2
import Derived.Shelf.Strings.Search1
import Derived.Shelf.Strings.Search2
import Derived.Shelf.Strings.Search3
import Derived.Shelf.Strings.Cut
import Derived.Shelf.Strings.Count
import Derived.Shelf.Strings.Shaped
import Derived.Shelf.Strings.Split
import Derived.Shelf.Strings.SplitShaped
import Derived.Shelf.Unicode.Decode
import Derived.Shelf.Strings.RuneCount
import Derived.Shelf.Strings.Explode
import Derived.Shelf.Unicode.DecodeSlow
import Derived.Shelf.Unicode.DecodeAny
import Derived.Test.YtfnacgojmdbjmaaGreatDoorProg
import Derived.Laws.StructEq
import Derived.SizedLaws
import Derived.ChangeSlices
set_option linter.unusedSimpArgs false
set_option linter.unusedVariables false

section
/- Texts of a proof, joined: words of the print (those that are named here) and printed functions. -/
section
set_option linter.unusedVariables false
set_option linter.unusedSimpArgs false
namespace Go.Proofs.YtfnacgojmdbjmaaGreatDoorW.PrintWords
open Go.RowKit
structure Aside0 (p : Prop) : Prop where mk :: (out : p)
structure Drawn0 (w w' : World) : Prop where mk :: (out : ∃ n, w' = w.drewN n)
theorem Drawn0.refl (w : World) : Drawn0 w w := ⟨⟨0, rfl⟩⟩
theorem Drawn0.step {w w' : World} (h : Drawn0 w w') (n : Nat) : Drawn0 w (w'.drewN n) := by
  obtain ⟨m, rfl⟩ := h
  exact ⟨⟨m + n, World.drewN_drewN ..⟩⟩
theorem Drawn0.below {w w' : World} (h : Drawn0 w w') : Below w.heap.size w w' := by
  obtain ⟨n, rfl⟩ := h
  induction n with
  | zero => exact Below.refl _ _
  | succ n ih => rw [← World.drew_drewN]; exact ih.drew
def rd (xs : List Int) (i : Int) : Int := xs.getD i.toNat 0
theorem below_alloc {w W : World} (h : Below w.heap.size w W) (o : Obj) : Below w.heap.size w (W.alloc o) := h.alloc h.size o
theorem below_drew {B : Nat} {w W : World} (h : Below B w W) : Below B w W.drew := ⟨h.os, h.tape, h.output, h.size, h.block⟩
theorem pw_below_drewN {B : Nat} {w W : World} (h : Below B w W) (n : Nat) : Below B w (W.drewN n) := ⟨h.os, h.tape, h.output, h.size, h.block⟩
theorem below_then {B : Nat} {w w1 w2 : World} (h : Below B w w1) (hB : B ≤ w1.heap.size) (k : Below w1.heap.size w1 w2) : Below B w w2 :=
  h.trans ⟨k.os, k.tape, k.output, k.size, fun i hi => k.block i (Nat.lt_of_lt_of_le hi hB)⟩
theorem pw_cell_below {w w1 : World} (h : Below w.heap.size w w1) {a : Addr} {v : Value} (hc : w.cell? a = some v) : w1.cell? a = some v := (h.cell (World.block_lt_of_cell? w a hc)).trans hc
def ReadsInt (w : World) (k : IntKind) (A : Option Addr) (n : Nat) (xs : List Int) : Prop :=
  xs.length = n ∧ n ≤ 9223372036854775807 ∧ (0 < n → ∃ ad, A = some ad ∧ ∀ j, j < n → w.cell? (ad.add j) = some (.int k (xs.getD j 0)))
theorem ReadsInt.at_ {w : World} {k : IntKind} {A : Option Addr} {n : Nat} {xs : List Int} (h : ReadsInt w k A n xs) (i : Int) (h0 : 0 ≤ i) (h1 : i < n) : ∃ ad, A = some ad ∧ w.cell? (ad.add i.toNat) = some (.int k (rd xs i)) := by
  obtain ⟨ad, e, hc⟩ := h.2.2 (by omega)
  exact ⟨ad, e, hc _ (by omega)⟩
theorem own_nil (W : World) (base : Nat) (e : TypeId) (size : Nat) : W.ownsRow base e size (.slice none 0 0) 0 [] := ⟨by simp, .inl ⟨rfl, rfl⟩⟩
theorem own_base {w : World} {base : Nat} {e : TypeId} {size n : Nat} {v : Value} {xs : List Value} (h : w.ownsRow base e size v n xs) (k : Nat) (hk : v.ownBlock = some k) : base ≤ k := by
  rcases h.2 with ⟨rfl, _⟩ | ⟨g, cap, cur, rfl, hb, _⟩
  · simp [Value.ownBlock] at hk
  · have : g = k := by simpa [Value.ownBlock] using hk
    omega
theorem own_lt {w : World} {base : Nat} {e : TypeId} {size n : Nat} {v : Value} {xs : List Value} (h : w.ownsRow base e size v n xs) (k : Nat) (hk : v.ownBlock = some k) : k < w.heap.size := by
  rcases h.2 with ⟨rfl, _⟩ | ⟨g, cap, cur, rfl, hb, hh, _⟩
  · simp [Value.ownBlock] at hk
  · have : g = k := by simpa [Value.ownBlock] using hk
    subst this
    exact (Array.getElem?_eq_some_iff.1 hh).1
section
variable {P : Program} {ops : Array Oper} {rest : List Oper} {o : Oper} {a : Act} {Q : Exit → Act → World → Prop}
end
section
variable {P : Program}
end
section
variable {P : Program} {ops : Array Oper} {rest : List Oper} {o : Oper} {a : Act} {Q : Exit → Act → World → Prop}
end
def LeO {α : Type} (a b : Option α) : Prop := ∀ r, a = some r → b = some r
theorem LeO.refl {α : Type} (a : Option α) : LeO a a := fun _ h => h
theorem LeO.none {α : Type} (b : Option α) : LeO Option.none b := fun _ h => by cases h
theorem LeO.ite {α : Type} {c : Prop} [Decidable c] {a a' b b' : Option α} (h : LeO a a') (k : LeO b b') : LeO (if c then a else b) (if c then a' else b') := by
  split
  · exact h
  · exact k
theorem LeO.bind {α β : Type} {a a' : Option α} {f f' : α → Option β} (h : LeO a a') (k : ∀ x, LeO (f x) (f' x)) : LeO (a.bind f) (a'.bind f') := by
  intro r hr
  obtain ⟨x, hx, hf⟩ := Option.bind_eq_some_iff.1 hr
  exact Option.bind_eq_some_iff.2 ⟨x, h x hx, k x r hf⟩
def Reps {α : Type} (R : α → List Value → Prop) (size : Nat) (ps : List α) (cs : List Value) : Prop :=
  cs.length = ps.length * size ∧ ∀ j p, ps[j]? = some p → R p ((cs.drop (j * size)).take size)
theorem Reps.none {α : Type} (R : α → List Value → Prop) (size : Nat) : Reps R size [] [] := ⟨by simp, fun j p h => by simp at h⟩
theorem Reps.snoc {α : Type} {R : α → List Value → Prop} {size : Nat} {ps : List α} {cs c : List Value} {p : α} (h : Reps R size ps cs) (hp : R p c) (hc : c.length = size) : Reps R size (ps ++ [p]) (cs ++ c) := by
  refine ⟨by rw [List.length_append, h.1, hc, List.length_append, List.length_singleton, Nat.add_mul, Nat.one_mul], fun j q hq => ?_⟩
  rcases Nat.lt_or_ge j ps.length with hj | hj
  · rw [List.getElem?_append_left hj] at hq
    have h1 : j * size + size ≤ cs.length := by rw [h.1, ← Nat.succ_mul]; exact Nat.mul_le_mul_right _ hj
    have h2 := h.2 j q hq
    rw [List.drop_append_of_le_length (by omega), List.take_append_of_le_length (by rw [List.length_drop]; omega)]
    exact h2
  · have hj' : j = ps.length := by
      have := (List.getElem?_eq_some_iff.1 hq).1
      rw [List.length_append, List.length_singleton] at this
      omega
    subst hj'
    have hq' : p = q := by simpa using hq
    subst hq'
    rw [← h.1, List.drop_left, ← hc, List.take_length]
    exact hp
theorem Reps.imp_ {α : Type} {R R' : α → List Value → Prop} {size : Nat} {ps : List α} {cs : List Value} (h : Reps R size ps cs) (hR : ∀ p c, R p c → R' p c) : Reps R' size ps cs := ⟨h.1, fun j p hj => hR _ _ (h.2 j p hj)⟩
def ReadsRow {α : Type} (R : α → List Value → Prop) (size : Nat) (w : World) (A : Option Addr) (n : Nat) (ps : List α) : Prop :=
  ps.length = n ∧ n ≤ 9223372036854775807 ∧ (0 < n → ∃ ad, A = some ad ∧ ∀ j p, ps[j]? = some p → ∃ c, c.length = size ∧ R p c ∧ ∀ i u, c[i]? = some u → w.cell? (ad.add (j * size + i)) = some u)
theorem ReadsRow.imp_ {α : Type} {R R' : α → List Value → Prop} {size : Nat} {w w1 : World} {A : Option Addr} {n : Nat} {ps : List α} (h : ReadsRow R size w A n ps) (hb : Below w.heap.size w w1) (hR : ∀ p c, R p c → R' p c) : ReadsRow R' size w1 A n ps :=
  ⟨h.1, h.2.1, fun hn => by
    obtain ⟨ad, e, hc⟩ := h.2.2 hn
    refine ⟨ad, e, fun j p hj => ?_⟩
    obtain ⟨c, hs, hr, hcell⟩ := hc j p hj
    exact ⟨c, hs, hR _ _ hr, fun i u hu => pw_cell_below hb (hcell i u hu)⟩⟩
theorem own_reads_row {α : Type} {R : α → List Value → Prop} {w : World} {base n size : Nat} {e : TypeId} {v : Value} {ps : List α} {cs : List Value} (h : w.ownsRow base e size v n cs) (hR : Reps R size ps cs) (hn : ps.length = n) :
    ∃ A c, v = .slice A n c ∧ ReadsRow R size w A n ps := by
  rcases Nat.eq_zero_or_pos n with h0 | h0
  · rcases h.2 with ⟨rfl, rfl⟩ | ⟨g, cap, cur, rfl, _⟩
    · exact ⟨none, 0, rfl, hn, by omega, fun hp => absurd hp (by omega)⟩
    · exact ⟨_, cap, rfl, hn, by omega, fun hp => absurd hp (by omega)⟩
  · obtain ⟨g, cap, rfl, _, _⟩ := h.form h0
    have hm : n ≤ 9223372036854775807 := by
      rcases h.2 with ⟨_, h1⟩ | ⟨g', cap', cur, he, _, _, h1, h2, _⟩
      · omega
      · simp only [maxLen] at h2
        omega
    refine ⟨_, cap, rfl, hn, hm, fun _ => ⟨_, rfl, fun j p hj => ⟨(cs.drop (j * size)).take size, ?_, hR.2 j p hj, fun i u hu => ?_⟩⟩⟩
    · have hjl := (List.getElem?_eq_some_iff.1 hj).1
      have h1 : j * size + size ≤ cs.length := by rw [hR.1, ← Nat.succ_mul]; exact Nat.mul_le_mul_right _ hjl
      rw [List.length_take, List.length_drop]
      omega
    · refine h.cells (g := g) rfl _ u ?_
      rw [List.getElem?_take] at hu
      split at hu
      · rw [List.getElem?_drop] at hu
        exact hu
      · cases hu
section
variable {P : Program} {ops : Array Oper} {rest : List Oper} {o : Oper} {a : Act} {Q : Exit → Act → World → Prop}
theorem print_append_cells {w0 W : World} (base : Nat) (hgd : o.guard = none) (s x : Operand) (t e : TypeId) (z : Value) (size bytes : Nat)
    (ho : o.op = .call { callee := .builtin .append, args := #[s, x], argTypes := #[t, t] })
    (ht : P.underlying t = some (.slice e)) (hinfo : (P.info? e).map (fun i => (i.zero, i.size, i.bytes)) = some (some z, size, bytes)) (hz : z.cells.size = size) (hs0 : 0 < size) (hb0 : 0 < bytes)
    (v : Value) (n : Nat) (xs ys : List Value) (hs : a.eval s = v) (hx : a.eval x = .slice (some ⟨W.heap.size, 0, none⟩) 1 1) (hys : ys.length = size) (h1 : ∀ u ∈ ys, u.oneCell' = true)
    (HO : W.ownsRow base e size v n xs) (HB : Below base w0 W) (hbase : base ≤ W.heap.size) (hl : (n + 1) * bytes ≤ 140737488355328)
    (h : ∀ v1 w1, w1.ownsRow base e size v1 (n + 1) (xs ++ ys) → Below base w0 w1 → W.grownBy w1 v.ownBlock → (v1.ownBlock = v.ownBlock ∨ ∃ b, v1.ownBlock = some b ∧ W.heap.size ≤ b) → wpList P ops Q rest (a.put o.dst v1) w1) :
    wpList P ops Q (o :: rest) a (W.alloc (.cells ys.toArray e)) := by
  obtain ⟨i0, hi, hzz⟩ := Option.map_eq_some_iff.1 hinfo
  simp only [Prod.mk.injEq] at hzz
  obtain ⟨hz0, hz1, hz2⟩ := hzz
  have hlen : n + 1 ≤ 140737488355328 := Nat.le_trans (Nat.le_mul_of_pos_right _ hb0) hl
  refine wpList_append_own_at (W.alloc (.cells ys.toArray e)) hgd s x t ho base e i0 z size bytes ht hi hz0 hz1 hz2 hz hs0 v n xs hs (HO.alloc _) ⟨W.heap.size, 0, none⟩ 1 1 ys hx (by rw [hys]; simp)
    (by simpa using World.news_of_block (cs := ys.toArray) (t := e) (fr := (0, 0)) (heap_alloc_new W (.cells ys.toArray e))) h1 (by simp only [maxLen]; omega) hl (by simp; omega) ?_
  intro v1 w1 hown hg _ hat
  refine h v1 w1 hown ((HB.alloc hbase _).grown hg (by simp; omega) (own_base HO)) (World.grownBy.trans (World.grownBy_alloc W _ _) hg) ?_
  rcases hat with hat | hat
  · exact .inl hat
  · exact .inr ⟨_, hat, by simp⟩
end
theorem own_ne {w : World} {base : Nat} {e t : TypeId} {size n g : Nat} {v : Value} {xs : List Value} {cs : Array Value} (h : w.ownsRow base e size v n xs) (hg : w.heap[g]? = some (.cells cs t (0, 0))) (hne : e ≠ t) : some g ≠ v.ownBlock := by
  rcases h.2 with ⟨rfl, _⟩ | ⟨g', cap, cur, rfl, _, hh, _⟩
  · simp [Value.ownBlock]
  · intro he
    have : g = g' := by simpa [Value.ownBlock] using he
    subst this
    rw [hg] at hh
    injection hh with hh
    injection hh with _ ht
    exact hne ht.symm
theorem blk_set {w : World} {g : Nat} {t : TypeId} {cs : Array Value} (h : w.heap[g]? = some (.cells cs t (0, 0))) (i : Nat) (u : Value) : (w.setCell ⟨g, i, none⟩ u).heap[g]? = some (.cells (cs.setIfInBounds i u) t (0, 0)) := by
  simp [World.setCell, Array.getElem?_modify, h]
theorem blk_far {w : World} {g : Nat} {t : TypeId} {cs : Array Value} (h : w.heap[g]? = some (.cells cs t (0, 0))) {p : Addr} (hp : g ≠ p.block) (u : Value) : (w.setCell p u).heap[g]? = some (.cells cs t (0, 0)) := (Below.heap_setCell w p u g hp).trans h
theorem blk_lt {w : World} {g : Nat} {o : Obj} (h : w.heap[g]? = some o) : g < w.heap.size := (Array.getElem?_eq_some_iff.1 h).1
theorem blk_cell {w : World} {g : Nat} {t : TypeId} {cs : Array Value} (h : w.heap[g]? = some (.cells cs t (0, 0))) (i : Nat) : w.cell? ⟨g, i, none⟩ = cs[i]? := cell_of_row w g i cs t (0, 0) h
theorem blk_frozen {w : World} {g : Nat} {t : TypeId} {cs : Array Value} (h : w.heap[g]? = some (.cells cs t (0, 0))) (i : Nat) : w.frozen? ⟨g, i, none⟩ = false := by simp [World.frozen?, h]
theorem blk_grown {w w1 : World} {g : Nat} {o : Obj} {row : Option Nat} (h : w.heap[g]? = some o) (hg : w.grownBy w1 row) (hne : some g ≠ row) : w1.heap[g]? = some o := (hg.block g (blk_lt h) hne).trans h
def KeepBut (w w' : World) (g : Nat) (row : Option Nat) : Prop := w.heap.size ≤ w'.heap.size ∧ ∀ i, i < w.heap.size → i ≠ g → some i ≠ row → w'.heap[i]? = w.heap[i]?
theorem KeepBut.trans {w w1 w2 : World} {g : Nat} {row row1 : Option Nat} (h : KeepBut w w1 g row) (k : KeepBut w1 w2 g row1) (hr : row1 = row ∨ ∃ b, row1 = some b ∧ w.heap.size ≤ b) : KeepBut w w2 g row :=
  ⟨Nat.le_trans h.1 k.1, fun i hi hg hn => by
    refine (k.2 i (Nat.lt_of_lt_of_le hi h.1) hg ?_).trans (h.2 i hi hg hn)
    rcases hr with rfl | ⟨b, rfl, hb⟩
    · exact hn
    · intro e
      injection e with e
      omega⟩
section
variable {P : Program} {ops : Array Oper} {o : Oper} {a : Act} {Q : Exit → Act → World → Prop} {K : Act → World → Prop}
end
theorem own_weaken {w : World} {base base' : Nat} {e : TypeId} {size n : Nat} {v : Value} {xs : List Value} (h : w.ownsRow base e size v n xs) (hb : base' ≤ base) : w.ownsRow base' e size v n xs := by
  obtain ⟨h1, h2⟩ := h
  refine ⟨h1, ?_⟩
  rcases h2 with h2 | ⟨g, cap, cur, rfl, hg, r⟩
  · exact .inl h2
  · exact .inr ⟨g, cap, cur, rfl, Nat.le_trans hb hg, r⟩
section
variable {α : Type} {enc : α → Value} {d : α}
def rdOf (d : α) (xs : List α) (i : Int) : α := xs.getD i.toNat d
def ReadsOf (enc : α → Value) (d : α) (w : World) (A : Option Addr) (n : Nat) (xs : List α) : Prop :=
  xs.length = n ∧ n ≤ 9223372036854775807 ∧ (0 < n → ∃ ad, A = some ad ∧ ∀ j, j < n → w.cell? (ad.add j) = some (enc (xs.getD j d)))
theorem ReadsOf.at_ {w : World} {A : Option Addr} {n : Nat} {xs : List α} (h : ReadsOf enc d w A n xs) (i : Int) (h0 : 0 ≤ i) (h1 : i < n) : ∃ ad, A = some ad ∧ w.cell? (ad.add i.toNat) = some (enc (rdOf d xs i)) := by
  obtain ⟨ad, e, hc⟩ := h.2.2 (by omega)
  exact ⟨ad, e, hc _ (by omega)⟩
end
section
variable {α : Type} {P : Program} {ops : Array Oper} {rest : List Oper} {o : Oper} {a : Act} {Q : Exit → Act → World → Prop}
end
theorem blk_alloc {w : World} {g : Nat} {o : Obj} (h : w.heap[g]? = some o) (o' : Obj) : (w.alloc o').heap[g]? = some o := (Below.heap_alloc w o' g (blk_lt h)).trans h
theorem blk_drew {w : World} {g : Nat} {o : Obj} (h : w.heap[g]? = some o) : w.drew.heap[g]? = some o := h
theorem blk_drewN {w : World} {g : Nat} {o : Obj} (h : w.heap[g]? = some o) (n : Nat) : (w.drewN n).heap[g]? = some o := h
theorem blk_below {w w1 : World} {g : Nat} {o : Obj} (h : w.heap[g]? = some o) (hb : Below w.heap.size w w1) : w1.heap[g]? = some o := (hb.block g (blk_lt h)).trans h
theorem blk_new (w : World) (o : Obj) : (w.alloc o).heap[w.heap.size]? = some o := heap_alloc_new w o
section
variable {P : Program}
end
theorem own_le {w : World} {base n m c size : Nat} {e : TypeId} {A : Option Addr} {xs : List Value} (h : w.ownsRow base e size (.slice A m c) n xs) : m ≤ c := by
  rcases h.2 with ⟨he, _⟩ | ⟨g, cap, cur, he, _, _, hnc, _⟩
  · injection he with _ h2 h3
    omega
  · injection he with _ h2 h3
    omega
def OwnRow {α : Type} (R : α → List Value → Prop) (e : TypeId) (size : Nat) (w : World) (base : Nat) (v : Value) (ps : List α) : Prop :=
  ∃ inner, w.ownsRow base e size v ps.length inner ∧ Reps R size ps inner
section
variable {α : Type} {R R' : α → List Value → Prop} {e : TypeId} {size : Nat} {w w1 : World} {base : Nat} {v : Value} {ps : List α}
theorem OwnRow.none_ (R : α → List Value → Prop) (e : TypeId) (size : Nat) (w : World) (base : Nat) : OwnRow R e size w base (.slice none 0 0) [] := ⟨[], own_nil _ _ _ _, Reps.none _ _⟩
theorem OwnRow.imp_ (h : OwnRow R e size w base v ps) (hR : ∀ p c, R p c → R' p c) : OwnRow R' e size w base v ps := by
  obtain ⟨inner, ho, hr⟩ := h
  exact ⟨inner, ho, hr.imp_ hR⟩
theorem OwnRow.reads (h : OwnRow R e size w base v ps) : ∃ A c, v = .slice A ps.length c ∧ ps.length ≤ c ∧ ReadsRow R size w A ps.length ps := by
  obtain ⟨inner, ho, hr⟩ := h
  obtain ⟨A, c, rfl, hrow⟩ := own_reads_row ho hr rfl
  exact ⟨A, c, rfl, own_le ho, hrow⟩
theorem OwnRow.ne_block (h : OwnRow R e size w base v ps) {g : Nat} {t : TypeId} {cells : Array Value} (hb : w.heap[g]? = some (.cells cells t (0, 0))) (ht : e ≠ t) : some g ≠ v.ownBlock := by
  obtain ⟨inner, ho, hr⟩ := h
  exact own_ne ho hb ht
theorem OwnRow.lit (W : World) (base : Nat) {inner : List Value} (hr : Reps R size ps inner) (hb : base ≤ W.heap.size) (hm : ps.length ≤ 9223372036854775807) :
    OwnRow R e size (W.alloc (.cells inner.toArray e)) base (.slice (some ⟨W.heap.size, 0, none⟩) ps.length ps.length) ps := by
  have h := World.ownsRow_lit (base := base) (e := e) (size := size) W inner.toArray ps.length hb (by simpa [maxLen] using hm) (by simpa using hr.1)
  exact ⟨inner, by simpa using h, hr⟩
end
section
variable {P : Program} {ops : Array Oper} {rest : List Oper} {o : Oper} {a : Act} {Q : Exit → Act → World → Prop} {α : Type} {R : α → List Value → Prop}
end
section
variable {P : Program} {ops : Array Oper} {o : Oper} {a : Act} {Q : Exit → Act → World → Prop} {K : Act → World → Prop} {α : Type} {R : α → List Value → Prop}
end
section
variable {α : Type} {P : Program}
end
section
variable {P : Program} {ops : Array Oper} {rest : List Oper} {o : Oper} {a : Act} {Q : Exit → Act → World → Prop}
end
structure Kd (α : Type) where
  sz : Nat
  E : List Nat
  K : World → α → List Value → Prop
  M : World → Nat → (Nat → Prop) → α → List Value → Prop
  K_len : ∀ {w x cs}, K w x cs → cs.length = sz
  K_one : ∀ {w x cs}, K w x cs → ∀ u ∈ cs, u.oneCell' = true
  K_below : ∀ {w w1 : World} {x cs}, Below w.heap.size w w1 → K w x cs → K w1 x cs
  K_of_M : ∀ {w base ok x cs}, M w base ok x cs → K w x cs
  M_mono : ∀ {w base ok ok' x cs}, (∀ k, ok k → ok' k) → M w base ok x cs → M w base ok' x cs
  M_bound : ∀ {w : World} {base ok x cs}, M w base ok x cs → M w base (fun k => ok k ∧ base ≤ k ∧ k < w.heap.size ∧ ∃ q, q ∈ E ∧ ∃ cells, w.heap[k]? = some (.cells cells q (0, 0))) x cs
  M_move : ∀ {w w1 : World} {base ok x cs}, (∀ k, ok k → w1.heap[k]? = w.heap[k]?) → M w base ok x cs → M w1 base ok x cs
  M_lower : ∀ {w base base' ok x cs}, base' ≤ base → M w base ok x cs → M w base' ok x cs
theorem own_move {w w1 : World} {base : Nat} {e : TypeId} {size n : Nat} {v : Value} {xs : List Value} (h : w.ownsRow base e size v n xs) (hm : ∀ k, v.ownBlock = some k → w1.heap[k]? = w.heap[k]?) : w1.ownsRow base e size v n xs := by
  obtain ⟨h1, h2⟩ := h
  refine ⟨h1, ?_⟩
  rcases h2 with h2 | ⟨g, cap, cur, rfl, hg, hh, r⟩
  · exact .inl h2
  · exact .inr ⟨g, cap, cur, rfl, hg, (hm g (by simp [Value.ownBlock])).trans hh, r⟩
theorem own_typed {w : World} {base : Nat} {e : TypeId} {size n : Nat} {v : Value} {xs : List Value} (h : w.ownsRow base e size v n xs) (k : Nat) (hk : v.ownBlock = some k) : ∃ cells, w.heap[k]? = some (.cells cells e (0, 0)) := by
  rcases h.2 with ⟨rfl, _⟩ | ⟨g, cap, cur, rfl, hg, hh, r⟩
  · simp [Value.ownBlock] at hk
  · have : g = k := by simpa [Value.ownBlock] using hk
    subst this
    exact ⟨cur, hh⟩
namespace Kd
def C {α : Type} (d : Kd α) (w : World) (A : Option Addr) (n : Nat) (xs : List α) : Prop := ReadsRow (d.K w) d.sz w A n xs
def R {α : Type} (d : Kd α) (e : Nat) (w : World) (base : Nat) (ok : Nat → Prop) (v : Value) (xs : List α) : Prop :=
  (∀ k, v.ownBlock = some k → ok k) ∧ OwnRow (d.M w base (fun k => ok k ∧ some k ≠ v.ownBlock)) e d.sz w base v xs
section
variable {α : Type} {d : Kd α} {e : Nat} {w w1 : World} {base : Nat} {ok ok' : Nat → Prop} {v : Value} {xs : List α}
theorem C_below {A : Option Addr} {n : Nat} (h : d.C w A n xs) (hb : Below w.heap.size w w1) : d.C w1 A n xs := ReadsRow.imp_ h hb (fun _ _ hp => d.K_below hb hp)
theorem R_nil (d : Kd α) (e : Nat) (w : World) (base : Nat) (ok : Nat → Prop) : d.R e w base ok (.slice none 0 0) [] := ⟨fun k hk => by simp [Value.ownBlock] at hk, OwnRow.none_ _ _ _ _ _⟩
theorem R_mono (h : d.R e w base ok v xs) (hok : ∀ k, ok k → ok' k) : d.R e w base ok' v xs := ⟨fun k hk => hok k (h.1 k hk), h.2.imp_ (fun _ _ hp => d.M_mono (fun k hk => ⟨hok k hk.1, hk.2⟩) hp)⟩
theorem R_bound (h : d.R e w base ok v xs) : d.R e w base (fun k => ok k ∧ base ≤ k ∧ k < w.heap.size ∧ ∃ q, q ∈ e :: d.E ∧ ∃ cells, w.heap[k]? = some (.cells cells q (0, 0))) v xs := by
  obtain ⟨h0, inner, ho, hr⟩ := h
  refine ⟨fun k hk => ?_, inner, ho, hr.imp_ (fun _ _ hp => d.M_mono (fun k hk => ?_) (d.M_bound hp))⟩
  · obtain ⟨cells, hc⟩ := own_typed ho k hk
    exact ⟨h0 k hk, own_base ho k hk, own_lt ho k hk, e, List.mem_cons_self, cells, hc⟩
  · obtain ⟨⟨h1, h2⟩, h3, h4, q, hq, hc⟩ := hk
    exact ⟨⟨h1, h3, h4, q, List.mem_cons_of_mem _ hq, hc⟩, h2⟩
theorem R_move (h : d.R e w base ok v xs) (hm : ∀ k, ok k → w1.heap[k]? = w.heap[k]?) : d.R e w1 base ok v xs := by
  obtain ⟨h0, inner, ho, hr⟩ := h
  exact ⟨h0, inner, own_move ho (fun k hk => hm k (h0 k hk)), hr.imp_ (fun _ _ hp => d.M_move (fun k hk => hm k hk.1) hp)⟩
theorem R_lower {base' : Nat} (h : d.R e w base ok v xs) (hb : base' ≤ base) : d.R e w base' ok v xs := by
  obtain ⟨h0, inner, ho, hr⟩ := h
  exact ⟨h0, inner, own_weaken ho hb, hr.imp_ (fun _ _ hp => d.M_lower hb hp)⟩
theorem R_step (h : d.R e w base ok v xs) (hm : ∀ k, ok k → k < w.heap.size → w1.heap[k]? = w.heap[k]?) : d.R e w1 base ok v xs :=
  R_mono (R_move (R_bound h) (fun k hk => hm k hk.1 hk.2.2.1)) (fun _ hk => hk.1)
theorem M_step {x : α} {cs : List Value} (h : d.M w base ok x cs) (hm : ∀ k, ok k → k < w.heap.size → w1.heap[k]? = w.heap[k]?) : d.M w1 base ok x cs :=
  d.M_mono (fun _ hk => hk.1) (d.M_move (fun k hk => hm k hk.1 hk.2.2.1) (d.M_bound h))
theorem R_below (h : d.R e w base ok v xs) (hb : Below w.heap.size w w1) : d.R e w1 base ok v xs := R_step h (fun k _ hk => hb.block k hk)
theorem R_far (h : d.R e w base ok v xs) {p : Addr} (hok : ∀ k, ok k → k ≠ p.block) (u : Value) : d.R e (w.setCell p u) base ok v xs := R_step h (fun k ho _ => Below.heap_setCell w p u k (hok k ho))
theorem R_types (h : d.R e w base ok v xs) {g t : Nat} {cells : Array Value} (hb : w.heap[g]? = some (.cells cells t (0, 0))) (ht : ∀ q, q ∈ e :: d.E → q ≠ t) : d.R e w base (fun k => ok k ∧ k ≠ g) v xs :=
  R_mono (R_bound h) (fun k hk => ⟨hk.1, by
    obtain ⟨_, _, _, q, hq, cells', hc⟩ := hk
    rintro rfl
    rw [hc] at hb
    injection hb with hb
    injection hb with _ hb
    exact ht q hq hb⟩)
theorem R_reads (h : d.R e w base ok v xs) : ∃ A c, v = .slice A xs.length c ∧ xs.length ≤ c ∧ d.C w A xs.length xs := by
  obtain ⟨A, c, he, hl, hr⟩ := OwnRow.reads h.2
  exact ⟨A, c, he, hl, hr.imp_ (Below.refl _ _) (fun _ _ hp => d.K_of_M hp)⟩
theorem R_slice (h : d.R e w base ok v xs) : ∃ A c, v = .slice A xs.length c := by
  obtain ⟨A, c, he, _⟩ := R_reads h
  exact ⟨A, c, he⟩
theorem R_own (h : d.R e w base ok v xs) : ∃ inner, w.ownsRow base e d.sz v xs.length inner := by
  obtain ⟨_, inner, ho, _⟩ := h
  exact ⟨inner, ho⟩
theorem R_ne (h : d.R e w base ok v xs) {g t : Nat} {cells : Array Value} (hb : w.heap[g]? = some (.cells cells t (0, 0))) (ht : e ≠ t) : some g ≠ v.ownBlock := OwnRow.ne_block h.2 hb ht
end
def scalar {α : Type} (enc : α → Value) (h1 : ∀ x, (enc x).oneCell' = true) : Kd α where
  sz := 1
  E := []
  K := fun _ x cs => cs = [enc x]
  M := fun _ _ _ x cs => cs = [enc x]
  K_len := fun h => by rw [h]; rfl
  K_one := fun h u hu => by
    rw [h] at hu
    rw [List.mem_singleton.1 hu]
    exact h1 _
  K_below := fun _ h => h
  K_of_M := fun h => h
  M_mono := fun _ h => h
  M_bound := fun h => h
  M_move := fun _ h => h
  M_lower := fun _ h => h
def int (k : IntKind) : Kd Int := scalar (Value.int k) (fun _ => rfl)
def bool : Kd Bool := scalar Value.bool (fun _ => rfl)
def string : Kd ByteArray := scalar Value.string (fun _ => rfl)
def slice {α : Type} (e : Nat) (d : Kd α) : Kd (List α) where
  sz := 1
  E := e :: d.E
  K := fun w xs cs => ∃ A c, cs = [.slice A xs.length c] ∧ xs.length ≤ c ∧ d.C w A xs.length xs
  M := fun w base ok xs cs => ∃ v, cs = [v] ∧ d.R e w base ok v xs
  K_len := by
    rintro w x cs ⟨A, c, rfl, _⟩
    rfl
  K_one := by
    rintro w x cs ⟨A, c, rfl, _⟩ u hu
    rw [List.mem_singleton.1 hu]
    rfl
  K_below := by
    rintro w w1 x cs hb ⟨A, c, rfl, hl, hr⟩
    exact ⟨A, c, rfl, hl, C_below hr hb⟩
  K_of_M := by
    rintro w base ok x cs ⟨v, rfl, h⟩
    obtain ⟨A, c, rfl, hl, hr⟩ := R_reads h
    exact ⟨A, c, rfl, hl, hr⟩
  M_mono := by
    rintro w base ok ok' x cs hok ⟨v, rfl, h⟩
    exact ⟨v, rfl, R_mono h hok⟩
  M_bound := by
    rintro w base ok x cs ⟨v, rfl, h⟩
    exact ⟨v, rfl, R_bound h⟩
  M_move := by
    rintro w w1 base ok x cs hm ⟨v, rfl, h⟩
    exact ⟨v, rfl, R_move h hm⟩
  M_lower := by
    rintro w base base' ok x cs hb ⟨v, rfl, h⟩
    exact ⟨v, rfl, R_lower h hb⟩
def pair {α β : Type} (a : Kd α) (b : Kd β) : Kd (α × β) where
  sz := a.sz + b.sz
  E := a.E ++ b.E
  K := fun w x cs => ∃ c0 c1, cs = c0 ++ c1 ∧ a.K w x.1 c0 ∧ b.K w x.2 c1
  M := fun w base ok x cs => ∃ c0 c1, cs = c0 ++ c1 ∧ a.M w base ok x.1 c0 ∧ b.M w base ok x.2 c1
  K_len := by
    rintro w x cs ⟨c0, c1, rfl, h0, h1⟩
    rw [List.length_append, a.K_len h0, b.K_len h1]
  K_one := by
    rintro w x cs ⟨c0, c1, rfl, h0, h1⟩ u hu
    rcases List.mem_append.1 hu with hu | hu
    · exact a.K_one h0 u hu
    · exact b.K_one h1 u hu
  K_below := by
    rintro w w1 x cs hb ⟨c0, c1, rfl, h0, h1⟩
    exact ⟨c0, c1, rfl, a.K_below hb h0, b.K_below hb h1⟩
  K_of_M := by
    rintro w base ok x cs ⟨c0, c1, rfl, h0, h1⟩
    exact ⟨c0, c1, rfl, a.K_of_M h0, b.K_of_M h1⟩
  M_mono := by
    rintro w base ok ok' x cs hok ⟨c0, c1, rfl, h0, h1⟩
    exact ⟨c0, c1, rfl, a.M_mono hok h0, b.M_mono hok h1⟩
  M_bound := by
    rintro w base ok x cs ⟨c0, c1, rfl, h0, h1⟩
    refine ⟨c0, c1, rfl, a.M_mono ?_ (a.M_bound h0), b.M_mono ?_ (b.M_bound h1)⟩
    · rintro k ⟨h2, h3, h4, q, hq, hc⟩
      exact ⟨h2, h3, h4, q, List.mem_append_left _ hq, hc⟩
    · rintro k ⟨h2, h3, h4, q, hq, hc⟩
      exact ⟨h2, h3, h4, q, List.mem_append_right _ hq, hc⟩
  M_move := by
    rintro w w1 base ok x cs hm ⟨c0, c1, rfl, h0, h1⟩
    exact ⟨c0, c1, rfl, a.M_move hm h0, b.M_move hm h1⟩
  M_lower := by
    rintro w base base' ok x cs hb ⟨c0, c1, rfl, h0, h1⟩
    exact ⟨c0, c1, rfl, a.M_lower hb h0, b.M_lower hb h1⟩
def iso {α β : Type} (d : Kd α) (f : β → α) : Kd β where
  sz := d.sz
  E := d.E
  K := fun w x cs => d.K w (f x) cs
  M := fun w base ok x cs => d.M w base ok (f x) cs
  K_len := d.K_len
  K_one := d.K_one
  K_below := d.K_below
  K_of_M := d.K_of_M
  M_mono := d.M_mono
  M_bound := d.M_bound
  M_move := d.M_move
  M_lower := d.M_lower
def bot {α : Type} (sz : Nat) (E : List Nat) : Kd α where
  sz := sz
  E := E
  K := fun _ _ _ => False
  M := fun _ _ _ _ _ => False
  K_len := fun h => h.elim
  K_one := fun h => h.elim
  K_below := fun _ h => h
  K_of_M := fun h => h
  M_mono := fun _ h => h
  M_bound := fun h => h
  M_move := fun _ h => h
  M_lower := fun _ h => h
def upto {α : Type} (F : Kd α → Kd α) (sz : Nat) (E : List Nat) : Nat → Kd α
  | 0 => bot sz E
  | n + 1 => F (upto F sz E n)
theorem R_appended {α : Type} {d : Kd α} {e base : Nat} {ok okp : Nat → Prop} {W w1 : World} {v v1 : Value} {xs : List α} {p : α} {inner cs : List Value} (h0 : ∀ k, v.ownBlock = some k → ok k) (hr : Reps (d.M W base (fun k => ok k ∧ some k ≠ v.ownBlock)) d.sz xs inner) (hp : d.M W base okp p cs) (hokp : ∀ k, okp k → ok k ∧ some k ≠ v.ownBlock) (hfresh : ∀ k, W.heap.size ≤ k → ok k)
    (hown : w1.ownsRow base e d.sz v1 (xs.length + 1) (inner ++ cs)) (hg : W.grownBy w1 v.ownBlock) (hat : v1.ownBlock = v.ownBlock ∨ ∃ b, v1.ownBlock = some b ∧ W.heap.size ≤ b) : d.R e w1 base ok v1 (xs ++ [p]) := by
  have hne : ∀ k, some k ≠ v.ownBlock → k < W.heap.size → some k ≠ v1.ownBlock := by
    intro k hk hlt
    rcases hat with hat | ⟨b, hb, hle⟩
    · rw [hat]; exact hk
    · rw [hb]
      intro he
      injection he with he
      omega
  have step : ∀ {q : α} {c : List Value} {o : Nat → Prop}, d.M W base o q c → (∀ k, o k → ok k ∧ some k ≠ v.ownBlock) → d.M w1 base (fun k => ok k ∧ some k ≠ v1.ownBlock) q c := by
    intro q c o hq ho
    have h1 := d.M_move (w1 := w1) (fun k hk => hg.block k hk.2.2.1 (ho k hk.1).2) (d.M_bound hq)
    exact d.M_mono (fun k hk => ⟨(ho k hk.1).1, hne k (ho k hk.1).2 hk.2.2.1⟩) h1
  refine ⟨fun k hk => ?_, inner ++ cs, by rw [List.length_append, List.length_singleton]; exact hown, ?_⟩
  · rcases hat with hat | ⟨b, hb, hle⟩
    · exact h0 k (hat ▸ hk)
    · rw [hb] at hk
      injection hk with hk
      exact hfresh k (by omega)
  · exact (hr.imp_ (fun _ _ hq => step hq (fun _ hk => hk))).snoc (step hp hokp) (d.K_len (d.K_of_M hp))
section
variable {P : Program} {ops : Array Oper} {rest : List Oper} {o : Oper} {a : Act} {Q : Exit → Act → World → Prop} {α : Type}
theorem R_append (d : Kd α) {w0 W : World} (base : Nat) (hgd : o.guard = none) (s x : Operand) (t e : TypeId) (z : Value) (bytes : Nat)
    (ho : o.op = .call { callee := .builtin .append, args := #[s, x], argTypes := #[t, t] })
    (ht : P.underlying t = some (.slice e)) (hinfo : (P.info? e).map (fun i => (i.zero, i.size, i.bytes)) = some (some z, d.sz, bytes)) (hz : z.cells.size = d.sz) (hs0 : 0 < d.sz) (hb0 : 0 < bytes)
    (v : Value) (xs : List α) (p : α) (cs : List Value) (ok okp : Nat → Prop) (hs : a.eval s = v) (hx : a.eval x = .slice (some ⟨W.heap.size, 0, none⟩) 1 1) (hp : d.M W base okp p cs) (hokp : ∀ k, okp k → ok k ∧ some k ≠ v.ownBlock) (hfresh : ∀ k, W.heap.size ≤ k → ok k)
    (HO : d.R e W base ok v xs) (HB : Below base w0 W) (hbase : base ≤ W.heap.size) (hl : (xs.length + 1) * bytes ≤ 140737488355328)
    (h : ∀ v1 w1, d.R e w1 base ok v1 (xs ++ [p]) → Below base w0 w1 → W.grownBy w1 v.ownBlock → (v1.ownBlock = v.ownBlock ∨ ∃ b, v1.ownBlock = some b ∧ W.heap.size ≤ b) → wpList P ops Q rest (a.put o.dst v1) w1) :
    wpList P ops Q (o :: rest) a (W.alloc (.cells cs.toArray e)) := by
  obtain ⟨h0, inner, hown, hr⟩ := HO
  refine print_append_cells base hgd s x t e z d.sz bytes ho ht hinfo hz hs0 hb0 v xs.length inner cs hs hx (d.K_len (d.K_of_M hp)) (d.K_one (d.K_of_M hp)) hown HB hbase hl ?_
  intro v1 w1 hown1 hb1 hg1 hat1
  exact h v1 w1 (R_appended h0 hr hp hokp hfresh hown1 hg1 hat1) hb1 hg1 hat1
end
section
variable {P : Program} {ops : Array Oper} {o : Oper} {a : Act} {Q : Exit → Act → World → Prop} {Kc : Act → World → Prop} {α : Type}
end
end Kd
namespace Kd
section
variable {α : Type} {F : Kd α → Kd α} {sz : Nat} {E : List Nat} {hs : ∀ n, (upto F sz E n).sz = sz} {hE : ∀ n q, q ∈ (upto F sz E n).E → q ∈ E}
end
end Kd
namespace Kd
end Kd
namespace Kd
section
variable {α β : Type} {d : Kd α} {d' : Kd β} {e e' : Nat} {w w1 W : World} {base b b' : Nat} {ok ok' okv oku : Nat → Prop} {v u : Value} {xs : List α} {ys : List β}
theorem R_alloc (h : d.R e w base ok v xs) (o : Obj) : d.R e (w.alloc o) base ok v xs := R_below h (below_alloc (Below.refl _ _) o)
theorem R_drew (h : d.R e w base ok v xs) : d.R e w.drew base ok v xs := R_below h (below_drew (Below.refl _ _))
theorem R_drewN (h : d.R e w base ok v xs) (m : Nat) : d.R e (w.drewN m) base ok v xs := R_below h (pw_below_drewN (Below.refl _ _) m)
theorem C_nil (d : Kd α) (w : World) : d.C w none ([] : List α).length [] := ⟨rfl, by simp, fun h => absurd h (Nat.lt_irrefl 0)⟩
theorem R_reads' {A : Option Addr} {n c : Nat} (h : d.R e w base ok (.slice A n c) xs) : n = xs.length ∧ n ≤ c ∧ d.C w A xs.length xs := by
  obtain ⟨A', c', he, hl, hr⟩ := R_reads h
  injection he with h1 h2 h3
  subst h1
  exact ⟨h2, by omega, hr⟩
theorem R_lt (h : d.R e w base ok v xs) : ∀ k, v.ownBlock = some k → k < w.heap.size := by
  obtain ⟨inner, ho⟩ := R_own h
  exact own_lt ho
theorem R_base (h : d.R e w base ok v xs) : ∀ k, v.ownBlock = some k → base ≤ k := by
  obtain ⟨inner, ho⟩ := R_own h
  exact own_base ho
theorem R_away (h : d.R e w base ok v xs) {g : Nat} (hok : ∀ k, ok k → k ≠ g) : some g ≠ v.ownBlock := fun e => hok g (h.1 g e.symm) rfl
end
section
variable {w W : World} {A : Option Addr} {n : Nat}
variable {α : Type} {enc : α → Value} {h1 : ∀ x, (enc x).oneCell' = true} {e base g cap : Nat} {ok : Nat → Prop} {xs : List α}
end
section
variable {P : Program} {ops : Array Oper} {rest : List Oper} {o : Oper} {a : Act} {Q : Exit → Act → World → Prop}
theorem event_run {W w1 : World} {v : Value} (hgd : o.guard = none) (hrun : (execOp a.eval o).run P W = .ok (.value v) w1) (h : wpList P ops Q rest (a.put o.dst v) w1) : wpList P ops Q (o :: rest) a W := by
  refine wpList_plain hgd fun K hK => ?_
  unfold Oper.wp
  rw [hrun]
  exact hK _ _ h
variable {α : Type}
end
end Kd
section
variable {P : Program}
end
def QRow (w : World) (base : Nat) (e : TypeId) (size : Nat) (v : Value) (n : Nat) (xs : List Value) : Prop :=
  xs.length = n * size ∧
  ((n = 0 ∧ ∃ A, v = .slice A 0 0 ∧ ∀ a, A = some a → base ≤ a.block ∧ ∃ cur, w.heap[a.block]? = some (.cells cur e (0, 0))) ∨
   ∃ g off cap cur, v = .slice (some ⟨g, off * size, none⟩) n cap ∧ base ≤ g ∧ w.heap[g]? = some (.cells cur e (0, 0)) ∧ n ≤ cap ∧ off + cap ≤ maxLen ∧ cur.size = (off + cap) * size ∧ (cur.toList.drop (off * size)).take (n * size) = xs)
section
variable {w w1 : World} {base n size : Nat} {e : TypeId} {v : Value} {xs : List Value}
theorem q_of_own (h : w.ownsRow base e size v n xs) : QRow w base e size v n xs := by
  obtain ⟨h1, h2⟩ := h
  refine ⟨h1, ?_⟩
  rcases h2 with ⟨rfl, h0⟩ | ⟨g, cap, cur, rfl, hb, hh, hnc, hcm, hcs, ht⟩
  · exact .inl ⟨h0, none, rfl, fun a ha => by cases ha⟩
  · exact .inr ⟨g, 0, cap, cur, by rw [Nat.zero_mul], hb, hh, hnc, by rw [Nat.zero_add]; exact hcm, by rw [Nat.zero_add]; exact hcs, by rw [Nat.zero_mul, List.drop_zero]; exact ht⟩
end
section
variable {P : Program}
end
namespace Kd
def Q {α : Type} (d : Kd α) (e : Nat) (w : World) (base : Nat) (ok : Nat → Prop) (v : Value) (xs : List α) : Prop :=
  (∀ k, v.ownBlock = some k → ok k) ∧ ∃ inner, QRow w base e d.sz v xs.length inner ∧ Reps (d.M w base (fun k => ok k ∧ some k ≠ v.ownBlock)) d.sz xs inner
section
variable {α : Type} {d : Kd α} {e : Nat} {w w1 W : World} {base : Nat} {ok ok' : Nat → Prop} {v : Value} {xs : List α}
theorem Q_of_R (h : d.R e w base ok v xs) : d.Q e w base ok v xs := by
  obtain ⟨h0, inner, ho, hr⟩ := h
  exact ⟨h0, inner, q_of_own ho, hr⟩
theorem Q_nil (d : Kd α) (e : Nat) (w : World) (base : Nat) (ok : Nat → Prop) : d.Q e w base ok (.slice none 0 0) [] := Q_of_R (R_nil d e w base ok)
end
section
variable {P : Program} {ops : Array Oper} {rest : List Oper} {o : Oper} {a : Act} {Q' : Exit → Act → World → Prop} {Kc : Act → World → Prop} {α : Type}
end
end Kd
namespace Kd
section
variable {α : Type} {d : Kd α} {e e' : Nat} {w w1 W : World} {base : Nat} {ok : Nat → Prop} {u v : Value} {xs : List α}
theorem R_elder' (hu : d.R e W base ok u xs) (hbase : ∀ k, v.ownBlock = some k → W.heap.size ≤ k) (hb : Below W.heap.size W w1) : d.R e w1 base (fun k => ok k ∧ some k ≠ v.ownBlock) u xs :=
  R_mono (R_move (R_bound hu) (fun k hk => hb.block k hk.2.2.1)) (fun k hk => ⟨hk.1, fun he => by have := hbase k he.symm; have := hk.2.2.1; omega⟩)
theorem R_new' (h : d.R e w1 W.heap.size ok v xs) (hlt : ∀ k, u.ownBlock = some k → k < W.heap.size) : d.R e w1 W.heap.size (fun k => ok k ∧ some k ≠ u.ownBlock) v xs :=
  R_mono (R_bound h) (fun k hk => ⟨hk.1, fun he => by have := hlt k he.symm; have := hk.2.1; omega⟩)
end
end Kd
namespace Kd
section
variable {α : Type} {d : Kd α} {e base g n cap : Nat} {ok okp : Nat → Prop} {W : World} {xs : List α}
end
end Kd
namespace Kd
def fixed {α : Type} (d : Kd α) (w0 : World) : Kd α where
  sz := d.sz
  E := []
  K := fun _ x cs => d.K w0 x cs
  M := fun _ _ _ x cs => d.K w0 x cs
  K_len := d.K_len
  K_one := d.K_one
  K_below := fun _ h => h
  K_of_M := fun h => h
  M_mono := fun _ h => h
  M_bound := fun h => h
  M_move := fun _ h => h
  M_lower := fun _ h => h
def or_ {α : Type} (a b : Kd α) (h : b.sz = a.sz) : Kd α where
  sz := a.sz
  E := a.E ++ b.E
  K := fun w x cs => a.K w x cs ∨ b.K w x cs
  M := fun w base ok x cs => a.M w base ok x cs ∨ b.M w base ok x cs
  K_len := fun hk => hk.elim a.K_len (fun hk => (b.K_len hk).trans h)
  K_one := fun hk => hk.elim a.K_one b.K_one
  K_below := fun hb hk => hk.imp (a.K_below hb) (b.K_below hb)
  K_of_M := fun hk => hk.imp a.K_of_M b.K_of_M
  M_mono := fun hok hk => hk.imp (a.M_mono hok) (b.M_mono hok)
  M_bound := fun hk => hk.imp
    (fun hk => a.M_mono (fun _ ⟨h1, h2, h3, q, hq, hc⟩ => ⟨h1, h2, h3, q, List.mem_append_left _ hq, hc⟩) (a.M_bound hk))
    (fun hk => b.M_mono (fun _ ⟨h1, h2, h3, q, hq, hc⟩ => ⟨h1, h2, h3, q, List.mem_append_right _ hq, hc⟩) (b.M_bound hk))
  M_move := fun hm hk => hk.imp (a.M_move hm) (b.M_move hm)
  M_lower := fun hb hk => hk.imp (a.M_lower hb) (b.M_lower hb)
def mix {α : Type} (e : Nat) (d dm : Kd α) (w0 : World) : Kd (List α) := or_ (fixed (slice e d) w0) (slice e dm) rfl
section
variable {α : Type} {F : Kd α → Kd α} {sz : Nat} {E : List Nat} {hs : ∀ n, (upto F sz E n).sz = sz} {hE : ∀ n q, q ∈ (upto F sz E n).E → q ∈ E}
end
end Kd
namespace Kd
section
variable {P : Program} {ops : Array Oper} {rest : List Oper} {o : Oper} {a : Act} {Q : Exit → Act → World → Prop} {α : Type}
end
end Kd
namespace Kd
section
variable {P : Program} {ops : Array Oper} {rest : List Oper} {o : Oper} {a : Act} {Q : Exit → Act → World → Prop} {α : Type}
end
end Kd
namespace Kd
section
variable {α : Type} {k : Kd α} {w : World} {A : Option Addr} {xs : List α} {m c : Nat}
end
end Kd
section
variable {P : Program}
end
theorem below_size {w W : World} (h : Below w.heap.size w W) : w.heap.size ≤ W.heap.size := h.size
theorem below_step {w W w2 : World} (h : Below w.heap.size w W) (k : Below W.heap.size W w2) : Below w.heap.size w w2 := below_then h h.size k
theorem below_set {w W : World} {g j : Nat} {v : Value} (h : Below w.heap.size w W) (hg : w.heap.size ≤ g) : Below w.heap.size w (W.setCell ⟨g, j, none⟩ v) := h.setCell hg _
theorem blk_put {w : World} {g : Nat} {t : TypeId} {cs cs' : Array Value} (h : w.heap[g]? = some (.cells cs t (0, 0))) (i : Nat) (u : Value) (e : cs.setIfInBounds i u = cs') : (w.setCell ⟨g, i, none⟩ u).heap[g]? = some (.cells cs' t (0, 0)) := e ▸ blk_set h i u
theorem below_drew1 {base : Nat} {w W : World} (h : Below base w W) : Below base w W.drew := h.drew
namespace Kd
section
variable {α β : Type} {d : Kd α} {d' : Kd β} {e e' base base' n : Nat} {ok ok' : Nat → Prop} {w W w1 W1 : World} {v u : Value} {xs : List α} {ys : List β} {A : Option Addr} {c : Nat}
end
section
variable {α : Type} {enc : α → Value} {h1 : ∀ x, (enc x).oneCell' = true} {w W : World} {A : Option Addr} {n g : Nat} {xs : List α}
end
end Kd
namespace Kd
section
variable {α : Type} {d : Kd α} {e base g : Nat} {ok : Nat → Prop} {w w1 : World} {v : Value} {xs : List α} {o : Obj}
theorem R_elderB (h : d.R e w base ok v xs) (a : Nat) (ha : w.heap.size ≤ a) : d.R e w base (fun k => ok k ∧ k ≠ a) v xs := R_mono (R_bound h) (fun k hk => ⟨hk.1, by have := hk.2.2.1; omega⟩)
theorem freshB (hb : w.heap[g]? = some o) : ∀ k, w.heap.size ≤ k → k ≠ g := fun k hk => by have := blk_lt hb; omega
end
end Kd
section
variable {P : Program} {ops : Array Oper} {rest : List Oper} {o : Oper} {a : Act} {Q : Exit → Act → World → Prop}
theorem box_event {W : World} (hgd : o.guard = none) {N : Tmp} (_hd : o.dst = some N) {cs : Array Value} {t : TypeId}
    (hrun : (execOp a.eval o).run P W = .ok (.value (.pointer (some ⟨W.heap.size, 0, none⟩))) (W.alloc (.cells cs t (0, 0))))
    (h : ∀ g, g = W.heap.size → ∀ w1, w1.heap[g]? = some (.cells cs t (0, 0)) → Below W.heap.size W w1 → wpList P ops Q rest (a.put o.dst (.pointer (some ⟨g, 0, none⟩))) w1) : wpList P ops Q (o :: rest) a W :=
  Kd.event_run hgd hrun (h _ rfl _ (blk_new W _) (below_alloc (Below.refl _ _) _))
end
namespace Kd
section
variable {α : Type} {enc : α → Value} {h1 : ∀ x, (enc x).oneCell' = true} {e base g n cap : Nat} {ok : Nat → Prop} {W : World} {xs : List α}
end
end Kd
section
variable {P : Program} {ops : Array Oper} {rest : List Oper} {o : Oper} {a : Act} {Q : Exit → Act → World → Prop}
end
namespace Kd
section
variable {α : Type} {enc : α → Value} {h1 : ∀ x, (enc x).oneCell' = true} {e base g n cap : Nat} {ok : Nat → Prop} {W : World} {xs : List α}
end
end Kd
section
variable {P : Program} {ops : Array Oper} {rest : List Oper} {o : Oper} {a : Act} {Q : Exit → Act → World → Prop} {W : World}
theorem gate_dst {N : Tmp} (_hN : o.dst = some N) (h : wpList P ops Q (o :: rest) a W) : wpList P ops Q (o :: rest) a W := h
end
section
variable {P : Program} {ops : Array Oper} {o : Oper} {a : Act} {Q : Exit → Act → World → Prop} {Kc : Act → World → Prop}
namespace Kd
variable {α : Type}
end Kd
end
section
variable {P : Program} {tmps : Array Value} {w : World}
end
namespace Kd
section
variable {P : Program} {α : Type}
end
section
variable {P : Program} {ops : Array Oper} {rest : List Oper} {o : Oper} {a : Act} {Q : Exit → Act → World → Prop} {Kc : Act → World → Prop} {α : Type}
end
end Kd
end Go.Proofs.YtfnacgojmdbjmaaGreatDoorW.PrintWords
end
section
namespace Go.Proofs.YtfnacgojmdbjmaaGreatDoorW.PrintLast
section
variable {P : Program} {ops : Array Oper} {Q : Exit → Act → World → Prop} {md : Region.Mode} {S : World → Prop} {ds : List Nat}
end
section
variable {P : Program} {ops : Array Oper} {Q : Exit → Act → World → Prop} {md : Region.Mode} {S : World → Prop} {ds : List Nat}
theorem enters_ {f : FuncId} {fn : Func} (hf : P.funcs[f]? = some fn) (hname : (fn.name == "runtime.NumGoroutine") = false) (hb : fn.body.isSome = true) (args : Array Value) (w : World) : (callFunc f args).run P w = .ok (.enter f args) w := by
  have h1 : fn.name ≠ "runtime.NumGoroutine" := by simpa using hname
  obtain ⟨c, hc⟩ := Option.isSome_iff_exists.1 hb
  simp [callFunc, hf, h1, hc]
theorem goesL_ {rest : List Oper} {oi : Oper} {a : Act} {w : World} (N : Option Tmp) (hd : oi.dst = N) (hg : oi.guard = none) {f : FuncId} {fn : Func} {aso : Array Operand} {ts : Array TypeId} (hf : P.funcs[f]? = some fn) (hname : (fn.name == "runtime.NumGoroutine") = false) (hb : fn.body.isSome = true) (args : Array Value)
    (hop : oi.op = .call { callee := .value (.func f), args := aso, argTypes := ts }) (hargs : aso.map a.eval = args)
    (h : Calls P f args w fun e w' => ∃ v, e = .returned v ∧ wpList P ops Q rest (a.put N v) w') : wpList P ops Q (oi :: rest) a w := by
  refine wpList_plain hg fun K hK => ?_
  have he := enters_ hf hname hb args w
  have hrun : (execOp a.eval oi).run P w = .ok (.enter f args) w := by
    unfold execOp
    simp [hop, resolve, Deferred.ofValue, invoke, Act.eval, hargs, he]
  unfold Oper.wp
  rw [hrun, Oper.upon_enter]
  refine h.mono fun e w'' hh => ?_
  obtain ⟨v, rfl, hk⟩ := hh
  subst hd
  exact hK _ _ hk
theorem i64_w (n : Int) : IntKind.i64.wrap n = Go.RowKit.wrap64 n := by unfold Go.RowKit.wrap64; exact IntKind.wrap_i64 n
theorem i32_w (n : Int) : IntKind.i32.wrap n = Go.RowKit.wrap32 n := by unfold Go.RowKit.wrap32; exact IntKind.wrap_i32 n
end
end Go.Proofs.YtfnacgojmdbjmaaGreatDoorW.PrintLast
end
section
namespace Go.Proofs.YtfnacgojmdbjmaaGreatDoorW.PrintWords
open Go.RowKit
namespace Kd
section
variable {α : Type} {d : Kd α} {e base g o n cap : Nat} {ok okp : Nat → Prop} {w W : World} {v : Value} {xs : List α}
end
section
variable {α : Type} {enc : α → Value} {h1 : ∀ x, (enc x).oneCell' = true} {e base g o n cap : Nat} {ok : Nat → Prop} {W : World} {xs : List α}
end
end Kd
end Go.Proofs.YtfnacgojmdbjmaaGreatDoorW.PrintWords
end
section
namespace Go.Proofs.YtfnacgojmdbjmaaGreatDoorW.PrintWords
open Go.RowKit
namespace Kd
def tag {α : Type} (f : Nat → Nat) (d : Kd α) : Kd (α × Nat) where
  sz := d.sz
  E := d.E
  K := fun w x cs => d.K w x.1 cs
  M := fun w base ok x cs => d.M w base (fun k => ok k ∧ f k = x.2) x.1 cs
  K_len := fun h => d.K_len h
  K_one := fun h => d.K_one h
  K_below := fun hb h => d.K_below hb h
  K_of_M := fun h => d.K_of_M h
  M_mono := fun hok h => d.M_mono (fun k hk => ⟨hok k hk.1, hk.2⟩) h
  M_bound := fun h => d.M_mono (fun _ hk => ⟨⟨hk.1.1, hk.2⟩, hk.1.2⟩) (d.M_bound h)
  M_move := fun hm h => d.M_move (fun k hk => hm k hk.1) h
  M_lower := fun hb h => d.M_lower hb h
def raw (sz : Nat) : Kd (List Value) where
  sz := sz
  E := []
  K := fun _ x cs => cs = x ∧ cs.length = sz ∧ ∀ u ∈ cs, u.oneCell' = true
  M := fun _ _ _ x cs => cs = x ∧ cs.length = sz ∧ ∀ u ∈ cs, u.oneCell' = true
  K_len := fun h => h.2.1
  K_one := fun h => h.2.2
  K_below := fun _ h => h
  K_of_M := fun h => h
  M_mono := fun _ h => h
  M_bound := fun h => h
  M_move := fun _ h => h
  M_lower := fun _ h => h
def S {α : Type} (d : Kd α) (e : Nat) (w : World) (base : Nat) (ok : Nat → Prop) (v : Value) (xs : List α) : Prop := ∃ f, (tag f d).R e w base ok v xs.zipIdx
section
variable {α β : Type} {d : Kd α} {d' : Kd β} {e e' : Nat} {w w1 W : World} {base b : Nat} {ok ok' okv oku : Nat → Prop} {u v : Value} {xs : List α} {ys : List β}
theorem S_nil (d : Kd α) (e : Nat) (w : World) (base : Nat) (ok : Nat → Prop) : S d e w base ok (.slice none 0 0) [] := ⟨fun _ => 0, R_nil _ _ _ _ _⟩
end
section
variable {α β : Type} {d : Kd α} {d' : Kd β} {e e' g : Nat} {w w1 W : World} {base b : Nat} {ok ok' okv oku : Nat → Prop} {u v : Value} {xs : List α} {ys : List β}
end
section
open Classical in
variable {P : Program} {ops : Array Oper} {rest : List Oper} {o : Oper} {a : Act} {Q : Exit → Act → World → Prop} {Kc : Act → World → Prop} {α : Type}
end
def gap {α : Type} (f : Nat → Nat) (d : Kd α) (i : Nat) (c : List Value) : Kd (α × Nat) where
  sz := d.sz
  E := d.E
  K := fun w x cs => (x.2 = i → cs = c ∧ cs.length = d.sz ∧ ∀ u ∈ cs, u.oneCell' = true) ∧ (x.2 ≠ i → d.K w x.1 cs)
  M := fun w base ok x cs => (x.2 = i → cs = c ∧ cs.length = d.sz ∧ ∀ u ∈ cs, u.oneCell' = true) ∧ (x.2 ≠ i → d.M w base (fun k => ok k ∧ f k = x.2) x.1 cs)
  K_len := fun {w x cs} h => by
    by_cases hx : x.2 = i
    · exact (h.1 hx).2.1
    · exact d.K_len (h.2 hx)
  K_one := fun {w x cs} h => by
    by_cases hx : x.2 = i
    · exact (h.1 hx).2.2
    · exact d.K_one (h.2 hx)
  K_below := fun hb h => ⟨h.1, fun hx => d.K_below hb (h.2 hx)⟩
  K_of_M := fun h => ⟨h.1, fun hx => d.K_of_M (h.2 hx)⟩
  M_mono := fun hok h => ⟨h.1, fun hx => d.M_mono (fun k hk => ⟨hok k hk.1, hk.2⟩) (h.2 hx)⟩
  M_bound := fun h => ⟨h.1, fun hx => d.M_mono (fun _ hk => ⟨⟨hk.1.1, hk.2⟩, hk.1.2⟩) (d.M_bound (h.2 hx))⟩
  M_move := fun hm h => ⟨h.1, fun hx => d.M_move (fun k hk => hm k hk.1) (h.2 hx)⟩
  M_lower := fun hb h => ⟨h.1, fun hx => d.M_lower hb (h.2 hx)⟩
def H {α : Type} (d : Kd α) (e : Nat) (w : World) (base : Nat) (ok : Nat → Prop) (v : Value) (xs : List α) (i : Int) (oki : Nat → Prop) (c : List Value) : Prop :=
  (∀ k, oki k → ok k) ∧ ∃ f, (gap f d i.toNat c).R e w base (fun k => ok k ∧ ¬ oki k) v xs.zipIdx
section
variable {α β : Type} {d : Kd α} {e e' g n cap : Nat} {w w1 W : World} {base : Nat} {ok ok' oki okp : Nat → Prop} {u v : Value} {xs : List α} {i : Int} {c : List Value}
open Classical in
end
section
variable {P : Program} {ops : Array Oper} {rest : List Oper} {o : Oper} {a : Act} {Q : Exit → Act → World → Prop} {α : Type}
end
end Kd
end Go.Proofs.YtfnacgojmdbjmaaGreatDoorW.PrintWords
end
section
namespace Go.Proofs.YtfnacgojmdbjmaaGreatDoorW.PrintWords
open Go.RowKit
namespace Kd
theorem reps_one {α : Type} {R : α → List Value → Prop} {size : Nat} {ps : List α} {cs : List Value} (h : Reps R size ps cs) (hs0 : 0 < size) (hR : ∀ p c, R p c → ∀ u ∈ c, u.oneCell' = true) : ∀ u ∈ cs, u.oneCell' = true := by
  intro u hu
  obtain ⟨q, hq, rfl⟩ := List.mem_iff_getElem.1 hu
  have hql : q / size < ps.length := by
    rw [Nat.div_lt_iff_lt_mul hs0, ← h.1]
    exact hq
  refine hR _ _ (h.2 (q / size) _ (List.getElem?_eq_getElem hql)) _ ?_
  rw [List.mem_iff_getElem?]
  refine ⟨q % size, ?_⟩
  rw [List.getElem?_take, if_pos (Nat.mod_lt _ hs0), List.getElem?_drop, Nat.mul_comm, Nat.div_add_mod, List.getElem?_eq_getElem hq]
def arr {α : Type} (n : Nat) (d : Kd α) (hs : 0 < d.sz) : Kd (List α) where
  sz := n * d.sz
  E := d.E
  K := fun w xs cs => xs.length = n ∧ Reps (d.K w) d.sz xs cs
  M := fun w base ok xs cs => xs.length = n ∧ Reps (d.M w base ok) d.sz xs cs
  K_len := fun h => by rw [← h.1]; exact h.2.1
  K_one := fun h => reps_one h.2 hs (fun _ _ hk => d.K_one hk)
  K_below := fun hb h => ⟨h.1, h.2.imp_ (fun _ _ hk => d.K_below hb hk)⟩
  K_of_M := fun h => ⟨h.1, h.2.imp_ (fun _ _ hk => d.K_of_M hk)⟩
  M_mono := fun hok h => ⟨h.1, h.2.imp_ (fun _ _ hk => d.M_mono hok hk)⟩
  M_bound := fun h => ⟨h.1, h.2.imp_ (fun _ _ hk => d.M_bound hk)⟩
  M_move := fun hm h => ⟨h.1, h.2.imp_ (fun _ _ hk => d.M_move hm hk)⟩
  M_lower := fun hb h => ⟨h.1, h.2.imp_ (fun _ _ hk => d.M_lower hb hk)⟩
section
variable {α : Type} {n : Nat} {d : Kd α} {hs : 0 < d.sz} {w : World} {base : Nat} {ok : Nat → Prop} {xs : List α} {cs : List Value}
end
section
variable {α : Type} {n : Nat} {enc : α → Value} {h1 : ∀ x, (enc x).oneCell' = true} {hs : 0 < (scalar enc h1).sz} {w : World} {base : Nat} {ok : Nat → Prop} {xs : List α} {cs : List Value}
end
end Kd
end Go.Proofs.YtfnacgojmdbjmaaGreatDoorW.PrintWords
end
section
namespace Go.Proofs.YtfnacgojmdbjmaaGreatDoorW.PrintWords
open Go.RowKit
section
variable {P : Program}
end
namespace Kd
section
variable {P : Program} {ops : Array Oper} {rest : List Oper} {o : Oper} {a : Act} {Q : Exit → Act → World → Prop} {Kc : Act → World → Prop} {α : Type}
end
section
variable {α : Type} {d : Kd α} {e : Nat} {w : World} {base : Nat} {ok : Nat → Prop} {v : Value} {xs : List α}
end
section
variable {P : Program} {ops : Array Oper} {rest : List Oper} {o : Oper} {a : Act} {Q : Exit → Act → World → Prop} {Kc : Act → World → Prop} {α : Type}
end
end Kd
end Go.Proofs.YtfnacgojmdbjmaaGreatDoorW.PrintWords
end
section
namespace Go.Proofs.YtfnacgojmdbjmaaGreatDoorW.PrintWords
open Go.RowKit
namespace Kd
structure Heap {α : Type} (d : Kd α) : Prop where
  K : ∀ {w w1 : World} {x : α} {cs : List Value}, (∀ k, k < w.heap.size → w1.heap[k]? = w.heap[k]?) → d.K w x cs → d.K w1 x cs
section
variable {α : Type} {d : Kd α} {e base g n c : Nat} {ok : Nat → Prop} {w w0 W : World} {A : Option Addr} {xs : List α}
end
end Kd
end Go.Proofs.YtfnacgojmdbjmaaGreatDoorW.PrintWords
end
section
namespace Go.Proofs.YtfnacgojmdbjmaaGreatDoorW.PrintWords
open Go.RowKit
def Kept (w W : World) (S : Nat → Prop) : Prop := w.heap.size ≤ W.heap.size ∧ ∀ i, i < w.heap.size → ¬ S i → W.heap[i]? = w.heap[i]?
section
variable {w W W2 : World} {S S2 S' : Nat → Prop}
end
namespace Kd
section
variable {α : Type} {d : Kd α} {e base n c : Nat} {ok oki S S2 : Nat → Prop} {w w0 W W1 W2 : World} {v : Value} {A : Option Addr} {xs : List α} {i : Int} {cs : List Value}
end
end Kd
end Go.Proofs.YtfnacgojmdbjmaaGreatDoorW.PrintWords
end
section
namespace Go.Proofs.YtfnacgojmdbjmaaGreatDoorW.PrintWords
open Go.RowKit
def Foot (P : World → Prop) (W : World) (ok : Nat → Prop) : Prop := ∀ W' : World, (∀ k, ok k → k < W.heap.size → W'.heap[k]? = W.heap[k]?) → P W'
theorem heap_lt {W W1 : World} {k : Nat} (h : W1.heap[k]? = W.heap[k]?) (hlt : k < W.heap.size) : k < W1.heap.size := by
  rw [Array.getElem?_eq_getElem hlt] at h
  exact (Array.getElem?_eq_some_iff.1 h).1
namespace Foot
variable {P Q : World → Prop} {W W1 : World} {ok ok' : Nat → Prop}
theorem mono (h : Foot P W ok) (hok : ∀ k, ok k → ok' k) : Foot P W ok' := fun W' hW => h W' (fun k hk hlt => hW k (hok k hk) hlt)
theorem bound (h : Foot P W ok) : Foot P W (fun k => ok k ∧ k < W.heap.size) := fun W' hW => h W' (fun k hk hlt => hW k ⟨hk, hlt⟩ hlt)
theorem step (h : Foot P W ok) (hm : ∀ k, ok k → k < W.heap.size → W1.heap[k]? = W.heap[k]?) : Foot P W1 ok := fun W' hW => h W' (fun k hk hlt => (hW k hk (heap_lt (hm k hk hlt) hlt)).trans (hm k hk hlt))
theorem old (h : Foot P W ok) (hb : Below W.heap.size W W1) : Foot P W1 (fun k => ok k ∧ k < W.heap.size) := (h.bound).step (fun k _ hlt => hb.block k hlt)
end Foot
namespace Kd
def F {α : Type} (d : Kd α) (W : World) (ok : Nat → Prop) (A : Option Addr) (n : Nat) (xs : List α) : Prop := Foot (fun W => d.C W A n xs) W ok
def FK {α : Type} (d : Kd α) (W : World) (ok : Nat → Prop) (x : α) (c : List Value) : Prop := Foot (fun W => d.K W x c) W ok
section
variable {α β : Type} {d : Kd α} {e base n n' cc g N : Nat} {ok ok' okp S : Nat → Prop} {w w0 w1 W W1 : World} {A A' : Option Addr} {u v v1 : Value} {xs : List α} {xs' : List β} {d' : Kd β} {x : α} {c : List Value}
theorem F_nil (d : Kd α) (W : World) (ok : Nat → Prop) : F d W ok none ([] : List α).length [] := fun W' _ => C_nil d W'
theorem FK_of_M (h : d.M W base ok x c) : FK d W ok x c := fun _ hW => d.K_of_M (M_step h hW)
end
end Kd
end Go.Proofs.YtfnacgojmdbjmaaGreatDoorW.PrintWords
end
section
namespace Go.Proofs.YtfnacgojmdbjmaaGreatDoorW.PrintWords
open Go.RowKit
namespace Kd
def chunks (sz : Nat) (n : Nat) (inner : List Value) : List (List Value) := (List.range n).map fun j => (inner.drop (j * sz)).take sz
theorem chunks_length (sz n : Nat) (inner : List Value) : (chunks sz n inner).length = n := by simp [chunks]
theorem chunks_at {sz n : Nat} {inner : List Value} {j : Nat} (hj : j < n) : (chunks sz n inner)[j]? = some ((inner.drop (j * sz)).take sz) := by simp [chunks, hj]
theorem chunks_get {sz n : Nat} {inner : List Value} {j : Nat} {c : List Value} (h : (chunks sz n inner)[j]? = some c) : c = (inner.drop (j * sz)).take sz := by
  have hj : j < n := by have := (List.getElem?_eq_some_iff.1 h).1; rwa [chunks_length] at this
  rw [chunks_at hj] at h
  injection h with h
  exact h.symm
theorem reps_raw {α : Type} {Rr : α → List Value → Prop} {sz : Nat} {xs : List α} {inner : List Value} (h : Reps Rr sz xs inner) (hR : ∀ x c, Rr x c → c.length = sz ∧ ∀ u ∈ c, u.oneCell' = true) : Reps (fun x cs => cs = x ∧ cs.length = sz ∧ ∀ u ∈ cs, u.oneCell' = true) sz (chunks sz xs.length inner) inner := by
  refine ⟨by rw [chunks_length]; exact h.1, fun j p hj => ?_⟩
  have hjl : j < xs.length := by have := (List.getElem?_eq_some_iff.1 hj).1; rwa [chunks_length] at this
  have hp := chunks_get hj
  exact ⟨hp.symm, hR _ _ (h.2 j _ (List.getElem?_eq_getElem hjl))⟩
section
variable {α : Type} {d : Kd α} {e base n cc g : Nat} {ok ok' okp S : Nat → Prop} {w w1 W W1 : World} {A : Option Addr} {u v v1 : Value} {xs : List α} {x : α} {c : List Value}
def N {α : Type} (d : Kd α) (e : Nat) (w : World) (base : Nat) (ok : Nat → Prop) (v : Value) (xs : List α) : Prop :=
  (∀ k, v.ownBlock = some k → ok k) ∧ ∃ rows : List (List Value), rows.length = xs.length ∧ (raw d.sz).R e w base (fun k => some k = v.ownBlock) v rows ∧ ∀ (j : Nat) (x : α) (c : List Value), xs[j]? = some x → rows[j]? = some c → FK d w (fun k => ok k ∧ some k ≠ v.ownBlock) x c
theorem R_N (h : d.R e w base ok v xs) : N d e w base ok v xs := by
  obtain ⟨h0, inner, ho, hr⟩ := h
  refine ⟨h0, chunks d.sz xs.length inner, chunks_length _ _ _, ⟨fun k hk => hk.symm, inner, by rw [chunks_length]; exact ho, reps_raw hr (fun x c hp => ⟨d.K_len (d.K_of_M hp), d.K_one (d.K_of_M hp)⟩)⟩, fun j x c hx hc => ?_⟩
  rw [chunks_get hc]
  exact FK_of_M (hr.2 j x hx)
theorem N_nil (d : Kd α) (e : Nat) (w : World) (base : Nat) (ok : Nat → Prop) : N d e w base ok (.slice none 0 0) [] := R_N (R_nil _ _ _ _ _)
end
end Kd
end Go.Proofs.YtfnacgojmdbjmaaGreatDoorW.PrintWords
end
section
namespace Go.Proofs.YtfnacgojmdbjmaaGreatDoorW.PrintWords
open Go.RowKit
namespace Kd
section
variable {α : Type} {d : Kd α} {e base n cap g : Nat} {ok ok' okp : Nat → Prop} {w w1 W : World} {v v1 : Value} {xs ys : List α}
end
section
variable {P : Program} {ops : Array Oper} {rest : List Oper} {o : Oper} {a : Act} {Q : Exit → Act → World → Prop} {Kc : Act → World → Prop} {α : Type}
end
end Kd
end Go.Proofs.YtfnacgojmdbjmaaGreatDoorW.PrintWords
end
section
namespace Go.Proofs.YtfnacgojmdbjmaaGreatDoorW.PrintMore
open Go.RowKit Go.Proofs.YtfnacgojmdbjmaaGreatDoorW.PrintWords
namespace Kd
open Go.Proofs.YtfnacgojmdbjmaaGreatDoorW.PrintWords.Kd
end Kd
namespace Kd
open Go.Proofs.YtfnacgojmdbjmaaGreatDoorW.PrintWords.Kd
section
variable {α : Type} {d : Kd α} {e base g N : Nat} {ok : Nat → Prop} {W w1 : World} {u v : Value} {xs : List α}
end
end Kd
theorem max2_int (k k' : IntKind) (x y : Int) : Builtin.max2 (.int k x) (.int k' y) = pure (.int k (if x < y then y else x)) := by simp only [Builtin.max2, gt_iff_lt]
theorem min2_int (k k' : IntKind) (x y : Int) : Builtin.min2 (.int k x) (.int k' y) = pure (.int k (if y < x then y else x)) := by simp only [Builtin.min2]
theorem max_two (ats : Array TypeId) (ty : TypeId) (a b : Value) : Builtin.max_ ats ty #[a, b] = (Builtin.max2 a b >>= fun s => pure s) := by simp only [Builtin.max_, List.foldlM_cons, List.foldlM_nil]
theorem min_two (ats : Array TypeId) (ty : TypeId) (a b : Value) : Builtin.min_ ats ty #[a, b] = (Builtin.min2 a b >>= fun s => pure s) := by simp only [Builtin.min_, List.foldlM_cons, List.foldlM_nil]
theorem max_three (ats : Array TypeId) (ty : TypeId) (a b c : Value) : Builtin.max_ ats ty #[a, b, c] = (Builtin.max2 a b >>= fun s => Builtin.max2 s c >>= fun s => pure s) := by simp only [Builtin.max_, List.foldlM_cons, List.foldlM_nil]
theorem min_three (ats : Array TypeId) (ty : TypeId) (a b c : Value) : Builtin.min_ ats ty #[a, b, c] = (Builtin.min2 a b >>= fun s => Builtin.min2 s c >>= fun s => pure s) := by simp only [Builtin.min_, List.foldlM_cons, List.foldlM_nil]
theorem max_four (ats : Array TypeId) (ty : TypeId) (a b c d : Value) : Builtin.max_ ats ty #[a, b, c, d] = (Builtin.max2 a b >>= fun s => Builtin.max2 s c >>= fun s => Builtin.max2 s d >>= fun s => pure s) := by simp only [Builtin.max_, List.foldlM_cons, List.foldlM_nil]
theorem min_four (ats : Array TypeId) (ty : TypeId) (a b c d : Value) : Builtin.min_ ats ty #[a, b, c, d] = (Builtin.min2 a b >>= fun s => Builtin.min2 s c >>= fun s => Builtin.min2 s d >>= fun s => pure s) := by simp only [Builtin.min_, List.foldlM_cons, List.foldlM_nil]
end Go.Proofs.YtfnacgojmdbjmaaGreatDoorW.PrintMore
namespace Go.Proofs.YtfnacgojmdbjmaaGreatDoorW.PrintWords
open Go.RowKit
section
variable {P : Program} {ops : Array Oper} {rest : List Oper} {o : Oper} {a : Act} {Q : Exit → Act → World → Prop} {W : World}
theorem gate_callee {f : FuncId} {aso : Array Operand} {ts : Array TypeId} (_ho : o.op = .call { callee := .value (.func f), args := aso, argTypes := ts }) (h : wpList P ops Q (o :: rest) a W) : wpList P ops Q (o :: rest) a W := h
theorem gate_builtin {b : Builtin} {xs : Array Operand} {ts : Array TypeId} (_ho : o.op = .call { callee := .builtin b, args := xs, argTypes := ts }) (h : wpList P ops Q (o :: rest) a W) : wpList P ops Q (o :: rest) a W := h
end
def mx (a b : Int) : Int := if a < b then b else a
def mn (a b : Int) : Int := if b < a then b else a
def shl (k : IntKind) (x y : Int) : Int := k.wrap (x * 2 ^ min y.toNat k.bits)
def shr (k : IntKind) (x y : Int) : Int := x / 2 ^ min y.toNat k.bits
theorem shl_small {k : IntKind} {x y j : Int} (h : shl k x y = j) (hy : y ≤ k.bits) : k.wrap (x * 2 ^ y.toNat) = j := by rw [← h]; unfold shl; rw [Nat.min_eq_left (by omega)]
theorem shr_small {k : IntKind} {x y j : Int} (h : shr k x y = j) (hy : y ≤ k.bits) : x / 2 ^ y.toNat = j := by rw [← h]; unfold shr; rw [Nat.min_eq_left (by omega)]
namespace Kd
section
variable {α : Type} {d : Kd α} {e base : Nat} {ok : Nat → Prop} {W w1 : World} {v : Value} {xs : List α}
end
section
variable {α : Type} {d : Kd α} {e base g n cap : Nat} {ok oki okp : Nat → Prop} {W : World} {xs : List α} {i : Int} {c : List Value}
end
section
variable {α : Type} {d : Kd α} {e base b b' g N : Nat} {ok ok1 : Nat → Prop} {W W2 w1 : World} {u v : Value} {xs ys : List α} {S : Nat → Prop}
end
end Kd
end Go.Proofs.YtfnacgojmdbjmaaGreatDoorW.PrintWords
namespace Go.Proofs.YtfnacgojmdbjmaaGreatDoorW.PrintWords
open Go.RowKit
namespace Kd
def V {α : Type} (d : Kd α) (_e : Nat) (W : World) (_base : Nat) (ok : Nat → Prop) (v : Value) (xs : List α) : Prop := ∃ A c, v = .slice A xs.length c ∧ xs.length ≤ c ∧ F d W ok A xs.length xs
section
variable {α β : Type} {d : Kd α} {e base base' n m c g N' lo hi : Nat} {ok ok' S : Nat → Prop} {w W w1 : World} {A : Option Addr} {ad : Addr} {u v v1 : Value} {xs : List α}
theorem V_nil (d : Kd α) (e : Nat) (W : World) (base : Nat) (ok : Nat → Prop) : V d e W base ok (.slice none 0 0) [] := ⟨none, 0, rfl, Nat.le_refl _, F_nil d W ok⟩
end
end Kd
end Go.Proofs.YtfnacgojmdbjmaaGreatDoorW.PrintWords
end
end

section
/- Contracts told by hand at worlds in which the listed tables lie (seat of the ranges): the sum of two numbers of 128 bits; printed functions as entries of the evaluator, and entries as calls. -/
namespace Go.Proofs.YtfnacgojmdbjmaaGreatDoor
open Go.Det Go.RowKit Go.Proofs.YtfnacgojmdbjmaaGreatDoorW.PrintWords
set_option maxRecDepth 100000
noncomputable def bodyOf (f : Func) : Code := match f.body with | some c => c | none => .skip
theorem andI_eq (k : IntKind) (a b : Int) : andI k a b = Go.bits .and k a b := rfl
theorem orI_eq (k : IntKind) (a b : Int) : orI k a b = Go.bits .or k a b := rfl
theorem wrapE (x : Int) : IntKind.wrap IntKind.i64 x = wrap64 x := by rw [IntKind.wrap_i64, wrap64]
theorem own_of_calls {f : FuncId} {fn : Func} {c : Code} {F : List Value → Option Value} {W : World} (hW : GoodW W) (hf : Tryz.prog.funcs[f]? = some fn) (hb : fn.body = some c) (hn : (fn.name == "runtime.NumGoroutine") = false)
    (h : ∀ args v, F args = some v → flat2L args = true ∧ flat v = true ∧ ∀ w, GoodW w → Calls Tryz.prog f ⟨args⟩ w fun e w' => e = .returned v ∧ Below w.heap.size w w') : OwnAll Tryz.prog W 6 f (pureD F) := by
  refine ⟨pureD_tr F, fun W1 k1 args s v s' e φ w args' H _ hA _ _ => ?_⟩
  unfold pureD at e
  split at e
  case h_2 => cases e
  rename_i r hr
  cases e
  obtain ⟨h1, h2, h3⟩ := h args v hr
  rw [flat2L_inv h1 hA, callFunc_run hf hb hn]
  have kw : Later W w := k1.trans H.later
  refine (h3 w (hW.later kw.size kw.old)).mono ?_
  rintro e W' ⟨rfl, hB⟩
  exact ⟨v, φ, rfl, Ext.refl _ _ _, flat_self h2 _, H.keep ⟨hB.os, hB.output, hB.size, hB.block⟩ hB.tape⟩
theorem calls_of_own {f : FuncId} {fn : Func} {c : Code} {g : Own} {w : World} {args : List Value} {v : Value} (h : OwnAll Tryz.prog w 6 f g) (hG : GoodW w) (hf : Tryz.prog.funcs[f]? = some fn) (hb : fn.body = some c) (hn : (fn.name == "runtime.NumGoroutine") = false)
    (e : g args (birth [] 64) = some (v, birth [] 64)) (h1 : flat2L args = true) (h2 : flat v = true) (h3 : v ≠ und) :
    Calls Tryz.prog f ⟨args⟩ w fun e w' => e = .returned v ∧ Below w.heap.size w w' :=
  own_calls (h.2 w (Later.refl w)) (by decide) hG.size hf hb hn e h1 h2 h3
theorem st_tz0 {x r : Int} {w : World} (hG : GoodW w) (h : (if 0 ≤ x ∧ x < 18446744073709551616 then some ((Lib.ctz 64 x.toNat : Nat) : Int) else none) = some r) :
    Calls Tryz.prog 109 #[.int .u64 x] w fun e w' => e = .returned (.int .i64 r) ∧ Drawn0 w w' := by
  refine (st_tz hG h).mono ?_
  rintro e w' ⟨rfl, rfl⟩
  exact ⟨rfl, Drawn0.refl _⟩
theorem qe110 : Entry Tryz.prog 110 add64Entry := Entry.mk (fn := Tryz.f110) Tryz.func110 (by kernel_rfl) (by kernel_rfl) (by kernel_rfl) (by kernel_rfl)
noncomputable def LZ0 : List (Nat × Con) := [(110, con48)]
theorem oAdd110 (W : World) : OwnAll Tryz.prog W 6 110 con48.own := ⟨pureD_tr _, fun _ _ => add64_ok qe110⟩
theorem v_true {p : Prop} (h : p) : Value.bool true = .bool (cdec p) := congrArg _ (cdec_true.2 h).symm
theorem v_false {p : Prop} (h : ¬ p) : Value.bool false = .bool (cdec p) := congrArg _ (cdec_false.2 h).symm
theorem domQQ_iff {a b c d : Int} : domQQ (a, b, c, d) = true ↔ ((0 ≤ a ∧ a < 18446744073709551616) ∧ (0 ≤ b ∧ b < 18446744073709551616)) ∧ ((0 ≤ c ∧ c < 18446744073709551616) ∧ (0 ≤ d ∧ d < 18446744073709551616)) := by
  unfold domQQ
  rw [Bool.and_eq_true, inQ_iff, inQ_iff]
theorem quad_of {h l : Int} {n : Nat} (h1 : h = ((n / M64 : Nat) : Int)) (h2 : l = ((n % M64 : Nat) : Int)) : Value.agg #[.int .u64 h, .int .u64 l] = quadV n := by
  rw [h1, h2]; rfl
theorem vc98 (ah al bh bl : Int) (Q : Value → Prop) : codeW Tryz.prog (cwC LZ0) (bodyOf Tryz.f98) (inTab (encQQ (ah, al, bh, bl)) 8) (birth [] 64) (retW Tryz.prog Tryz.f98 fun v _ => Q v) = (((Bool.true = Bool.true) ∧ ((Nat.ble (Int.toNat (↑((Int.toNat al + Int.toNat bl + Int.toNat 0) / 18446744073709551616) : Int)) 1 = Bool.true) ∧ bifW (cdec ((↑((Int.toNat ah + Int.toNat bh + Int.toNat (↑((Int.toNat al + Int.toNat bl + Int.toNat 0) / 18446744073709551616) : Int)) / 18446744073709551616) : Int) ≠ 0)) (Q (Value.tuple #[Value.agg #[Value.int IntKind.u64 0, Value.int IntKind.u64 0], Value.bool Bool.false])) (Q (Value.tuple #[Value.agg #[Value.int IntKind.u64 (↑((Int.toNat ah + Int.toNat bh + Int.toNat (↑((Int.toNat al + Int.toNat bl + Int.toNat 0) / 18446744073709551616) : Int)) % 18446744073709551616) : Int), Value.int IntKind.u64 (↑((Int.toNat al + Int.toNat bl + Int.toNat 0) % 18446744073709551616) : Int)], Value.bool Bool.true]))))) := by kernel_rfl
theorem w98 (a : Int × Int × Int × Int) (h : domQQ a = true) : codeW Tryz.prog (cwC LZ0) (bodyOf Tryz.f98) (inTab (encQQ a) 8) (birth [] 64) (retW Tryz.prog Tryz.f98 fun v _ => v = .tuple #[quadV (addN (qn a.1 a.2.1) (qn a.2.2.1 a.2.2.2)), .bool (cdec (qn a.1 a.2.1 + qn a.2.2.1 a.2.2.2 < M128))]) := by
  obtain ⟨ah, al, bh, bl⟩ := a
  refine (vc98 ah al bh bl _).mpr ?_
  have h := domQQ_iff.1 h
  refine ⟨rfl, Nat.ble_eq_true_of_le (by omega), bifW_intro (fun h1 => ?_) (fun h1 => ?_)⟩
  · rw [cdec_true] at h1
    have hge : ¬ qn ah al + qn bh bl < M128 := by simp only [qn, M64, M128]; omega
    have : addN (qn ah al) (qn bh bl) = 0 := by unfold addN; rw [if_neg hge]
    show _ = Value.tuple #[quadV (addN (qn ah al) (qn bh bl)), .bool (cdec (qn ah al + qn bh bl < M128))]
    rw [this, ← v_false hge]; rfl
  · rw [cdec_false] at h1
    have hlt : qn ah al + qn bh bl < M128 := by simp only [qn, M64, M128]; omega
    have : addN (qn ah al) (qn bh bl) = qn ah al + qn bh bl := by unfold addN; rw [if_pos hlt]
    show _ = Value.tuple #[quadV (addN (qn ah al) (qn bh bl)), .bool (cdec (qn ah al + qn bh bl < M128))]
    rw [this, ← v_true hlt]
    congr 3
    refine quad_of ?_ ?_ <;> (simp only [qn, M64]; omega)
theorem omAdd98 {W : World} (hW : GoodW W) : OwnAll Tryz.prog W 6 98 conAdd.own :=
  con_flat encQQ (Laying.empty hW.size) hW.size (by decide) dt_mixed (OwnsAll.con (oAdd110 W) (ownsAll_nil W 6)) Tryz.func98 (fn := Tryz.f98) (c := bodyOf Tryz.f98) (by kernel_rfl) (by kernel_rfl) (fun _ _ h => decQQ_enc h) (fun a => ⟨rfl, rfl, (by kernel_rfl)⟩) w98
theorem st_add98 {a b c d r1 r2 : Int} {r3 : Bool} {w : World} (hG : GoodW w)
    (h : (if (inQ a b && inQ c d) = true then some ((((addN (qn a b) (qn c d)) / M64 : Nat) : Int), (((addN (qn a b) (qn c d)) % M64 : Nat) : Int), decide (qn a b + qn c d < M128)) else none) = some (r1, r2, r3)) :
    Calls Tryz.prog 98 #[.agg #[.int .u64 a, .int .u64 b], .agg #[.int .u64 c, .int .u64 d]] w fun e w' => e = .returned (.tuple #[.agg #[.int .u64 r1, .int .u64 r2], .bool r3]) ∧ Below w.heap.size w w' := by
  split at h
  case isFalse => cases h
  rename_i hq
  cases h
  rw [cdec_eq]
  refine calls_of_own (fn := Tryz.f98) (c := bodyOf Tryz.f98) (omAdd98 hG) hG Tryz.func98 (by kernel_rfl) (by kernel_rfl) (args := encQQ (a, b, c, d)) (v := .tuple #[quadV (addN (qn a b) (qn c d)), .bool (cdec (qn a b + qn c d < M128))]) ?_ rfl rfl (by intro h; cases h)
  unfold conAdd Con.flat pureD
  have : domQQ (a, b, c, d) = true := hq
  simp only [decQQ, encQQ, this]
end Go.Proofs.YtfnacgojmdbjmaaGreatDoor
end

section
/-
  DERIVED: THE SHELF's CONTRACTS AT THIS DUMP, IN PLAIN WORDS (tools/lay-plain.mjs out of 'TryzShelfT.lean', which tools/lay-shelf.mjs wrote): THE SAME DECLARATIONS UNDER THE SAME NAMES: 'import', 'namespace', 'open', 'def', 'theorem' AND NOTHING ELSE: no command of the shelf's: FOR A HAND-IN. Each laying: the table of numbers ('.._ren') and one theorem, a field a fact of the dump's own or the kernel's comparison; each contract: ONE APPLICATION.
-/
namespace Go.Proofs
open Go.Shelf
def Tryz.lays156_ren : Go.Shelf.Ren := ⟨fun | 156 => 90 | 165 => 105 | 166 => 106 | 169 => 107 | 240 => 117 | 241 => 118 | 276 => 128 | 277 => 129 | n => n, fun | 31 => 36 | 9 => 9 | 3 => 3 | 4 => 4 | 0 => 0 | 20 => 20 | 72 => 110 | 76 => 114 | 70 => 108 | 37 => 22 | 75 => 113 | 127 => 121 | 164 => 132 | 5 => 5 | 80 => 116 | n => n, fun | n => n⟩
theorem Tryz.lays156 : Go.Proofs.Lays.n156 Tryz.prog Tryz.lays156_ren := {
  mixed := by kernel_rfl
  f156 := Tryz.func90.trans (congrArg some (by kernel_rfl))
  f165 := Tryz.func105.trans (congrArg some (by kernel_rfl))
  f166 := Tryz.func106.trans (congrArg some (by kernel_rfl))
  f169 := Tryz.func107.trans (congrArg some (by kernel_rfl))
  f240 := Tryz.func117.trans (congrArg some (by kernel_rfl))
  f241 := Tryz.func118.trans (congrArg some (by kernel_rfl))
  f276 := Tryz.func128.trans (congrArg some (by kernel_rfl))
  f277 := Tryz.func129.trans (congrArg some (by kernel_rfl))
  t0 := Tryz.underlying0
  a0 := Tryz.isAgg0
  z0 := Tryz.sizeOf0
  v0 := Tryz.zeroValue0
  t3 := Tryz.underlying3
  a3 := Tryz.isAgg3
  z3 := Tryz.sizeOf3
  v3 := Tryz.zeroValue3
  t4 := Tryz.underlying4
  a4 := Tryz.isAgg4
  z4 := Tryz.sizeOf4
  v4 := Tryz.zeroValue4
  t9 := Tryz.underlying9
  a9 := Tryz.isAgg9
  z9 := Tryz.sizeOf9
  v9 := Tryz.zeroValue9
  t20 := Tryz.underlying20
  a20 := Tryz.isAgg20
  z20 := Tryz.sizeOf20
  v20 := Tryz.zeroValue20
  t31 := Tryz.underlying36
  a31 := Tryz.isAgg36
  z31 := Tryz.sizeOf36
  v31 := Tryz.zeroValue36
  t37 := Tryz.underlying22
  a37 := Tryz.isAgg22
  z37 := Tryz.sizeOf22
  v37 := Tryz.zeroValue22
  t70 := Tryz.underlying108
  a70 := Tryz.isAgg108
  z70 := Tryz.sizeOf108
  v70 := Tryz.zeroValue108
  t72 := Tryz.underlying110
  a72 := Tryz.isAgg110
  z72 := Tryz.sizeOf110
  v72 := Tryz.zeroValue110
  t75 := Tryz.underlying113
  a75 := Tryz.isAgg113
  z75 := Tryz.sizeOf113
  v75 := Tryz.zeroValue113
  t76 := Tryz.underlying114
  a76 := Tryz.isAgg114
  z76 := Tryz.sizeOf114
  v76 := Tryz.zeroValue114
  t127 := Tryz.underlying121
  a127 := Tryz.isAgg121
  z127 := Tryz.sizeOf121
  v127 := Tryz.zeroValue121
  t164 := Tryz.underlying132
  a164 := Tryz.isAgg132
  z164 := Tryz.sizeOf132
  v164 := Tryz.zeroValue132 }
theorem Tryz.Builder_Extra_156 : Builder.Extra Tryz.prog Tryz.lays156_ren := {
  sizeBuilder := by kernel_rfl
  liesBuilder := by kernel_rfl
  t5 := Tryz.underlying5
  a5 := Tryz.isAgg5
  z5 := Tryz.sizeOf5
  v5 := Tryz.zeroValue5
  infoByte := by kernel_rfl
  cellsByte := by kernel_rfl
  sizeByte := by kernel_rfl
  neB5 := by decide }
open Go.RowKit in
theorem Tryz.strings_Join_none (a : Option Addr) (c : Nat) (sep : ByteArray) (w : World) :
    Calls Tryz.prog 90 #[.slice a 0 c, .string sep] w fun e w' => e = .returned (.string ⟨#[]⟩) ∧ w' = w := Any.strings_Join_none Tryz.lays156 Tryz.Builder_Extra_156 a c sep w
open Go.RowKit in
theorem Tryz.strings_Join (bk o c : Nat) (xs : List ByteArray) (sep : ByteArray) (w : World) (hcells : ∀ (j : Nat) x, xs[j]? = some x → w.cell? ⟨bk, o + j, none⟩ = some (.string x)) (hbk : bk < w.heap.size) (hN : xs.length ≤ 140737488355328) (hcap : xs.length ≤ c) (hlen : (Lib.join (xs.map (·.data.toList)) sep.data.toList).length ≤ 140737488355328) :
    Calls Tryz.prog 90 #[.slice (some ⟨bk, o, none⟩) xs.length c, .string sep] w fun e w' => e = .returned (.string ⟨(Lib.join (xs.map (·.data.toList)) sep.data.toList).toArray⟩) ∧ Below w.heap.size w w' := Any.strings_Join Tryz.lays156 Tryz.Builder_Extra_156 bk o c xs sep w hcells hbk hN hcap hlen
def Tryz.lays137_ren : Go.Shelf.Ren := ⟨fun | 137 => 125 | 217 => 111 | 266 => 123 | n => n, fun | 9 => 9 | 5 => 5 | 3 => 3 | n => n, fun | n => n⟩
theorem Tryz.lays137 : Go.Proofs.Lays.n137 Tryz.prog Tryz.lays137_ren := {
  mixed := by kernel_rfl
  f137 := Tryz.func125.trans (congrArg some (by kernel_rfl))
  f217 := Tryz.func111.trans (congrArg some (by kernel_rfl))
  f266 := Tryz.func123.trans (congrArg some (by kernel_rfl))
  t3 := Tryz.underlying3
  a3 := Tryz.isAgg3
  z3 := Tryz.sizeOf3
  v3 := Tryz.zeroValue3
  t5 := Tryz.underlying5
  a5 := Tryz.isAgg5
  z5 := Tryz.sizeOf5
  v5 := Tryz.zeroValue5
  t9 := Tryz.underlying9
  a9 := Tryz.isAgg9
  z9 := Tryz.sizeOf9
  v9 := Tryz.zeroValue9 }
open Go.RowKit in
theorem Tryz.strings_IndexByte (s : ByteArray) (c : Int) (w : World) :
    Calls Tryz.prog 125 #[.string s, .int .u8 c] w fun e w' => e = .returned (.int .i64 (Lib.indexByte s.data.toList c.toNat.toUInt8)) ∧ w' = w := Any.strings_IndexByte Tryz.lays137 s c w
def Tryz.lays144_ren : Go.Shelf.Ren := ⟨fun | 144 => 84 | 143 => 101 | 219 => 100 | 217 => 111 | 225 => 112 | 224 => 113 | 267 => 114 | 266 => 123 | 314 => 124 | n => n, fun | 9 => 9 | 4 => 4 | 3 => 3 | 5 => 5 | 46 => 39 | 146 => 129 | 51 => 128 | n => n, fun | 1 => 0 | n => n⟩
theorem Tryz.lays144 : Go.Proofs.Lays.n144 Tryz.prog Tryz.lays144_ren := {
  mixed := by kernel_rfl
  f143 := Tryz.func101.trans (congrArg some (by kernel_rfl))
  f144 := Tryz.func84.trans (congrArg some (by kernel_rfl))
  f217 := Tryz.func111.trans (congrArg some (by kernel_rfl))
  f219 := Tryz.func100.trans (congrArg some (by kernel_rfl))
  f224 := Tryz.func113.trans (congrArg some (by kernel_rfl))
  f225 := Tryz.func112.trans (congrArg some (by kernel_rfl))
  f266 := Tryz.func123.trans (congrArg some (by kernel_rfl))
  f267 := Tryz.func114.trans (congrArg some (by kernel_rfl))
  f314 := Tryz.func124.trans (congrArg some (by kernel_rfl))
  t3 := Tryz.underlying3
  a3 := Tryz.isAgg3
  z3 := Tryz.sizeOf3
  v3 := Tryz.zeroValue3
  t4 := Tryz.underlying4
  a4 := Tryz.isAgg4
  z4 := Tryz.sizeOf4
  v4 := Tryz.zeroValue4
  t5 := Tryz.underlying5
  a5 := Tryz.isAgg5
  z5 := Tryz.sizeOf5
  v5 := Tryz.zeroValue5
  t9 := Tryz.underlying9
  a9 := Tryz.isAgg9
  z9 := Tryz.sizeOf9
  v9 := Tryz.zeroValue9
  t46 := Tryz.underlying39
  a46 := Tryz.isAgg39
  z46 := Tryz.sizeOf39
  v46 := Tryz.zeroValue39
  t51 := Tryz.underlying128
  a51 := Tryz.isAgg128
  z51 := Tryz.sizeOf128
  v51 := Tryz.zeroValue128
  t146 := Tryz.underlying129
  a146 := Tryz.isAgg129
  z146 := Tryz.sizeOf129
  v146 := Tryz.zeroValue129
  g1 := by kernel_rfl }
open Go.RowKit Go.Lib in
open Go.RowKit Go.Lib in
theorem Tryz.strings_Contains (s sub : ByteArray) (m : Int) (w : World) (hs : s.size < 4294967281) (hm : w.cell? ⟨0, 0, none⟩ = some (.int .i64 m)) :
    Calls Tryz.prog 84 #[.string s, .string sub] w fun e w' => e = .returned (.bool (Lib.contains s.data.toList sub.data.toList)) ∧ w' = w := Any.strings_Contains Tryz.lays144 s sub m w hs hm
def Tryz.lays145_ren : Go.Shelf.Ren := ⟨fun | 145 => 59 | 220 => 83 | 219 => 100 | 217 => 111 | 225 => 112 | 224 => 113 | 267 => 114 | 266 => 123 | 314 => 124 | n => n, fun | 9 => 9 | 4 => 4 | 59 => 79 | 3 => 3 | 5 => 5 | 46 => 39 | 146 => 129 | 51 => 128 | n => n, fun | 1 => 0 | n => n⟩
theorem Tryz.lays145 : Go.Proofs.Lays.n145 Tryz.prog Tryz.lays145_ren := {
  mixed := by kernel_rfl
  f145 := Tryz.func59.trans (congrArg some (by kernel_rfl))
  f217 := Tryz.func111.trans (congrArg some (by kernel_rfl))
  f219 := Tryz.func100.trans (congrArg some (by kernel_rfl))
  f220 := Tryz.func83.trans (congrArg some (by kernel_rfl))
  f224 := Tryz.func113.trans (congrArg some (by kernel_rfl))
  f225 := Tryz.func112.trans (congrArg some (by kernel_rfl))
  f266 := Tryz.func123.trans (congrArg some (by kernel_rfl))
  f267 := Tryz.func114.trans (congrArg some (by kernel_rfl))
  f314 := Tryz.func124.trans (congrArg some (by kernel_rfl))
  t3 := Tryz.underlying3
  a3 := Tryz.isAgg3
  z3 := Tryz.sizeOf3
  v3 := Tryz.zeroValue3
  t4 := Tryz.underlying4
  a4 := Tryz.isAgg4
  z4 := Tryz.sizeOf4
  v4 := Tryz.zeroValue4
  t5 := Tryz.underlying5
  a5 := Tryz.isAgg5
  z5 := Tryz.sizeOf5
  v5 := Tryz.zeroValue5
  t9 := Tryz.underlying9
  a9 := Tryz.isAgg9
  z9 := Tryz.sizeOf9
  v9 := Tryz.zeroValue9
  t46 := Tryz.underlying39
  a46 := Tryz.isAgg39
  z46 := Tryz.sizeOf39
  v46 := Tryz.zeroValue39
  t51 := Tryz.underlying128
  a51 := Tryz.isAgg128
  z51 := Tryz.sizeOf128
  v51 := Tryz.zeroValue128
  t59 := Tryz.underlying79
  a59 := Tryz.isAgg79
  z59 := Tryz.sizeOf79
  v59 := Tryz.zeroValue79
  t146 := Tryz.underlying129
  a146 := Tryz.isAgg129
  z146 := Tryz.sizeOf129
  v146 := Tryz.zeroValue129
  g1 := by kernel_rfl }
open Go.RowKit Go.Lib in
theorem Tryz.strings_Cut (s sep : ByteArray) (m : Int) (w : World) (hs : s.size < 4294967281) (hm : w.cell? ⟨0, 0, none⟩ = some (.int .i64 m)) :
    Calls Tryz.prog 59 #[.string s, .string sep] w fun e w' => e = .returned (.tuple #[.string ⟨(Lib.cut s.data.toList sep.data.toList).1.toArray⟩, .string ⟨(Lib.cut s.data.toList sep.data.toList).2.1.toArray⟩, .bool (Lib.cut s.data.toList sep.data.toList).2.2]) ∧ ∃ n, w' = w.drewN n := Any.strings_Cut Tryz.lays145 s sep m w hs hm
def Tryz.lays146_ren : Go.Shelf.Ren := ⟨fun | 146 => 103 | 221 => 116 | 268 => 126 | 138 => 127 | 143 => 101 | 195 => 135 | 197 => 136 | 218 => 137 | 219 => 100 | 260 => 139 | 217 => 111 | 225 => 112 | 224 => 113 | 267 => 114 | 266 => 123 | 314 => 124 | n => n, fun | 9 => 9 | 31 => 36 | 3 => 3 | 4 => 4 | 0 => 0 | 105 => 139 | 21 => 21 | 5 => 5 | 46 => 39 | 119 => 143 | 139 => 146 | 138 => 145 | 146 => 129 | 51 => 128 | n => n, fun | 1 => 0 | 3 => 4 | 4 => 5 | n => n⟩
theorem Tryz.lays146 : Go.Proofs.Lays.n146 Tryz.prog Tryz.lays146_ren := {
  mixed := by kernel_rfl
  f138 := Tryz.func127.trans (congrArg some (by kernel_rfl))
  f143 := Tryz.func101.trans (congrArg some (by kernel_rfl))
  f146 := Tryz.func103.trans (congrArg some (by kernel_rfl))
  f195 := Tryz.func135.trans (congrArg some (by kernel_rfl))
  f197 := Tryz.func136.trans (congrArg some (by kernel_rfl))
  f217 := Tryz.func111.trans (congrArg some (by kernel_rfl))
  f218 := Tryz.func137.trans (congrArg some (by kernel_rfl))
  f219 := Tryz.func100.trans (congrArg some (by kernel_rfl))
  f221 := Tryz.func116.trans (congrArg some (by kernel_rfl))
  f224 := Tryz.func113.trans (congrArg some (by kernel_rfl))
  f225 := Tryz.func112.trans (congrArg some (by kernel_rfl))
  f260 := Tryz.func139.trans (congrArg some (by kernel_rfl))
  f266 := Tryz.func123.trans (congrArg some (by kernel_rfl))
  f267 := Tryz.func114.trans (congrArg some (by kernel_rfl))
  f268 := Tryz.func126.trans (congrArg some (by kernel_rfl))
  f314 := Tryz.func124.trans (congrArg some (by kernel_rfl))
  t0 := Tryz.underlying0
  a0 := Tryz.isAgg0
  z0 := Tryz.sizeOf0
  v0 := Tryz.zeroValue0
  t3 := Tryz.underlying3
  a3 := Tryz.isAgg3
  z3 := Tryz.sizeOf3
  v3 := Tryz.zeroValue3
  t4 := Tryz.underlying4
  a4 := Tryz.isAgg4
  z4 := Tryz.sizeOf4
  v4 := Tryz.zeroValue4
  t5 := Tryz.underlying5
  a5 := Tryz.isAgg5
  z5 := Tryz.sizeOf5
  v5 := Tryz.zeroValue5
  t9 := Tryz.underlying9
  a9 := Tryz.isAgg9
  z9 := Tryz.sizeOf9
  v9 := Tryz.zeroValue9
  t21 := Tryz.underlying21
  a21 := Tryz.isAgg21
  z21 := Tryz.sizeOf21
  v21 := Tryz.zeroValue21
  t31 := Tryz.underlying36
  a31 := Tryz.isAgg36
  z31 := Tryz.sizeOf36
  v31 := Tryz.zeroValue36
  t46 := Tryz.underlying39
  a46 := Tryz.isAgg39
  z46 := Tryz.sizeOf39
  v46 := Tryz.zeroValue39
  t51 := Tryz.underlying128
  a51 := Tryz.isAgg128
  z51 := Tryz.sizeOf128
  v51 := Tryz.zeroValue128
  t105 := Tryz.underlying139
  a105 := Tryz.isAgg139
  z105 := Tryz.sizeOf139
  v105 := Tryz.zeroValue139
  t119 := Tryz.underlying143
  a119 := Tryz.isAgg143
  z119 := Tryz.sizeOf143
  t138 := Tryz.underlying145
  a138 := Tryz.isAgg145
  z138 := Tryz.sizeOf145
  v138 := Tryz.zeroValue145
  t139 := Tryz.underlying146
  a139 := Tryz.isAgg146
  z139 := Tryz.sizeOf146
  v139 := Tryz.zeroValue146
  t146 := Tryz.underlying129
  a146 := Tryz.isAgg129
  z146 := Tryz.sizeOf129
  v146 := Tryz.zeroValue129
  g1 := by kernel_rfl
  g3 := by kernel_rfl
  g4 := by kernel_rfl }
open Go.RowKit Go.Lib in
theorem Tryz.strings_Split (s sep : ByteArray) (m : Int) (w : World) (hs : s.size < 4294967281) (hm : w.cell? ⟨0, 0, none⟩ = some (.int .i64 m)) (h1 : 1 ≤ sep.size) :
    Calls Tryz.prog 103 #[.string s, .string sep] w fun e w' =>
      e = .returned (.slice (some ⟨w.heap.size, 0, none⟩) (Lib.countB s sep + 1) (Lib.countB s sep + 1)) ∧ w' = w.alloc (.cells ((Lib.splitB sep 0 (Lib.countB s sep) s).map Value.string).toArray 9) := Any.strings_Split Tryz.lays146 (by kernel_rfl) s sep m w hs hm h1
end Go.Proofs
end

section
/- Texts of a proof, joined: words of the print (those that are named here) and printed functions. -/
section
namespace Go.Proofs.YtfnacgojmdbjmaaGreatDoorW.PrintLast
open Go.Proofs.YtfnacgojmdbjmaaGreatDoorW.PrintWords (Aside0)
def readyAt (T : List (List Nat × List Nat)) (l : List Bool) (i : Nat) : Bool := !l.getD i true && match T[i]? with
  | some r => r.1.all (fun j => l.getD j false)
  | none => false
def freeT (T : List (List Nat × List Nat)) (l : List Bool) (i : Nat) : Bool := match T[i]? with
  | some r => r.2.all (fun j => l.getD j true)
  | none => false
def closedT (T : List (List Nat × List Nat)) (l : List Bool) : Bool := (List.range T.length).all fun j => !l.getD j false || match T[j]? with
  | some r => r.1.all (fun k => l.getD k false)
  | none => true
section
variable {md : Region.Mode} {ops : Array Oper} {T : Bool × List (List Nat × List Nat)} {l l' li lj lk : Array Bool} {ds : List Nat} {i j k : Nat}
def lastW (T : List (List Nat × List Nat)) (B : List Nat) (l : List Bool) (ds : List Nat) (i : Nat) : Bool := ds.all fun d => l.getD d true || (decide (d < T.length) && (B.getD d 0).testBit i)
def takeW (T : Bool × List (List Nat × List Nat)) (B : List Nat) (ds : List Nat) (l l' : List Bool) (i : Nat) : Bool := T.1 && freeT T.2 l i && readyAt T.2 l i && closedT T.2 l && lastW T.2 B l ds i && (l.set i true == l')
end
end Go.Proofs.YtfnacgojmdbjmaaGreatDoorW.PrintLast
end
section
namespace Go.Proofs.YtfnacgojmdbjmaaGreatDoorW.PrintLast
section
variable {P : Program} {ops : Array Oper} {Q : Exit → Act → World → Prop} {md : Region.Mode} {S : World → Prop} {ds : List Nat} {T : Bool × List (List Nat × List Nat)}
end
end Go.Proofs.YtfnacgojmdbjmaaGreatDoorW.PrintLast
end
section
namespace Go.Proofs.YtfnacgojmdbjmaaGreatDoorW.PrintWords
open Go.RowKit
namespace Kd
section
variable {α : Type} {d : Kd α} {W : World} {g n : Nat} {S ok : Nat → Prop} {A : Option Addr} {ad : Addr} {xs : List α}
end
end Kd
end Go.Proofs.YtfnacgojmdbjmaaGreatDoorW.PrintWords
end
section
namespace Go.Proofs.YtfnacgojmdbjmaaGreatDoorW.PrintWords
open Go.RowKit
section
variable {w w' u : World} {m B g : Nat} {o : Obj} {row : Option Nat} {S : Nat → Prop} {a : Addr} {v : Value}
theorem cell_at (hq : w.drewN m = w') (h : w.cell? a = some v) : w'.cell? a = some v := by subst hq; exact h
end
namespace Kd
section
variable {α : Type} {d : Kd α} {e base n m : Nat} {ok : Nat → Prop} {w w' : World} {v : Value} {A : Option Addr} {xs : List α}
end
end Kd
end Go.Proofs.YtfnacgojmdbjmaaGreatDoorW.PrintWords
end
section
namespace Go.Proofs.YtfnacgojmdbjmaaGreatDoorW.PrintWords
open Go.RowKit
section
variable {P : Program} {d : Nat} {xs ys : Array Value} {f : Field} {fs : List Field} {a b : Value} {r s : Bool} {w : World}
end
end Go.Proofs.YtfnacgojmdbjmaaGreatDoorW.PrintWords
end
section
namespace Go.Proofs.YtfnacgojmdbjmaaGreatDoorW.PrintWords
theorem Reps.one {α : Type} {R : α → List Value → Prop} {ps : List α} {cs : List Value} {p : α} {v : Value} (hp : R p [v]) (h : Reps R 1 ps cs) : Reps R 1 (p :: ps) (v :: cs) := by
  refine ⟨by simp [h.1], fun j q hq => ?_⟩
  cases j with
  | zero =>
    simp only [List.getElem?_cons_zero, Option.some.injEq] at hq
    subst hq
    simpa using hp
  | succ j =>
    simp only [List.getElem?_cons_succ] at hq
    have h1 := h.2 j q hq
    simpa [Nat.mul_one] using h1
end Go.Proofs.YtfnacgojmdbjmaaGreatDoorW.PrintWords
end
section
namespace Go.Proofs.YtfnacgojmdbjmaaGreatDoorW.PrintLast
section
variable {P : Program} {ops : Array Oper} {Q : Exit → Act → World → Prop} {md : Region.Mode} {T : Bool × List (List Nat × List Nat)} {B : List Nat} {O : List Nat} {b : Nat → Bool} {i j n : Nat}
def Closed (T : List (List Nat × List Nat)) (O : List Nat) (b : Nat → Bool) : Prop := ∀ d r, T[d]? = some r → O.contains d = true → b d = true → ∀ n ∈ r.1, O.contains n = true → b n = true
end
end Go.Proofs.YtfnacgojmdbjmaaGreatDoorW.PrintLast
end
section
namespace Go.Proofs.YtfnacgojmdbjmaaGreatDoorW.PrintWords
open Go.RowKit
end Go.Proofs.YtfnacgojmdbjmaaGreatDoorW.PrintWords
namespace Go.Proofs.YtfnacgojmdbjmaaGreatDoorW.PrintLast
section
variable {ops : Array Oper} {a : Act} {o og : Oper} {g : Nat} {t : Tmp} {u : Bool}
end
end Go.Proofs.YtfnacgojmdbjmaaGreatDoorW.PrintLast
end
section
namespace Go.Proofs.YtfnacgojmdbjmaaGreatDoorW.PrintWords
open Go.RowKit
section
variable {P : Program} {ops : Array Oper} {rest : List Oper} {o : Oper} {a : Act} {Q : Exit → Act → World → Prop} {W : World}
theorem gate_guard (hw : Region.wanted o (yielded ops a.tmps) = true) (h : wpList P ops Q ({ o with guard := none } :: rest) a W) : wpList P ops Q (o :: rest) a W := by
  have h1 : Region.wanted { o with guard := none } (yielded ops a.tmps) = true := rfl
  unfold wpList at h ⊢
  rw [if_pos h1] at h
  rw [if_pos hw]
  exact h
end
end Go.Proofs.YtfnacgojmdbjmaaGreatDoorW.PrintWords
end
end

section
/- Texts of a proof, joined: words of the print (those that are named here) and printed functions. -/
section
namespace Go.Proofs.YtfnacgojmdbjmaaGreatDoor.PRD
open Go.RowKit Go.Proofs.YtfnacgojmdbjmaaGreatDoorW.PrintWords Go.Proofs.YtfnacgojmdbjmaaGreatDoorW.PrintLast Go.Proofs.YtfnacgojmdbjmaaGreatDoorW.PrintMore
attribute [local go_sem] max2_int min2_int max_two min_two max_three min_three max_four min_four
open Go.Det (inQ M64 M128 qn addN highN clampN)
set_option linter.unusedVariables false
set_option linter.unusedSimpArgs false
def errW : Option Int → Value
  | none => .nilIface
  | some c => .iface 0 (.int .i64 c)
theorem errW_none : errW none = .nilIface := rfl
theorem errW_some (c : Int) : errW (some c) = .iface 0 (.int .i64 c) := rfl
theorem info30 : (Tryz.prog.info? 30).map (fun i => (i.zero, i.size, i.bytes)) = some (some (.agg #[(.int .i64 0), (.int .u64 0), (.int .u64 0), (.int .i64 0)]), 4, 32) := by kernel_rfl
structure S26 where
  f0 : Int
  f1 : Int
def k26 : Kd S26 := Kd.iso (Kd.pair (Kd.int .u64) (Kd.int .u64)) (fun x : S26 => (x.f0, x.f1))
theorem k26_openM {w : World} {base : Nat} {ok : Nat → Prop} {x : S26} {cs : List Value} (h : k26.M w base ok x cs) : cs = [.int .u64 x.f0, .int .u64 x.f1] := by
  obtain ⟨_, _, rfl, rfl, rfl⟩ := h
  exact rfl
theorem k26_mkM (w : World) (base : Nat) (ok : Nat → Prop) (x : S26)  : k26.M w base ok x [.int .u64 x.f0, .int .u64 x.f1] := ⟨[.int .u64 x.f0], [.int .u64 x.f1], rfl, rfl, rfl⟩
structure S28 where
  f0 : Int
  f1 : S26
def k28 : Kd S28 := Kd.iso (Kd.pair (Kd.int .i64) k26) (fun x : S28 => (x.f0, x.f1))
theorem k28_openM {w : World} {base : Nat} {ok : Nat → Prop} {x : S28} {cs : List Value} (h : k28.M w base ok x cs) : cs = [.int .i64 x.f0, .int .u64 x.f1.f0, .int .u64 x.f1.f1] := by
  obtain ⟨_, _, rfl, rfl, s1⟩ := h
  obtain rfl := k26_openM s1
  exact rfl
theorem k28_mkM (w : World) (base : Nat) (ok : Nat → Prop) (x : S28)  : k28.M w base ok x [.int .i64 x.f0, .int .u64 x.f1.f0, .int .u64 x.f1.f1] := ⟨[.int .i64 x.f0], [.int .u64 x.f1.f0, .int .u64 x.f1.f1], rfl, rfl, (k26_mkM w base ok x.f1 )⟩
structure S30 where
  f0 : S28
  f1 : Int
def k30 : Kd S30 := Kd.iso (Kd.pair k28 (Kd.int .i64)) (fun x : S30 => (x.f0, x.f1))
theorem k30_openM {w : World} {base : Nat} {ok : Nat → Prop} {x : S30} {cs : List Value} (h : k30.M w base ok x cs) : cs = [.int .i64 x.f0.f0, .int .u64 x.f0.f1.f0, .int .u64 x.f0.f1.f1, .int .i64 x.f1] := by
  obtain ⟨_, _, rfl, s0, rfl⟩ := h
  obtain rfl := k28_openM s0
  exact rfl
theorem k30_mkM (w : World) (base : Nat) (ok : Nat → Prop) (x : S30)  : k30.M w base ok x [.int .i64 x.f0.f0, .int .u64 x.f0.f1.f0, .int .u64 x.f0.f1.f1, .int .i64 x.f1] := ⟨[.int .i64 x.f0.f0, .int .u64 x.f0.f1.f0, .int .u64 x.f0.f1.f1], [.int .i64 x.f1], rfl, (k28_mkM w base ok x.f0 ), rfl⟩
end Go.Proofs.YtfnacgojmdbjmaaGreatDoor.PRD
end
section
namespace Go.Proofs.YtfnacgojmdbjmaaGreatDoor.PRD
open Go.RowKit Go.Proofs.YtfnacgojmdbjmaaGreatDoorW.PrintWords Go.Proofs.YtfnacgojmdbjmaaGreatDoorW.PrintLast Go.Proofs.YtfnacgojmdbjmaaGreatDoorW.PrintMore
attribute [local go_sem] max2_int min2_int max_two min_two max_three min_three max_four min_four
open Go.Det (inQ M64 M128 qn addN highN clampN)
set_option linter.unusedVariables false
set_option linter.unusedSimpArgs false
end Go.Proofs.YtfnacgojmdbjmaaGreatDoor.PRD
end
end

section
/- Words of the print: those that this claim names and that its other texts do not hold; the others were left out by a program of this claim. -/
section
set_option linter.unusedVariables false
set_option linter.unusedSimpArgs false
namespace Go.Proofs.YtfnacgojmdbjmaaGreatDoorW.PrintWords
open Go.RowKit
def nums (k : IntKind) (xs : List Int) : List Value := xs.map fun x => .int k x
theorem own_reads {w : World} {base n : Nat} {e : TypeId} {k : IntKind} {v : Value} {xs : List Int} (h : w.ownsRow base e 1 v n (nums k xs)) : ∃ A c, v = .slice A n c ∧ ReadsInt w k A n xs := by
  have hl : xs.length = n := by have := h.1; simp [nums] at this; exact this
  rcases Nat.eq_zero_or_pos n with h0 | h0
  · rcases h.2 with ⟨rfl, rfl⟩ | ⟨g, cap, cur, rfl, _⟩
    · exact ⟨none, 0, rfl, hl, by omega, fun hp => absurd hp (by omega)⟩
    · exact ⟨_, cap, rfl, hl, by omega, fun hp => absurd hp (by omega)⟩
  · obtain ⟨g, cap, rfl, _, _⟩ := h.form h0
    have hm : n ≤ 9223372036854775807 := by
      rcases h.2 with ⟨_, h1⟩ | ⟨g', cap', cur, he, _, _, h1, h2, _⟩
      · omega
      · simp only [maxLen] at h2
        omega
    refine ⟨_, cap, rfl, hl, hm, fun _ => ⟨_, rfl, fun j hj => h.cells (g := g) rfl j _ ?_⟩⟩
    simp [nums, List.getElem?_eq_getElem (show j < xs.length by omega), List.getD_eq_getElem?_getD]
section
variable {P : Program} {ops : Array Oper} {rest : List Oper} {o : Oper} {a : Act} {Q : Exit → Act → World → Prop}
end
section
variable {P : Program}
end
section
variable {P : Program} {ops : Array Oper} {rest : List Oper} {o : Oper} {a : Act} {Q : Exit → Act → World → Prop}
end
section
variable {P : Program} {ops : Array Oper} {rest : List Oper} {o : Oper} {a : Act} {Q : Exit → Act → World → Prop}
end
section
variable {P : Program} {ops : Array Oper} {o : Oper} {a : Act} {Q : Exit → Act → World → Prop} {K : Act → World → Prop}
end
section
variable {α : Type} {enc : α → Value} {d : α}
def encs (enc : α → Value) (xs : List α) : List Value := xs.map enc
theorem encs_length (xs : List α) : (encs enc xs).length = xs.length := by simp [encs]
end
section
variable {α : Type} {P : Program} {ops : Array Oper} {rest : List Oper} {o : Oper} {a : Act} {Q : Exit → Act → World → Prop}
end
section
variable {P : Program}
end
section
variable {α : Type} {R R' : α → List Value → Prop} {e : TypeId} {size : Nat} {w w1 : World} {base : Nat} {v : Value} {ps : List α}
end
section
variable {P : Program} {ops : Array Oper} {rest : List Oper} {o : Oper} {a : Act} {Q : Exit → Act → World → Prop} {α : Type} {R : α → List Value → Prop}
end
section
variable {P : Program} {ops : Array Oper} {o : Oper} {a : Act} {Q : Exit → Act → World → Prop} {K : Act → World → Prop} {α : Type} {R : α → List Value → Prop}
end
theorem ReadsRow.inner_ {α : Type} {R : α → List Value → Prop} {size : Nat} {w : World} {ad : Addr} {n : Nat} {ps : List α} (h : ReadsRow R size w (some ad) n ps) :
    ∃ inner, Reps R size ps inner ∧ ∀ j u, inner[j]? = some u → w.cell? (ad.add j) = some u := by
  have key : ∀ m, m ≤ ps.length → ∃ inner, Reps R size (ps.take m) inner ∧ ∀ j u, inner[j]? = some u → w.cell? (ad.add j) = some u := by
    intro m
    induction m with
    | zero => exact fun _ => ⟨[], Reps.none _ _, fun j u hu => by simp at hu⟩
    | succ m ih =>
      intro hm
      obtain ⟨inner, hr, hc⟩ := ih (by omega)
      obtain ⟨ad', he, hcell⟩ := h.2.2 (by have := h.1; omega)
      injection he with he
      subst he
      obtain ⟨c, hcl, hp, hcc⟩ := hcell m _ (List.getElem?_eq_getElem (show m < ps.length by omega))
      refine ⟨inner ++ c, ?_, fun j u hu => ?_⟩
      · rw [List.take_succ_eq_append_getElem (show m < ps.length by omega)]
        exact hr.snoc hp hcl
      · have hil : inner.length = m * size := by rw [hr.1, List.length_take, Nat.min_eq_left (by omega)]
        rcases Nat.lt_or_ge j inner.length with hj | hj
        · rw [List.getElem?_append_left hj] at hu
          exact hc j u hu
        · rw [List.getElem?_append_right hj] at hu
          have := hcc (j - inner.length) u hu
          rwa [hil, Nat.add_sub_cancel' (by omega)] at this
  obtain ⟨inner, hr, hc⟩ := key ps.length (Nat.le_refl _)
  rw [List.take_length] at hr
  exact ⟨inner, hr, hc⟩
section
variable {α : Type} {P : Program}
end
section
variable {P : Program} {ops : Array Oper} {rest : List Oper} {o : Oper} {a : Act} {Q : Exit → Act → World → Prop}
end
namespace Kd
section
variable {α : Type} {d : Kd α} {e : Nat} {w w1 : World} {base : Nat} {ok ok' : Nat → Prop} {v : Value} {xs : List α}
theorem M_below {x : α} {cs : List Value} (h : d.M w base ok x cs) (hb : Below w.heap.size w w1) : d.M w1 base ok x cs := M_step h (fun k _ hk => hb.block k hk)
end
section
variable {P : Program} {ops : Array Oper} {rest : List Oper} {o : Oper} {a : Act} {Q : Exit → Act → World → Prop} {α : Type}
end
section
variable {P : Program} {ops : Array Oper} {o : Oper} {a : Act} {Q : Exit → Act → World → Prop} {Kc : Act → World → Prop} {α : Type}
end
theorem reps_scalar {α : Type} {enc : α → Value} (xs : List α) : Reps (fun (x : α) (cs : List Value) => cs = [enc x]) 1 xs (encs enc xs) := by
  refine ⟨by simp [encs], fun j p hj => ?_⟩
  obtain ⟨hl, hp⟩ := List.getElem?_eq_some_iff.1 hj
  have hl' : j < (encs enc xs).length := by rw [encs_length]; exact hl
  rw [Nat.mul_one, List.drop_eq_getElem_cons hl']
  simp [encs, hp]
theorem reads_of_C {α : Type} {enc : α → Value} {d : α} {h1 : ∀ x, (enc x).oneCell' = true} {w : World} {A : Option Addr} {n : Nat} {xs : List α} (h : (scalar enc h1).C w A n xs) : ReadsOf enc d w A n xs := by
  refine ⟨h.1, h.2.1, fun hn => ?_⟩
  obtain ⟨ad, e, hc⟩ := h.2.2 hn
  refine ⟨ad, e, fun j hj => ?_⟩
  have hl : j < xs.length := by have := h.1; omega
  obtain ⟨c, _, hK, hcell⟩ := hc j _ (List.getElem?_eq_getElem hl)
  have hK' : c = [enc xs[j]] := hK
  subst hK'
  have := hcell 0 _ rfl
  simpa [scalar, List.getD_eq_getElem?_getD, List.getElem?_eq_getElem hl] using this
end Kd
namespace Kd
section
variable {α : Type} {F : Kd α → Kd α} {sz : Nat} {E : List Nat} {hs : ∀ n, (upto F sz E n).sz = sz} {hE : ∀ n q, q ∈ (upto F sz E n).E → q ∈ E}
end
end Kd
namespace Kd
theorem R_after {α : Type} {d : Kd α} {e base : Nat} {ok : Nat → Prop} {W w1 : World} {u v v1 : Value} {xs : List α} (h : d.R e W base (fun k => ok k ∧ some k ≠ v.ownBlock) u xs) (hg : W.grownBy w1 v.ownBlock) (hat : v1.ownBlock = v.ownBlock ∨ ∃ b, v1.ownBlock = some b ∧ W.heap.size ≤ b) : d.R e w1 base (fun k => ok k ∧ some k ≠ v1.ownBlock) u xs := by
  refine R_mono (R_move (R_bound h) (fun k hk => hg.block k hk.2.2.1 hk.1.2)) (fun k hk => ⟨hk.1.1, ?_⟩)
  rcases hat with hat | ⟨b, hb, hle⟩
  · rw [hat]; exact hk.1.2
  · rw [hb]
    intro he
    injection he with he
    have := hk.2.2.1
    omega
end Kd
namespace Kd
section
variable {α β : Type} {d : Kd α} {d' : Kd β} {e e' : Nat} {w w1 W : World} {base b b' : Nat} {ok ok' okv oku : Nat → Prop} {v u : Value} {xs : List α} {ys : List β}
theorem C_alloc {A : Option Addr} {n : Nat} (h : d.C w A n xs) (o : Obj) : d.C (w.alloc o) A n xs := C_below h (below_alloc (Below.refl _ _) o)
theorem C_drew {A : Option Addr} {n : Nat} (h : d.C w A n xs) : d.C w.drew A n xs := C_below h (below_drew (Below.refl _ _))
theorem C_drewN {A : Option Addr} {n : Nat} (h : d.C w A n xs) (m : Nat) : d.C (w.drewN m) A n xs := C_below h (pw_below_drewN (Below.refl _ _) m)
end
section
variable {w W : World} {A : Option Addr} {n : Nat}
theorem at_int {k : IntKind} {xs : List Int} (h : (Kd.int k).C w A n xs) (i : Int) (h0 : 0 ≤ i) (h1 : i < n) : ∃ ad, A = some ad ∧ w.cell? (ad.add i.toNat) = some (.int k (rd xs i)) :=
  ReadsOf.at_ (reads_of_C (enc := Value.int k) (d := (0 : Int)) (h1 := fun _ => rfl) h) i h0 h1
theorem at_string {xs : List ByteArray} (h : Kd.string.C w A n xs) (i : Int) (h0 : 0 ≤ i) (h1 : i < n) : ∃ ad, A = some ad ∧ w.cell? (ad.add i.toNat) = some (.string (rdOf ByteArray.empty xs i)) :=
  ReadsOf.at_ (reads_of_C (enc := Value.string) (d := ByteArray.empty) (h1 := fun _ => rfl) h) i h0 h1
variable {α : Type} {enc : α → Value} {h1 : ∀ x, (enc x).oneCell' = true} {e base g cap : Nat} {ok : Nat → Prop} {xs : List α}
end
section
variable {P : Program} {ops : Array Oper} {rest : List Oper} {o : Oper} {a : Act} {Q : Exit → Act → World → Prop}
variable {α : Type}
theorem R_lit (d : Kd α) {w0 W : World} (base e : Nat) (hgd : o.guard = none) {N : Tmp} (_hd : o.dst = some N) {xs : List α} {inner : List Value} {ok okp : Nat → Prop}
    (hrun : (execOp a.eval o).run P W = .ok (.value (.slice (some ⟨W.heap.size, 0, none⟩) xs.length xs.length)) (W.alloc (.cells inner.toArray e)))
    (hrep : Reps (d.M W base okp) d.sz xs inner) (hok : ∀ k, okp k → ok k) (hfresh : ok W.heap.size) (HB : Below base w0 W) (hbase : base ≤ W.heap.size) (hm : xs.length ≤ 9223372036854775807)
    (h : ∀ v1 w1, d.R e w1 base ok v1 xs → Below base w0 w1 → W.grownBy w1 none → (∃ b, v1.ownBlock = some b ∧ W.heap.size ≤ b) → wpList P ops Q rest (a.put o.dst v1) w1) : wpList P ops Q (o :: rest) a W := by
  refine event_run hgd hrun (h _ _ ⟨fun k hk => ?_, inner, ?_, ?_⟩ (HB.alloc hbase _) (World.grownBy_alloc W _ none) ⟨W.heap.size, by simp [Value.ownBlock], Nat.le_refl _⟩)
  · have : W.heap.size = k := by simpa [Value.ownBlock] using hk
    subst this
    exact hfresh
  · have h2 := World.ownsRow_lit (base := base) (e := e) (size := d.sz) W inner.toArray xs.length hbase (by simpa [maxLen] using hm) (by simpa using hrep.1)
    simpa using h2
  · refine hrep.imp_ (fun p c hp => d.M_mono (fun k hk => ⟨hok k hk.1, fun he => ?_⟩) (M_below (d.M_bound hp) (below_alloc (Below.refl _ _) _)))
    have h3 : k = W.heap.size := by simpa [Value.ownBlock] using he
    have := hk.2.2.1
    omega
end
end Kd
section
variable {P : Program}
end
section
variable {w w1 : World} {base n size : Nat} {e : TypeId} {v : Value} {xs : List Value}
end
section
variable {P : Program}
end
namespace Kd
section
variable {α : Type} {d : Kd α} {e : Nat} {w w1 W : World} {base : Nat} {ok ok' : Nat → Prop} {v : Value} {xs : List α}
end
section
variable {P : Program} {ops : Array Oper} {rest : List Oper} {o : Oper} {a : Act} {Q' : Exit → Act → World → Prop} {Kc : Act → World → Prop} {α : Type}
end
end Kd
namespace Kd
section
variable {α : Type} {d : Kd α} {e e' : Nat} {w w1 W : World} {base : Nat} {ok : Nat → Prop} {u v : Value} {xs : List α}
theorem R_typed (h : d.R e w base ok v xs) : ∀ k, v.ownBlock = some k → ∃ cells, w.heap[k]? = some (.cells cells e (0, 0)) := by
  obtain ⟨inner, ho⟩ := R_own h
  exact fun k hk => own_typed ho k hk
theorem R_over' (h : d.R e W base ok u xs) (hty : ∀ k, v.ownBlock = some k → ∃ cells, W.heap[k]? = some (.cells cells e' (0, 0))) (ht : ∀ q, q ∈ e :: d.E → q ≠ e') (hg : W.grownBy w1 v.ownBlock) : d.R e w1 base ok u xs := by
  refine R_mono (R_move (R_bound h) (fun k hk => hg.block k hk.2.2.1 (fun he => ?_))) (fun _ hk => hk.1)
  obtain ⟨_, _, _, q, hq, cells, hc⟩ := hk
  obtain ⟨cells', hc'⟩ := hty k he.symm
  rw [hc] at hc'
  injection hc' with hc'
  injection hc' with _ hc'
  exact ht q hq hc'
theorem fresh' (hlt : ∀ k, u.ownBlock = some k → k < W.heap.size) : ∀ k, W.heap.size ≤ k → some k ≠ u.ownBlock := fun k hk he => by have := hlt k he.symm; omega
end
end Kd
namespace Kd
section
variable {α : Type} {d : Kd α} {e base g n cap : Nat} {ok okp : Nat → Prop} {W : World} {xs : List α}
end
end Kd
namespace Kd
section
variable {α : Type} {F : Kd α → Kd α} {sz : Nat} {E : List Nat} {hs : ∀ n, (upto F sz E n).sz = sz} {hE : ∀ n q, q ∈ (upto F sz E n).E → q ∈ E}
end
end Kd
namespace Kd
theorem reps_append {α : Type} {R : α → List Value → Prop} {size : Nat} {ps qs : List α} {cs ds : List Value} (h : Reps R size ps cs) (h' : Reps R size qs ds) : Reps R size (ps ++ qs) (cs ++ ds) := by
  refine ⟨by rw [List.length_append, List.length_append, h.1, h'.1, Nat.add_mul], fun j p hj => ?_⟩
  rcases Nat.lt_or_ge j ps.length with hlt | hge
  · rw [List.getElem?_append_left hlt] at hj
    have hle : j * size + size ≤ cs.length := by rw [h.1, ← Nat.succ_mul]; exact Nat.mul_le_mul_right _ hlt
    rw [List.drop_append_of_le_length (by omega), List.take_append_of_le_length (by rw [List.length_drop]; omega)]
    exact h.2 j p hj
  · rw [List.getElem?_append_right hge] at hj
    have h2 := h'.2 (j - ps.length) p hj
    have hle : ps.length * size ≤ j * size := Nat.mul_le_mul_right _ hge
    rw [List.drop_append, List.drop_eq_nil_of_le (by rw [h.1]; exact hle), List.nil_append, h.1, ← Nat.sub_mul]
    exact h2
section
variable {P : Program} {ops : Array Oper} {rest : List Oper} {o : Oper} {a : Act} {Q : Exit → Act → World → Prop} {α : Type}
theorem R_append_rows (d : Kd α) {Rr : α → List Value → Prop} {w0 W : World} (base : Nat) (hgd : o.guard = none) (s x : Operand) (t e : TypeId) (z : Value) (bytes : Nat)
    (ho : o.op = .call { callee := .builtin .append, args := #[s, x], argTypes := #[t, t] })
    (ht : P.underlying t = some (.slice e)) (hinfo : (P.info? e).map (fun i => (i.zero, i.size, i.bytes)) = some (some z, d.sz, bytes)) (hz : z.cells.size = d.sz) (hs0 : 0 < d.sz) (hb0 : 0 < bytes)
    (v : Value) (xs ys : List α) (A : Option Addr) (m c : Nat) (ok okp : Nat → Prop) (hs : a.eval s = v) (hx : a.eval x = .slice A m c)
    (HO : d.R e W base ok v xs) (HR : ReadsRow Rr d.sz W A m ys) (hKM : ∀ x cs, Rr x cs → d.M W base okp x cs) (hokp : ∀ k, okp k → ok k ∧ some k ≠ v.ownBlock) (hfresh : ∀ k, W.heap.size ≤ k → ok k)
    (HB : Below base w0 W) (hbase : base ≤ W.heap.size) (hl : (xs.length + m) * bytes ≤ 140737488355328)
    (h : ∀ v1 w1, d.R e w1 base ok v1 (xs ++ ys) → Below base w0 w1 → W.grownBy w1 v.ownBlock → (v1.ownBlock = v.ownBlock ∨ ∃ b, v1.ownBlock = some b ∧ W.heap.size ≤ b) → wpList P ops Q rest (a.put o.dst v1) w1) :
    wpList P ops Q (o :: rest) a W := by
  obtain ⟨i0, hi, hzz⟩ := Option.map_eq_some_iff.1 hinfo
  simp only [Prod.mk.injEq] at hzz
  obtain ⟨hz0, hz1, hz2⟩ := hzz
  have hm : ys.length = m := HR.1
  have hlen : xs.length + m ≤ 140737488355328 := Nat.le_trans (Nat.le_mul_of_pos_right _ hb0) hl
  obtain ⟨hok, inner, hown, hr⟩ := HO
  have hrun : ∃ v1 w1, (Builtin.append_ #[t, t] o.type #[v, .slice A m c]).run P W = .ok v1 w1 ∧ d.R e w1 base ok v1 (xs ++ ys) ∧ W.grownBy w1 v.ownBlock ∧ (v1.ownBlock = v.ownBlock ∨ ∃ b, v1.ownBlock = some b ∧ W.heap.size ≤ b) := by
    rcases A with _ | ad
    · have h0 : m = 0 := by
        rcases Nat.eq_zero_or_pos m with h0 | h0
        · exact h0
        · obtain ⟨ad, h, _⟩ := HR.2.2 h0
          cases h
      subst h0
      obtain rfl : ys = [] := List.eq_nil_of_length_eq_zero hm
      refine ⟨v, W, ?_, by rw [List.append_nil]; exact ⟨hok, inner, hown, hr⟩, World.grownBy.refl W _, .inl rfl⟩
      rcases hown.2 with ⟨rfl, hn⟩ | ⟨g, cap, cur, rfl, _, _, hnc, _⟩
      · simp [Builtin.append_, run_underlying ht, sizeOf, typeInfo, hi, Builtin.lenOf, Builtin.firstCells]
      · simp [Builtin.append_, run_underlying ht, sizeOf, typeInfo, hi, Builtin.lenOf, Builtin.firstCells, hnc, storeCells]
    · obtain ⟨news, hnr, hnc⟩ := ReadsRow.inner_ HR
      have hnM : Reps (d.M W base okp) d.sz ys news := hnr.imp_ (fun p c hp => hKM p c hp)
      have hone : ∀ u ∈ news, u.oneCell' = true := by
        intro u hu
        obtain ⟨q, hq, rfl⟩ := List.mem_iff_getElem.1 hu
        have hql : q / d.sz < ys.length := by
          rw [Nat.div_lt_iff_lt_mul hs0]
          rw [← hnM.1]
          exact hq
        have hc := hnM.2 (q / d.sz) _ (List.getElem?_eq_getElem hql)
        refine d.K_one (d.K_of_M hc) _ ?_
        rw [List.mem_iff_getElem?]
        refine ⟨q % d.sz, ?_⟩
        rw [List.getElem?_take, if_pos (Nat.mod_lt _ hs0), List.getElem?_drop, Nat.mul_comm, Nat.div_add_mod, List.getElem?_eq_getElem hq]
      obtain ⟨v1, w1, hrun, h2, hg, _, hat⟩ := run_append_own_at (P := P) W base t o.type e i0 z d.sz bytes ht hi hz0 hz1 hz2 hz hs0 v xs.length inner hown ad m c news (by rw [hnM.1, hm]) hnc hone (by simp only [maxLen]; omega) hl hbase
      have hat' : v1.ownBlock = v.ownBlock ∨ ∃ b, v1.ownBlock = some b ∧ W.heap.size ≤ b := by
        rcases hat with hat | hat
        · exact .inl hat
        · exact .inr ⟨_, hat, Nat.le_refl _⟩
      have hne : ∀ k, some k ≠ v.ownBlock → k < W.heap.size → some k ≠ v1.ownBlock := by
        intro k hk hlt
        rcases hat' with hat | ⟨b, hb, hle⟩
        · rw [hat]; exact hk
        · rw [hb]
          intro he
          injection he with he
          omega
      have step : ∀ {q : α} {c : List Value} {o : Nat → Prop}, d.M W base o q c → (∀ k, o k → ok k ∧ some k ≠ v.ownBlock) → d.M w1 base (fun k => ok k ∧ some k ≠ v1.ownBlock) q c := by
        intro q c o hq ho
        have h1 := d.M_move (w1 := w1) (fun k hk => hg.block k hk.2.2.1 (ho k hk.1).2) (d.M_bound hq)
        exact d.M_mono (fun k hk => ⟨(ho k hk.1).1, hne k (ho k hk.1).2 hk.2.2.1⟩) h1
      refine ⟨v1, w1, hrun, ⟨fun k hk => ?_, inner ++ news, by rw [List.length_append, hm]; exact h2, reps_append (hr.imp_ (fun _ _ hq => step hq (fun _ hk => hk))) (hnM.imp_ (fun _ _ hq => step hq hokp))⟩, hg, hat'⟩
      rcases hat' with hat | ⟨b, hb, hle⟩
      · exact hok k (hat ▸ hk)
      · rw [hb] at hk
        injection hk with hk
        exact hfresh k (by omega)
  obtain ⟨v1, w1, hr1, h1, hg, hat⟩ := hrun
  refine wpList_plain hgd fun K hK => ?_
  unfold Oper.wp execOp
  simp only [ho, resolve, invoke, builtin, Sem.run_bind, Sem.run_pure, Result.andThen_ok, List.map_toArray, List.map_cons, List.map_nil, hs, hx, hr1]
  exact hK _ _ (h v1 w1 h1 (HB.grown hg hbase (own_base hown)) hg hat)
end
end Kd
namespace Kd
section
variable {P : Program} {ops : Array Oper} {rest : List Oper} {o : Oper} {a : Act} {Q : Exit → Act → World → Prop} {α : Type}
end
end Kd
namespace Kd
section
variable {α : Type} {k : Kd α} {w : World} {A : Option Addr} {xs : List α} {m c : Nat}
end
end Kd
section
variable {P : Program}
end
namespace Kd
section
variable {α β : Type} {d : Kd α} {d' : Kd β} {e e' base base' n : Nat} {ok ok' : Nat → Prop} {w W w1 W1 : World} {v u : Value} {xs : List α} {ys : List β} {A : Option Addr} {c : Nat}
end
section
variable {α : Type} {enc : α → Value} {h1 : ∀ x, (enc x).oneCell' = true} {w W : World} {A : Option Addr} {n g : Nat} {xs : List α}
end
end Kd
namespace Kd
section
variable {α : Type} {d : Kd α} {e base g : Nat} {ok : Nat → Prop} {w w1 : World} {v : Value} {xs : List α} {o : Obj}
end
end Kd
section
variable {P : Program} {ops : Array Oper} {rest : List Oper} {o : Oper} {a : Act} {Q : Exit → Act → World → Prop}
end
namespace Kd
section
variable {α : Type} {enc : α → Value} {h1 : ∀ x, (enc x).oneCell' = true} {e base g n cap : Nat} {ok : Nat → Prop} {W : World} {xs : List α}
end
end Kd
section
variable {P : Program} {ops : Array Oper} {rest : List Oper} {o : Oper} {a : Act} {Q : Exit → Act → World → Prop}
end
namespace Kd
section
variable {α : Type} {enc : α → Value} {h1 : ∀ x, (enc x).oneCell' = true} {e base g n cap : Nat} {ok : Nat → Prop} {W : World} {xs : List α}
end
end Kd
section
variable {P : Program} {ops : Array Oper} {rest : List Oper} {o : Oper} {a : Act} {Q : Exit → Act → World → Prop} {W : World}
end
section
variable {P : Program} {ops : Array Oper} {o : Oper} {a : Act} {Q : Exit → Act → World → Prop} {Kc : Act → World → Prop}
namespace Kd
variable {α : Type}
end Kd
end
section
variable {P : Program} {tmps : Array Value} {w : World}
end
namespace Kd
section
variable {P : Program} {α : Type}
end
section
variable {P : Program} {ops : Array Oper} {rest : List Oper} {o : Oper} {a : Act} {Q : Exit → Act → World → Prop} {Kc : Act → World → Prop} {α : Type}
end
end Kd
end Go.Proofs.YtfnacgojmdbjmaaGreatDoorW.PrintWords
end
section
namespace Go.Proofs.YtfnacgojmdbjmaaGreatDoorW.PrintMore
open Go.RowKit Go.Proofs.YtfnacgojmdbjmaaGreatDoorW.PrintWords
namespace Kd
open Go.Proofs.YtfnacgojmdbjmaaGreatDoorW.PrintWords.Kd
end Kd
namespace Kd
open Go.Proofs.YtfnacgojmdbjmaaGreatDoorW.PrintWords.Kd
section
variable {α : Type} {d : Kd α} {e base g N : Nat} {ok : Nat → Prop} {W w1 : World} {u v : Value} {xs : List α}
end
end Kd
end Go.Proofs.YtfnacgojmdbjmaaGreatDoorW.PrintMore
namespace Go.Proofs.YtfnacgojmdbjmaaGreatDoorW.PrintWords
open Go.RowKit
section
variable {P : Program} {ops : Array Oper} {rest : List Oper} {o : Oper} {a : Act} {Q : Exit → Act → World → Prop} {W : World}
end
namespace Kd
section
variable {α : Type} {d : Kd α} {e base : Nat} {ok : Nat → Prop} {W w1 : World} {v : Value} {xs : List α}
end
section
variable {α : Type} {d : Kd α} {e base g n cap : Nat} {ok oki okp : Nat → Prop} {W : World} {xs : List α} {i : Int} {c : List Value}
end
section
variable {α : Type} {d : Kd α} {e base b b' g N : Nat} {ok ok1 : Nat → Prop} {W W2 w1 : World} {u v : Value} {xs ys : List α} {S : Nat → Prop}
end
end Kd
end Go.Proofs.YtfnacgojmdbjmaaGreatDoorW.PrintWords
namespace Go.Proofs.YtfnacgojmdbjmaaGreatDoorW.PrintWords
open Go.RowKit
namespace Kd
section
variable {α β : Type} {d : Kd α} {e base base' n m c g N' lo hi : Nat} {ok ok' S : Nat → Prop} {w W w1 : World} {A : Option Addr} {ad : Addr} {u v v1 : Value} {xs : List α}
end
end Kd
end Go.Proofs.YtfnacgojmdbjmaaGreatDoorW.PrintWords
end
end

section
/- Contracts of the library's functions on texts, at worlds in which the listed tables lie, in the words of the printed functions. -/
namespace Go.Proofs.YtfnacgojmdbjmaaGreatDoor
set_option maxRecDepth 100000
open Go.Det Go.RowKit Go.Proofs.YtfnacgojmdbjmaaGreatDoorW.PrintWords
def cutB (s sep : ByteArray) : ByteArray × ByteArray × Bool := (⟨(Lib.cut s.data.toList sep.data.toList).1.toArray⟩, ⟨(Lib.cut s.data.toList sep.data.toList).2.1.toArray⟩, (Lib.cut s.data.toList sep.data.toList).2.2)
theorem st_cut {s sep r1 r2 : ByteArray} {r3 : Bool} {w : World} (hG : GoodW w) (h : (if s.size < 4294967281 then some (cutB s sep) else none) = some (r1, r2, r3)) :
    Calls Tryz.prog 59 #[.string s, .string sep] w fun e w' => e = .returned (.tuple #[.string r1, .string r2, .bool r3]) ∧ Drawn0 w w' := by
  split at h
  case isFalse => cases h
  rename_i hs
  cases h
  obtain ⟨_, m, hm⟩ := hG.len
  refine (Tryz.strings_Cut s sep m w hs hm).mono ?_
  rintro e w' ⟨rfl, n, rfl⟩
  exact ⟨rfl, ⟨n, rfl⟩⟩
theorem st_contains {s sep : ByteArray} {r : Bool} {w : World} (hG : GoodW w) (h : (if s.size < 4294967281 then some (Lib.contains s.data.toList sep.data.toList) else none) = some r) :
    Calls Tryz.prog 84 #[.string s, .string sep] w fun e w' => e = .returned (.bool r) ∧ Drawn0 w w' := by
  split at h
  case isFalse => cases h
  rename_i hs
  cases h
  obtain ⟨_, m, hm⟩ := hG.len
  refine (Tryz.strings_Contains s sep m w hs hm).mono ?_
  rintro e w' ⟨rfl, rfl⟩
  exact ⟨rfl, Drawn0.refl _⟩
theorem st_split {s sep : ByteArray} {r : List ByteArray} {w : World} (hG : GoodW w) (h : (if s.size < 4294967281 ∧ 1 ≤ sep.size then some (Lib.splitB sep 0 (Lib.countB s sep) s) else none) = some r) :
    Calls Tryz.prog 103 #[.string s, .string sep] w fun e w' => ∃ v0_ : Value, e = .returned (v0_) ∧ Kd.R Kd.string 9 w' w.heap.size (fun _ => True) v0_ r ∧ Below w.heap.size w w' := by
  split at h
  case isFalse => cases h
  rename_i hs
  cases h
  obtain ⟨_, m, hm⟩ := hG.len
  refine (Tryz.strings_Split s sep m w hs.1 hm hs.2).mono ?_
  rintro e w' ⟨rfl, rfl⟩
  have hl := Lib.splitB_all sep hs.2 0 (Lib.countB s sep) s rfl
  have hcb := Lib.countB_le sep hs.2 s.size s (Nat.le_refl _)
  refine ⟨_, rfl, ?_, below_alloc (Below.refl _ _) _⟩
  have hrep := Kd.reps_scalar (enc := Value.string) (Lib.splitB sep 0 (Lib.countB s sep) s)
  rw [← hl]
  exact ⟨fun _ _ => trivial, OwnRow.lit w w.heap.size hrep (Nat.le_refl _) (by rw [hl]; omega)⟩
theorem st_indexByte {s : ByteArray} {c r : Int} {w : World} (h : some (Lib.indexByte s.data.toList c.toNat.toUInt8) = some r) :
    Calls Tryz.prog 125 #[.string s, .int .u8 c] w fun e w' => e = .returned (.int .i64 r) ∧ Drawn0 w w' := by
  cases h
  refine (Tryz.strings_IndexByte s c w).mono ?_
  rintro e w' ⟨rfl, rfl⟩
  exact ⟨rfl, Drawn0.refl _⟩
def joinB (l : List ByteArray) (sep : ByteArray) : ByteArray := ⟨(Lib.join (l.map (·.data.toList)) sep.data.toList).toArray⟩
theorem st_join {A0 : Option Addr} {c0 : Nat} {l0 : List ByteArray} {sep r : ByteArray} {w : World} (hr : Kd.C Kd.string w A0 l0.length l0) (hc : l0.length ≤ c0)
    (h : (if (joinB l0 sep).size ≤ 140737488355328 ∧ l0.length ≤ 140737488355328 then some (joinB l0 sep) else none) = some r) :
    Calls Tryz.prog 90 #[.slice A0 l0.length c0, .string sep] w fun e w' => e = .returned (.string r) ∧ Below w.heap.size w w' := by
  split at h
  case isFalse => cases h
  rename_i hs
  cases h
  obtain ⟨hl, hm, hcell⟩ := hr
  cases l0 with
  | nil =>
    refine (Tryz.strings_Join_none A0 c0 sep w).mono ?_
    rintro e w' ⟨rfl, rfl⟩
    exact ⟨rfl, Below.refl _ _⟩
  | cons x t =>
    obtain ⟨ad, rfl, hc1⟩ := hcell (by simp)
    have at_ : ∀ (j : Nat) p, (x :: t)[j]? = some p → w.cell? (ad.add j) = some (.string p) := by
      intro j p hj
      obtain ⟨c, h1, h2, h3⟩ := hc1 j p hj
      have h2 : c = [Value.string p] := h2
      have := h3 0 (.string p) (by rw [h2]; rfl)
      simpa [Kd.string, Kd.scalar] using this
    have h0 := at_ 0 x rfl
    have hsp := World.cell?_spot h0
    obtain ⟨bk, o, sp⟩ := ad
    have hsp : sp = none := by simpa [Addr.add] using hsp
    subst hsp
    have hadd : ∀ j, (⟨bk, o, none⟩ : Addr).add j = ⟨bk, o + j, none⟩ := by
      intro j
      unfold Addr.add
      split
      · rename_i q; subst q; rfl
      · rfl
    refine (Tryz.strings_Join bk o c0 (x :: t) sep w (fun j p hj => by rw [← hadd]; exact at_ j p hj) ?_ hs.2 hc ?_).mono ?_
    · rw [hadd] at h0; exact World.block_lt_of_cell? w _ h0
    · have := hs.1
      unfold joinB at this
      simpa [ByteArray.size] using this
    · rintro e w' ⟨rfl, hB⟩
      exact ⟨rfl, hB⟩
end Go.Proofs.YtfnacgojmdbjmaaGreatDoor
end

section
/- Contracts of functions that are told as plain functions with or without an answer: a call is met by the answer that there is. -/
namespace Go.Det
variable {P : Program}
noncomputable def Con.opt {α β : Type} (dec : List Value → Option α) (f : α → Option β) (enc : β → Value) : Con where
  own := pureD fun args => match dec args with
    | some a => (match f a with | some b => some (enc b) | none => none)
    | none => none
  w := fun args s K => match dec args with
    | some a => ∃ x, f a = some x ∧ K (enc x) s
    | none => False
  ok := by
    intro args s K h
    unfold pureD
    split at h
    · rename_i a ha
      obtain ⟨x, hx, hk⟩ := h
      exact ⟨enc x, s, by simp only [ha, hx], hk, fun K' k => ⟨x, hx, k⟩⟩
    · exact h.elim
  mono := by
    intro args s K K' k h
    split at h
    · obtain ⟨x, hx, hk⟩ := h
      exact ⟨x, hx, k _ _ hk⟩
    · exact h.elim
theorem opt_own {α β : Type} {dec : List Value → Option α} {f : α → Option β} {enc : β → Value} {args : List Value} {a : α} {b : β} (h1 : dec args = some a) (h2 : f a = some b) (s : St) : (Con.opt dec f enc).own args s = some (enc b, s) := by
  simp only [Con.opt, pureD, h1, h2]
theorem con_opt {W : World} {G : Nat} {l : List (Nat × Con)} {h : Heap} {f : FuncId} {fn : Func} {c : Code} {α β : Type} {dec : List Value → Option α} {F : α → Option β} {encR : β → Value} (enc : α → List Value)
    (L : Laying G W h) (hGW : G ≤ W.heap.size) (hG64 : G ≤ 64)
    (hm : P.follows .mixedOrders = true) (hl : OwnsAll P W G (extC l)) (hf : P.funcs[f]? = some fn) (hb : fn.body = some c) (hok : okFunc G fn = true)
    (hdec : ∀ args a, dec args = some a → args = enc a) (hflat : ∀ a, flat2L (enc a) = true ∧ Nat.ble (enc a).length fn.ntmps = true) (hres : ∀ b, flat (encR b) = true)
    (hF : ∀ a b, F a = some b → codeW P (cwC l) c (inTab (enc a) 8) (birth h 64) (retW P fn fun v' _ => v' = encR b)) : OwnAll P W G f (Con.opt dec F encR).own := by
  refine own_flat L hGW hG64 hm hl (cwC_ok l) hf hb hok fun args v hv => ?_
  split at hv
  case h_2 => cases hv
  rename_i a ha
  split at hv
  case h_2 => cases hv
  rename_i b hd
  cases hv
  obtain rfl := hdec _ _ ha
  exact ⟨(hflat a).1, hres b, (hflat a).2, hF a b hd⟩
end Go.Det
end

section
/- W with other words for single operations and for loops: a load at an unknown place of a row, a loop by its rounds. -/
namespace Go.Det
variable {P : Program}
abbrev OpX := Oper → Tmps → St → KV → Prop
abbrev LpX := Tmps → St → KC → Prop
noncomputable def dstN (o : Oper) : Nat := match o.dst with | some d => d | none => 1000000
noncomputable def opX (P : Program) (cw : Cw) (ox : Nat → Option OpX) (o : Oper) (l : Tmps) (s : St) (K : KV) : Prop :=
  match ox (dstN o) with
  | some X => X o l s K
  | none => opW P cw o l s K
noncomputable def opsX (P : Program) (cw : Cw) (ox : Nat → Option OpX) (all : List Oper) : List Oper → Tmps → St → KT → Prop
  | [], l, s, K => K l s
  | o :: rest, l, s, K => wantW all l o (fun l => opX P cw ox o l s fun v s => opsX P cw ox all rest (putD l o.dst v) s K) (fun l => opsX P cw ox all rest (putD l o.dst skp) s K)
noncomputable def drawX (P : Program) (cw : Cw) (ox : Nat → Option OpX) (all : List Oper) : List Oper → List Foot → Tmps → St → KT → Prop
  | [], _, l, s, K => K l s
  | o :: rest, done, l, s, K => match edgesOk done.length o.after.toList with
    | true => wantW all l o
      (fun l => opX P cw ox o l (solo s) fun v x => match apartAll (footOf all o done x.rd x.wr) 0 done with
        | true => drawX P cw ox all rest (done ++ [footOf all o done x.rd x.wr]) (putD l o.dst v) (merge s x) K
        | false => False)
      (fun l => match apartAll (footOf all o done 0 0) 0 done with
        | true => drawX P cw ox all rest (done ++ [footOf all o done 0 0]) (putD l o.dst skp) (merge s (solo s)) K
        | false => False)
    | false => False
noncomputable def frst : Code → Nat
  | .region id _ _ => id
  | .seq a _ => frst a
  | .cond _ a _ => frst a
  | .block _ a => frst a
  | .loop a => frst a
  | _ => 1000000
noncomputable def codeX (P : Program) (cw : Cw) (ox : Nat → Option OpX) (lx : Nat → Option LpX) : Code → Tmps → St → KC → Prop
  | .skip, l, s, K => K .normal l s
  | .region _ ops draw, l, s, K => (match draw with
    | true => drawX P cw ox ops.toList ops.toList [] l s (K .normal)
    | false => opsX P cw ox ops.toList ops.toList l s (K .normal))
  | .seq a b, l, s, K => codeX P cw ox lx a l s fun e l s => match e with | .normal => codeX P cw ox lx b l s K | .exit i => K (.exit i) l s | .ret => K .ret l s
  | .cond c a b, l, s, K => (match evalO l c with
    | .bool t => bifW t (codeX P cw ox lx a (lknow l c true) s K) (codeX P cw ox lx b (lknow l c false) s K)
    | _ => False)
  | .block id a, l, s, K => codeX P cw ox lx a l s fun e l s => match e with
    | .exit i => (match Nat.beq i id with | true => K .normal l s | false => K (.exit i) l s)
    | .normal => K .normal l s
    | .ret => K .ret l s
  | .loop a, l, s, K => (match lx (frst a) with | some X => X l s K | none => False)
  | .exit i, l, s, K => K (.exit i) l s
  | .ret, l, s, K => K .ret l s
  | _, _, _, _ => False
noncomputable def loopsOf : Code → List Code
  | .seq a b => loopsOf a ++ loopsOf b
  | .cond _ a b => loopsOf a ++ loopsOf b
  | .block _ a => loopsOf a
  | .loop a => [a]
  | _ => []
def OxOk (P : Program) (cw : Cw) (ox : Nat → Option OpX) : Prop := ∀ n X, ox n = some X → ∀ o l s K, X o l s K → opW P cw o l s K
def LxOk (P : Program) (cw : Cw) (lx : Nat → Option LpX) (l : List Code) : Prop := ∀ a ∈ l, ∀ X, lx (frst a) = some X → ∀ l s K, X l s K → codeW P cw (.loop a) l s K
section
variable {cw : Cw} {ox : Nat → Option OpX} {lx : Nat → Option LpX}
theorem opX_opW (ho : OxOk P cw ox) {o : Oper} {l : Tmps} {s : St} {K : KV} (h : opX P cw ox o l s K) : opW P cw o l s K := by
  unfold opX at h
  split at h
  · rename_i X e; exact ho _ _ e _ _ _ _ h
  · exact h
theorem opsX_opsW (hm : CwMono cw) (ho : OxOk P cw ox) {all : List Oper} : ∀ {ops : List Oper} {l : Tmps} {s : St} {K : KT}, opsX P cw ox all ops l s K → opsW P cw all ops l s K
  | [], _, _, _, h => h
  | _ :: _, _, _, _, h => wantW_mono (fun _ h => opW_mono hm (fun _ _ h => opsX_opsW hm ho h) (opX_opW ho h)) (fun _ h => opsX_opsW hm ho h) h
theorem drawX_drawW (hm : CwMono cw) (ho : OxOk P cw ox) {all : List Oper} : ∀ {ops : List Oper} {done : List Foot} {l : Tmps} {s : St} {K : KT}, drawX P cw ox all ops done l s K → drawW P cw all ops done l s K
  | [], _, _, _, _, h => h
  | o :: rest, done, l, s, K, h => by
    unfold drawX at h
    unfold drawW
    split at h
    · rename_i he
      simp only [he]
      refine wantW_mono (fun l h => ?_) (fun l h => ?_) h
      · refine opW_mono hm (fun v x h => ?_) (opX_opW ho h)
        split at h
        · rename_i hc; simp only [hc]; exact drawX_drawW hm ho h
        · exact h.elim
      · split at h
        · rename_i hc; simp only [hc]; exact drawX_drawW hm ho h
        · exact h.elim
    · exact h.elim
theorem codeX_codeW (hm : CwMono cw) (ho : OxOk P cw ox) : ∀ (c : Code) {l : Tmps} {s : St} {K : KC}, LxOk P cw lx (loopsOf c) → codeX P cw ox lx c l s K → codeW P cw c l s K
  | .skip, _, _, _, _, h => h
  | .region _ ops draw, _, _, _, _, h => by
    cases draw with
    | true => exact drawX_drawW hm ho h
    | false => exact opsX_opsW hm ho h
  | .seq a b, _, _, _, hl, h => by
    have h1 := codeX_codeW hm ho a (fun x hx => hl x (List.mem_append_left _ hx)) h
    refine codeW_mono hm a (fun e l s q => ?_) h1
    cases e with
    | normal => exact codeX_codeW hm ho b (fun x hx => hl x (List.mem_append_right _ hx)) q
    | exit i => exact q
    | ret => exact q
  | .cond c a b, l, s, K, hl, h => by
    unfold codeX at h
    unfold codeW
    split at h
    · rename_i hc
      simp only [hc]
      exact bifW_mono (codeX_codeW hm ho a (fun x hx => hl x (List.mem_append_left _ hx))) (codeX_codeW hm ho b (fun x hx => hl x (List.mem_append_right _ hx))) h
    · exact h.elim
  | .block id a, _, _, _, hl, h => codeX_codeW hm ho a hl h
  | .loop a, l, s, K, hl, h => by
    unfold codeX at h
    split at h
    · rename_i X e; exact hl a (List.mem_singleton.2 rfl) X e l s K h
    · exact h.elim
  | .exit i, _, _, _, _, h => h
  | .ret, _, _, _, _, h => h
end
inductive Star {V : Type} (R : V → V → Prop) : V → V → Prop
  | refl (v : V) : Star R v v
  | step {a b c : V} : R a b → Star R b c → Star R a c
theorem loop_star {cw : Cw} (hm : CwMono cw) {a : Code} {V : Type} (L : V → Tmps) (S : V → St) {Step : V → V → Prop}
    (hstep : ∀ v v1, Step v v1 → codeW P cw a (L v) (S v) (stepW (fun l s => Weaker l s (L v1) (S v1)) (fun _ _ _ => False)))
    {v v' : V} (hs : Star Step v v') {K : KC} : ∀ {l : Tmps} {s : St}, Weaker l s (L v) (S v) → codeW P cw a (L v') (S v') (stepW (fun _ _ => False) K) → codeW P cw (.loop a) l s K := by
  induction hs with
  | refl v =>
    intro l s hw hend
    exact loopW_weak hw (loopW_unroll hm (codeW_mono hm a (stepW_mono (fun _ _ h => h.elim) (fun _ _ _ h => h)) hend))
  | @step x y z h1 h2 ih =>
    intro l s hw hend
    exact loopW_weak hw (loopW_unroll hm (codeW_mono hm a (stepW_mono (fun _ _ q => ih q hend) (fun _ _ _ h => h.elim)) (hstep x y h1)))
abbrev Slots := List (Nat × Value)
abbrev Blks := List (Nat × List Value × TypeId × Bool)
noncomputable def tabOf : Slots → Tmps
  | [] => []
  | x :: t => lset (tabOf t) x.1 x.2
noncomputable def heapOf : Blks → Heap
  | [] => []
  | x :: t => (heapOf t).set x.1 (.cells x.2.1 x.2.2.1 x.2.2.2)
noncomputable def stOf (b : Blks) (N : Nat) : St := { h := heapOf b, next := N, hi := N, rd := 0, wr := 0 }
def eqL : List Value → List Value → Prop
  | [], [] => True
  | x :: s, y :: t => x = y ∧ eqL s t
  | _, _ => False
theorem eqL_eq : ∀ {a b : List Value}, eqL a b → a = b
  | [], [], _ => rfl
  | x :: s, y :: t, h => by rw [h.1, eqL_eq h.2]
  | [], _ :: _, h => h.elim
  | _ :: _, [], h => h.elim
noncomputable def slotsW (l : Tmps) : Slots → Prop
  | [] => True
  | x :: t => lget l x.1 = x.2 ∧ slotsW l t
noncomputable def blkW (s : St) (id : Nat) (cs : List Value) (e : TypeId) (ro : Bool) : Prop := match s.h.get id with
  | some (.cells cs' e' ro') => eqL cs' cs ∧ (e' = e ∧ ro' = ro)
  | _ => False
noncomputable def rowW (s : St) (id : Nat) (cs : List Value) (e : TypeId) (ro : Bool) : Prop := match s.h.get id with
  | some (.cells cs' e' ro') => cs' = cs ∧ (e' = e ∧ ro' = ro)
  | _ => False
theorem blkW_get {s : St} {id : Nat} {cs : List Value} {e : TypeId} {ro : Bool} (h : blkW s id cs e ro) : s.h.get id = some (.cells cs e ro) := by
  unfold blkW at h
  split at h
  · rename_i cs' e' ro' hg; obtain ⟨h1, rfl, rfl⟩ := h; rw [hg, eqL_eq h1]
  · exact h.elim
theorem rowW_get {s : St} {id : Nat} {cs : List Value} {e : TypeId} {ro : Bool} (h : rowW s id cs e ro) : s.h.get id = some (.cells cs e ro) := by
  unfold rowW at h
  split at h
  · rename_i cs' e' ro' hg; obtain ⟨rfl, rfl, rfl⟩ := h; exact hg
  · exact h.elim
noncomputable def blksW (s : St) : Blks → Prop
  | [] => True
  | x :: t => s.h.get x.1 = some (.cells x.2.1 x.2.2.1 x.2.2.2) ∧ blksW s t
noncomputable def goodV (N : Nat) (v : Value) : Bool := match v with
  | .pointer (some ⟨i, _, none⟩) => decide (64 ≤ i ∧ i < N)
  | .slice (some ⟨i, _, none⟩) _ _ => decide (64 ≤ i ∧ i < N)
  | v => flat v
noncomputable def goodL (N : Nat) (l : List Value) : Bool := l.all (goodV N)
noncomputable def keepρ (N : Nat) : Nat → Option Nat := fun id => if 64 ≤ id ∧ id < N then some id else none
theorem Wk.good {N : Nat} {v : Value} (h : goodV N v = true) : Wk (keepρ N) v v := by
  unfold goodV at h
  split at h
  · rename_i i off
    have h := of_decide_eq_true h
    exact Wk.ptr h.1 (by unfold keepρ; rw [if_pos h])
  · rename_i i off n c
    have h := of_decide_eq_true h
    exact Wk.slice h.1 (by unfold keepρ; rw [if_pos h])
  · exact Wk.flat h
theorem tabOf_get : ∀ (sl : Slots) (t : Nat), lget (tabOf sl) t = und ∨ ∃ x ∈ sl, x.1 = t ∧ lget (tabOf sl) t = x.2
  | [], t => .inl (lget_nil t)
  | x :: r, t => by
    unfold tabOf
    rw [lget_set]
    by_cases e : t = x.1
    · rw [if_pos e]; exact .inr ⟨x, List.mem_cons_self, e.symm, rfl⟩
    · rw [if_neg e]
      rcases tabOf_get r t with h | ⟨y, h1, h2, h3⟩
      · exact .inl h
      · exact .inr ⟨y, List.mem_cons_of_mem _ h1, h2, h3⟩
theorem heapOf_get : ∀ (b : Blks) (id : Nat) (B : Blk), (heapOf b).get id = some B → ∃ x ∈ b, x.1 = id ∧ B = .cells x.2.1 x.2.2.1 x.2.2.2
  | [], id, B, h => by
    exfalso
    have : Heap.get ([] : Heap) id = none := by
      unfold Heap.get Tab.get
      cases hd : Nat.div id 8 <;> cases hm : Nat.mod id 8 <;> rfl
    unfold heapOf at h
    rw [this] at h; cases h
  | x :: r, id, B, h => by
    unfold heapOf at h
    rw [Heap.get_set] at h
    by_cases e : id = x.1
    · rw [if_pos e] at h; cases h; exact ⟨x, List.mem_cons_self, e.symm, rfl⟩
    · rw [if_neg e] at h
      obtain ⟨y, h1, h2, h3⟩ := heapOf_get r id B h
      exact ⟨y, List.mem_cons_of_mem _ h1, h2, h3⟩
theorem slotsW_mem {l : Tmps} : ∀ {sl : Slots}, slotsW l sl → ∀ x ∈ sl, lget l x.1 = x.2
  | [], _, x, hx => by cases hx
  | y :: r, h, x, hx => by
    rcases List.mem_cons.1 hx with rfl | hx
    · exact h.1
    · exact slotsW_mem h.2 x hx
theorem blksW_mem {s : St} : ∀ {b : Blks}, blksW s b → ∀ x ∈ b, s.h.get x.1 = some (.cells x.2.1 x.2.2.1 x.2.2.2)
  | [], _, x, hx => by cases hx
  | y :: r, h, x, hx => by
    rcases List.mem_cons.1 hx with rfl | hx
    · exact h.1
    · exact blksW_mem h.2 x hx
theorem weak_pick {sl : Slots} {b : Blks} {N : Nat} {l : Tmps} {s : St} (h64 : 64 ≤ N) (hg : ∀ x ∈ sl, goodV N x.2 = true) (hb : ∀ x ∈ b, (64 ≤ x.1 ∧ x.1 < N) ∧ goodL N x.2.1 = true)
    (h1 : slotsW l sl) (h2 : blksW s b) : Weaker l s (tabOf sl) (stOf b N) := by
  refine weaker_of (keepρ N) (fun t => ?_) (fun id cs e ro q g => ?_) (fun id cs e ro q g => ?_) (fun i j o hi hj => ?_) (fun i o hi => ?_) (fun id es g => ?_) (fun id q => ⟨?_, ?_⟩) h64 (Nat.le_refl _)
  · rcases tabOf_get sl t with e | ⟨x, hx, rfl, e⟩
    · rw [e]; exact Wk.und _ _
    · rw [e, slotsW_mem h1 x hx]; exact Wk.good (hg x hx)
  · obtain ⟨x, hx, rfl, e⟩ := heapOf_get b id _ g
    have := (hb x hx).1.1; omega
  · obtain ⟨x, hx, rfl, e⟩ := heapOf_get b id _ g
    cases e
    refine ⟨x.1, x.2.1, by unfold keepρ; rw [if_pos (hb x hx).1], blksW_mem h2 x hx, rfl, fun i => ?_⟩
    rcases Nat.lt_or_ge i x.2.1.length with c | c
    · have := List.all_eq_true.1 (hb x hx).2 (x.2.1.getD i und) (by rw [List.getD_eq_getElem?_getD, List.getElem?_eq_getElem c]; exact List.getElem_mem c)
      exact Wk.good this
    · rw [List.getD_eq_getElem?_getD, List.getElem?_eq_none c]; exact Wk.und _ _
  · unfold keepρ at hi hj
    split at hi
    · split at hj
      · cases hi; cases hj; rfl
      · cases hj
    · cases hi
  · unfold keepρ at hi
    split at hi
    · rename_i c; cases hi; exact c.1
    · cases hi
  · obtain ⟨x, hx, rfl, e⟩ := heapOf_get b id _ g
    cases e
  · unfold keepρ; rw [if_neg (by simp only [stOf] at q; omega)]
  · cases hc : (stOf b N).h.get id with
    | none => rfl
    | some B =>
      obtain ⟨x, hx, rfl, e⟩ := heapOf_get b id _ hc
      have := (hb x hx).1.2
      simp only [stOf] at q
      omega
noncomputable def rowX {α : Type} (enc : α → List Value) (ty : TypeId) (n : Nat) : OpX := fun o l s K => match o.op with
  | .load t a => (match evalO l a with
    | .pointer (some ⟨id, off, none⟩) => (match s.h.get id with
      | some (.cells cs _ _) => t = ty ∧ ∃ r : List α, cs = r.flatMap enc ∧ ∃ i : Nat, off = i * n ∧ ∃ x : α, r[i]? = some x ∧ K (.agg (enc x).toArray) (s.read id)
      | _ => False)
    | _ => False)
  | _ => False
theorem drop_flatMap {α : Type} {enc : α → List Value} {n : Nat} (hn : ∀ x, (enc x).length = n) : ∀ (r : List α) (i : Nat) (x : α), r[i]? = some x → (r.flatMap enc).drop (i * n) = enc x ++ (r.drop (i + 1)).flatMap enc ∧ i * n + n ≤ (r.flatMap enc).length
  | [], i, x, h => by simp at h
  | y :: t, 0, x, h => by
    simp at h; subst h
    simp [hn]
  | y :: t, i + 1, x, h => by
    have h' : t[i]? = some x := by simpa using h
    obtain ⟨a, b⟩ := drop_flatMap hn t i x h'
    refine ⟨?_, ?_⟩
    · rw [List.flatMap_cons, Nat.succ_mul, Nat.add_comm, List.drop_append, List.drop_eq_nil_of_le (by rw [hn]; omega), hn, List.nil_append, show n + i * n - n = i * n by omega]
      exact a
    · rw [List.flatMap_cons, List.length_append, hn, Nat.succ_mul]; omega
theorem rowX_ok {cw : Cw} {α : Type} {enc : α → List Value} {ty : TypeId} {n : Nat} (hn : ∀ x, (enc x).length = n + 1) (h1 : isAggB P ty = some true) (h2 : szOf P ty = some (n + 1)) {o : Oper} {l : Tmps} {s : St} {K : KV}
    (h : rowX enc ty (n + 1) o l s K) : opW P cw o l s K := by
  unfold rowX at h
  split at h
  case h_2 => exact h.elim
  rename_i t a ho
  split at h
  case h_2 => exact h.elim
  rename_i id off hp
  split at h
  case h_2 => exact h.elim
  rename_i cs e ro hg
  obtain ⟨rfl, r, rfl, i, rfl, x, hx, hK⟩ := h
  unfold opW
  rw [ho]
  simp only [hp]
  unfold loadW
  simp only [hg, h1, h2]
  obtain ⟨d1, d2⟩ := drop_flatMap hn r i x hx
  refine dropW_intro (by omega) ?_
  rw [d1]
  refine takeW_intro (by rw [List.length_append, hn]; omega) ?_
  rw [List.take_append_of_le_length (by rw [hn]; exact Nat.le_refl _), List.take_of_length_le (by rw [hn]; exact Nat.le_refl _)]
  exact hK
end Go.Det
end

section
/- Loops of few rounds, unrolled, in W with other words. -/
namespace Go.Det
variable {P : Program}
theorem bifW_c {p : Prop} {A B : Prop} (h1 : p → A) (h2 : ¬ p → B) : bifW (cdec p) A B := bifW_intro (fun h => h1 (cdec_true.1 h)) (fun h => h2 (cdec_false.1 h))
theorem bifW_b {b : Bool} {A B : Prop} (h1 : b = true → A) (h2 : ¬ b = true → B) : bifW b A B := bifW_intro h1 (fun h => h2 (by rw [h]; decide))
theorem bifW_n {b : Bool} {A B : Prop} (h1 : b = true → B) (h2 : ¬ b = true → A) : bifW (!b) A B := by cases b; exact h2 (by decide); exact h1 rfl
theorem bifW_t {p : Prop} {A B : Prop} (h : p) (k : A) : bifW (cdec p) A B := bifW_c (fun _ => k) (fun q => absurd h q)
theorem bifW_f {p : Prop} {A B : Prop} (h : ¬ p) (k : B) : bifW (cdec p) A B := bifW_c (fun q => absurd q h) (fun _ => k)
noncomputable def unrX (P : Program) (cw : Cw) (ox : Nat → Option OpX) (lx : Nat → Option LpX) (a : Code) : Nat → LpX
  | 0 => fun _ _ _ => False
  | n + 1 => fun l s K => codeX P cw ox lx a l s (stepW (fun l s => unrX P cw ox lx a n l s K) K)
theorem unrX_loop {cw : Cw} {ox : Nat → Option OpX} {lx : Nat → Option LpX} (hm : CwMono cw) (ho : OxOk P cw ox) {a : Code} (hl : LxOk P cw lx (loopsOf a)) : ∀ (n : Nat) {l : Tmps} {s : St} {K : KC}, unrX P cw ox lx a n l s K → codeW P cw (.loop a) l s K
  | 0, _, _, _, h => h.elim
  | n + 1, l, s, K, h => loopW_unroll hm (codeW_mono hm a (stepW_mono (fun _ _ q => unrX_loop hm ho hl n q) fun _ _ _ q => q) (codeX_codeW hm ho a hl h))
noncomputable def ox0 (_ : Nat) : Option OpX := none
theorem ox0_ok {cw : Cw} : OxOk P cw ox0 := fun _ _ h => by cases h
noncomputable def lxN (_ : Nat) : Option LpX := none
theorem lxN_ok {cw : Cw} (l : List Code) : LxOk P cw lxN l := fun _ _ _ h => by cases h
noncomputable def lxU (P : Program) (cw : Cw) (ox : Nat → Option OpX) (ls : List Code) (n : Nat) (i : Nat) : Option LpX := match ls with
  | [] => none
  | a :: t => match Nat.beq (frst a) i with
    | true => some (unrX P cw ox lxN a n)
    | false => lxU P cw ox t n i
noncomputable def apartL : List Code → Bool
  | [] => true
  | a :: t => (t.all fun b => !Nat.beq (frst a) (frst b)) && apartL t
theorem lxU_get {cw : Cw} {ox : Nat → Option OpX} {n : Nat} : ∀ {ls : List Code}, apartL ls = true → ∀ a ∈ ls, lxU P cw ox ls n (frst a) = some (unrX P cw ox lxN a n)
  | [], _, a, ha => by cases ha
  | b :: t, h, a, ha => by
    unfold apartL at h
    rw [Bool.and_eq_true] at h
    unfold lxU
    rcases List.mem_cons.1 ha with rfl | ha
    · have : Nat.beq (frst a) (frst a) = true := Nat.beq_refl _
      simp only [this]
    · have := List.all_eq_true.1 h.1 a ha
      have : Nat.beq (frst b) (frst a) = false := by cases hq : Nat.beq (frst b) (frst a) <;> simp_all
      simp only [this]
      exact lxU_get h.2 a ha
theorem lxU_ok {cw : Cw} {ox : Nat → Option OpX} (hm : CwMono cw) (ho : OxOk P cw ox) {ls : List Code} (n : Nat) (hs : apartL ls = true) : LxOk P cw (lxU P cw ox ls n) ls := by
  intro a ha X hX l s K h
  rw [lxU_get hs a ha] at hX
  cases hX
  exact unrX_loop hm ho (lxN_ok _) n h
noncomputable def codeU (P : Program) (cw : Cw) (ox : Nat → Option OpX) (n : Nat) (c : Code) : Tmps → St → KC → Prop := codeX P cw ox (lxU P cw ox (loopsOf c) n) c
theorem codeU_codeW {cw : Cw} {ox : Nat → Option OpX} (hm : CwMono cw) (ho : OxOk P cw ox) {n : Nat} {c : Code} (hs : apartL (loopsOf c) = true) {l : Tmps} {s : St} {K : KC} (h : codeU P cw ox n c l s K) : codeW P cw c l s K :=
  codeX_codeW hm ho c (lxU_ok hm ho n hs) h
noncomputable def eqlX : OpX := fun o l s K => match o.op with
  | .binOp op _ x y _ => (match evalO l x, evalO l y with
    | .int k m, .int k' n => kindEq k k' = true ∧ (match op with
      | .eql => K (.bool (decide (m = n))) s
      | .neq => K (.bool (decide (m ≠ n))) s
      | .lss => K (.bool (decide (m < n))) s
      | .leq => K (.bool (decide (m ≤ n))) s
      | .gtr => K (.bool (decide (n < m))) s
      | .geq => K (.bool (decide (n ≤ m))) s
      | _ => False)
    | _, _ => False)
  | _ => False
theorem eqlX_ok {cw : Cw} {o : Oper} {l : Tmps} {s : St} {K : KV} (h : eqlX o l s K) : opW P cw o l s K := by
  unfold eqlX at h
  split at h
  case h_2 => exact h.elim
  rename_i op t x y q ho
  split at h
  case h_2 => exact h.elim
  rename_i k m k' n h1 h2
  obtain ⟨hk, h⟩ := h
  unfold opW
  rw [ho]
  simp only [h1, h2]
  unfold binW
  simp only [cdec_eq] at h
  split at h
  case h_7 => exact h.elim
  all_goals (simp only [hk]; exact h)
noncomputable def oxE (ds : List Nat) (n : Nat) : Option OpX := match ds with
  | [] => none
  | d :: t => match Nat.beq d n with | true => some eqlX | false => oxE t n
theorem oxE_ok {cw : Cw} : ∀ (ds : List Nat), OxOk P cw (oxE ds)
  | [], _, _, h => by cases h
  | d :: t, n, X, h => by
    unfold oxE at h
    split at h
    · cases h; exact fun o l s K => eqlX_ok
    · exact oxE_ok t n X h
end Go.Det
end

section
/- Contracts of functions that read a row (and turn nothing), and of functions that make a row of known length. -/
namespace Go.Det
variable {P : Program}
theorem resW_mono {l : Tmps} (rs : List ResultVar) : ∀ {s : St} {K K' : List Value → St → Prop}, (∀ vs s, K vs s → K' vs s) → resW P l s rs K → resW P l s rs K' := by
  induction rs with
  | nil => exact fun k h => k _ _ h
  | cons r rest ih =>
    intro s K K' k h
    cases r with
    | tmp t => exact ih (K := fun vs s => K (lget l t :: vs) s) (fun _ _ h => k _ _ h) h
    | cell a t => exact loadW_mono (fun v s h => ih (K := fun vs s => K (v :: vs) s) (fun _ _ h => k _ _ h) h) h
theorem retW_mono {fn : Func} {Q Q' : KV} (k : ∀ v s, Q v s → Q' v s) {e : Ex} {l : Tmps} {s : St} (h : retW P fn Q e l s) : retW P fn Q' e l s := by
  unfold retW at h ⊢
  cases e with
  | exit _ => exact h
  | normal => exact resW_mono _ (fun _ _ h => k _ _ h) h
  | ret => exact resW_mono _ (fun _ _ h => k _ _ h) h
noncomputable def isSl : Value → Bool
  | .float .f64 1 => true
  | .slice _ n c => Nat.ble capU c || Nat.ble n c
  | _ => false
noncomputable def decL {β : Type} (d : Value → Option β) : List Value → Option (List β)
  | [] => some []
  | v :: t => match d v with
    | some b => (match decL d t with | some r => some (b :: r) | none => none)
    | none => none
theorem decL_map {β : Type} {d : Value → Option β} {e : β → Value} (hd : ∀ v b, d v = some b → v = e b) : ∀ {l : List Value} {r : List β}, decL d l = some r → l = r.map e
  | [], r, h => by cases h; rfl
  | v :: t, r, h => by
    unfold decL at h
    split at h
    case h_2 => cases h
    rename_i b hb
    split at h
    case h_2 => cases h
    rename_i r' hr
    cases h
    rw [hd v b hb, decL_map hd hr]; rfl
noncomputable def readD {β γ δ : Type} (d : Value → Option β) (dr : List Value → Option γ) (F : List β → γ → Option δ) (enc : δ → Value) (args : List Value) (s : St) : Option (Value × St) :=
  match args with
  | v :: rest => match isSl v with
    | true => (match dr rest with
      | some g => (match lenD v with
        | some n => (match srcCells s 1 n v with
          | some x => (match decL d x.1 with
            | some l => (match F l g with | some r => some (enc r, x.2) | none => none)
            | none => none)
          | none => none)
        | none => none)
      | none => none)
    | false => none
  | [] => none
noncomputable def Con.reads {β γ δ : Type} (d : Value → Option β) (dr : List Value → Option γ) (F : List β → γ → Option δ) (enc : δ → Value) : Con where
  own := readD d dr F enc
  w := fun args s K => match args with
    | v :: rest => (match isSl v with
      | true => (match dr rest with
        | some g => (match lenD v with
          | some n => (match srcCells s 1 n v with
            | some x => (match decL d x.1 with
              | some l => ∃ r, F l g = some r ∧ K (enc r) x.2
              | none => False)
            | none => False)
          | none => False)
        | none => False)
      | false => False)
    | [] => False
  ok := by
    intro args s K h
    unfold readD
    split at h
    case h_2 => exact h.elim
    split at h
    case h_2 => exact h.elim
    rename_i h1
    split at h
    case h_2 => exact h.elim
    rename_i g h2
    split at h
    case h_2 => exact h.elim
    rename_i n h3
    split at h
    case h_2 => exact h.elim
    rename_i x h4
    split at h
    case h_2 => exact h.elim
    rename_i l h5
    obtain ⟨r, hr, hk⟩ := h
    exact ⟨enc r, x.2, by simp only [h1, h2, h3, h4, h5, hr], hk, fun K' k => ⟨r, hr, k⟩⟩
  mono := by
    intro args s K K' k h
    split at h
    case h_2 => exact h.elim
    split at h
    case h_2 => exact h.elim
    rename_i h1
    split at h
    case h_2 => exact h.elim
    rename_i g h2
    split at h
    case h_2 => exact h.elim
    rename_i n h3
    split at h
    case h_2 => exact h.elim
    rename_i x h4
    split at h
    case h_2 => exact h.elim
    rename_i l h5
    obtain ⟨r, hr, hk⟩ := h
    first | exact ⟨r, hr, k _ _ hk⟩ | (simp only [*]; exact ⟨r, hr, k _ _ hk⟩)
theorem readD_tr {β γ δ : Type} (d : Value → Option β) (dr : List Value → Option γ) (F : List β → γ → Option δ) (enc : δ → Value) (args : List Value) : Tr (readD d dr F enc args) := by
  intro s v s' h
  unfold readD at h
  split at h
  case h_2 => cases h
  rename_i v0 rest
  split at h
  case h_2 => cases h
  rename_i h1
  split at h
  case h_2 => cases h
  rename_i g h2
  split at h
  case h_2 => cases h
  rename_i n h3
  split at h
  case h_2 => cases h
  rename_i x h4
  split at h
  case h_2 => cases h
  rename_i l h5
  split at h
  case h_2 => cases h
  rename_i r h6
  cases h
  obtain ⟨a, b⟩ := srcCells_tr 1 n v0 s x.1 x.2 h4
  refine ⟨a, fun u j hbe hag hx => ?_⟩
  obtain ⟨u', e, k⟩ := b u j hbe hag hx
  exact ⟨u', by unfold readD; simp only [h1, h2, h3, e, h5, h6], k⟩
def RowAt {β : Type} (e : β → Value) (w : World) (A : Option Addr) (l : List β) : Prop :=
  l = [] ∨ ∃ b o, A = some ⟨b, o, none⟩ ∧ ∀ j x, l[j]? = some x → w.cell? ⟨b, o + j, none⟩ = some (e x)
theorem own_reads {G : Nat} {f : FuncId} {fn : Func} {c : Code} {β γ δ : Type} {d : Value → Option β} {dr : List Value → Option γ} {F : List β → γ → Option δ} {enc : δ → Value} {e : β → Value} {er : γ → List Value} {W : World} {Gd : World → Prop}
    (hW : ∀ w, Later W w → Gd w) (hf : P.funcs[f]? = some fn) (hb : fn.body = some c) (hn : (fn.name == "runtime.NumGoroutine") = false)
    (hd : ∀ v b, d v = some b → v = e b) (he : ∀ b, flat (e b) = true ∧ e b ≠ und) (hdr : ∀ r g, dr r = some g → r = er g) (her : ∀ g, flat2L (er g) = true)
    (h : ∀ l g r, F l g = some r → flat (enc r) = true ∧ enc r ≠ und ∧ ∀ w A c, Gd w → l.length ≤ c → RowAt e w A l →
      Calls P f ⟨.slice A l.length c :: er g⟩ w fun z w' => z = .returned (enc r) ∧ (w'.os = w.os ∧ w'.tape = w.tape ∧ w'.output = w.output ∧ w.heap.size ≤ w'.heap.size ∧ ∀ j, j < w.heap.size → w'.heap[j]? = w.heap[j]?)) :
    OwnAll P W G f (Con.reads d dr F enc).own := by
  refine ⟨readD_tr d dr F enc, fun W1 k1 args s v s' ed φ w args' H _ hA _ _ => ?_⟩
  change readD d dr F enc args s = some (v, s') at ed
  unfold readD at ed
  split at ed
  case h_2 => cases ed
  rename_i v0 rest
  split at ed
  case h_2 => cases ed
  rename_i h1
  split at ed
  case h_2 => cases ed
  rename_i g h2
  split at ed
  case h_2 => cases ed
  rename_i n h3
  split at ed
  case h_2 => cases ed
  rename_i x h4
  split at ed
  case h_2 => cases ed
  rename_i l h5
  split at ed
  case h_2 => cases ed
  rename_i r h6
  cases ed
  obtain rfl := hdr _ _ h2
  have hx := decL_map hd h5
  have kw : Later W w := k1.trans H.later
  obtain ⟨A, c', hA1, hlen, hc, hrow, hs⟩ : ∃ A c', args' = .slice A l.length c' :: er g ∧ n = l.length ∧ l.length ≤ c' ∧ RowAt e w A l ∧ (x.2.h = s.h ∧ s.next = x.2.next) := by
    obtain ⟨hl, hA⟩ := hA
    cases args' with
    | nil => simp at hl
    | cons u t =>
      have hv := hA 0
      simp only [List.getD_cons_zero] at hv
      have ht : VRL φ (er g) t := ⟨by simpa using hl, fun i => by have := hA (i + 1); simpa only [List.getD_cons_succ] using this⟩
      have ht := flat2L_inv (her g) ht
      subst ht
      have hll : x.1.length = l.length := by rw [hx, List.length_map]
      unfold isSl at h1
      split at h1
      ·
        cases h3
        unfold srcCells at h4
        simp only at h4
        split at h4
        case isFalse => cases h4
        cases h4
        cases hv with
        | emp a c hsp =>
          have : l = [] := List.eq_nil_of_length_eq_zero hll.symm
          subst this
          exact ⟨a, c, rfl, rfl, Nat.zero_le _, .inl rfl, rfl, rfl⟩
      · rename_i a0 m c0
        cases h3
        unfold srcCells at h4
        split at h4
        · rename_i id off n1 c1 heq
          cases heq
          have hcap : ∃ b sh sz cc, u = .slice (some ⟨b, sh + off, none⟩) n cc ∧ φ id = some (b, sh, sz) ∧ n ≤ cc := by
            cases hv with
            | slice _ _ b sh sz _ _ hφ hlt =>
              refine ⟨b, sh, sz, c0, rfl, hφ, ?_⟩
              rcases Bool.or_eq_true_iff.1 h1 with q | q
              · have := Nat.le_of_ble_eq_true q; omega
              · exact Nat.le_of_ble_eq_true q
            | sliceU _ _ b sh sz _ cc _ hφ _ _ hle => exact ⟨b, sh, sz, cc, rfl, hφ, hle⟩
          obtain ⟨b, sh, sz, cc, rfl, hφ, hle⟩ := hcap
          split at h4
          · rename_i h0
            have h0 : n * 1 = 0 := Nat.eq_of_beq_eq_true h0
            cases h4
            have : l = [] := List.eq_nil_of_length_eq_zero hll.symm
            subst this
            have : n = 0 := by omega
            subst this
            exact ⟨_, cc, rfl, rfl, Nat.zero_le _, .inl rfl, rfl, rfl⟩
          · split at h4
            case h_2 => cases h4
            rename_i cs e0 ro hg
            split at h4
            case h_2 => cases h4
            rename_i r0 hr0
            cases h4
            simp only at hx hll
            rw [ldrop_eq] at hr0
            obtain ⟨e1, e2⟩ := ltake_some hr0
            rw [Nat.mul_one] at e1 e2
            have hn : n = l.length := by rw [← hll, e1, List.length_take]; omega
            subst hn
            refine ⟨_, cc, rfl, rfl, hle, .inr ⟨b, sh + off, rfl, fun j y hj => ?_⟩, rfl, rfl⟩
            obtain ⟨b2, sh2, sz2, c2, fz, q⟩ := H.cells _ _ _ _ hg
            have := q.at_
            rw [hφ] at this; cases this
            have hjl : j < l.length := (List.getElem?_eq_some_iff.1 hj).1
            have hcs : cs.getD (off + j) und = e y := by
              have h7 : r0[j]? = some (e y) := by rw [hx, List.getElem?_map, hj]; rfl
              rw [e1, List.getElem?_take, if_pos hjl, List.getElem?_drop] at h7
              rw [List.getD_eq_getElem?_getD, h7]; rfl
            have hlt : off + j < cs.length := by rw [List.length_drop] at e2; omega
            have hv := q.cell (off + j) hlt
            rw [hcs] at hv
            have hv := flat_inv (he y).1 hv (he y).2
            unfold World.cell?
            rw [q.blk]
            simp only [Option.isSome_none, Bool.false_eq_true, if_false]
            have hfit := q.fit
            have hsz := q.size
            rw [Array.getD_eq_getD_getElem?, Array.getElem?_eq_getElem (by omega)] at hv
            rw [show sh + off + j = sh + (off + j) by omega, Array.getElem?_eq_getElem (by omega)]
            simpa using hv
        · rename_i n1 c1 heq
          cases heq
          split at h4
          case isFalse => cases h4
          rename_i h0
          cases h4
          have h0 : n = 0 := Nat.eq_of_beq_eq_true h0
          subst h0
          have : l = [] := List.eq_nil_of_length_eq_zero hll.symm
          subst this
          cases hv with
          | snil _ _ hlt => exact ⟨none, c0, rfl, rfl, Nat.zero_le _, .inl rfl, rfl, rfl⟩
        · rename_i heq; cases heq
        · rename_i heq; cases heq
        · cases h4
      · cases h1
  obtain ⟨f1, f2, f3⟩ := h l g r h6
  rw [hA1, callFunc_run hf hb hn]
  refine (f3 w A c' (hW w kw) hc hrow).mono ?_
  rintro z W' ⟨rfl, o1, o2, o3, o4, o5⟩
  refine ⟨_, φ, rfl, Ext.refl _ _ _, flat_self f1 _, ?_⟩
  rw [hs.1]
  exact H.keep ⟨o1, o3, o4, o5⟩ o2
noncomputable def Con.made {α : Type} (dec : List Value → Option α) (F : α → Option (List Value)) (n : Nat) (e : TypeId) : Con where
  own := fun args s => match dec args with
    | some a => (match F a with
      | some cs => some (.slice (some ⟨s.next, 0, none⟩) n n, s.new (.cells cs e false))
      | none => none)
    | none => none
  w := fun args s K => match dec args with
    | some a => ∃ cs, F a = some cs ∧ K (.slice (some ⟨s.next, 0, none⟩) n n) (s.new (.cells cs e false))
    | none => False
  ok := by
    intro args s K h
    split at h
    · rename_i a ha
      obtain ⟨cs, hr, hk⟩ := h
      exact ⟨_, _, by simp only [ha, hr], hk, fun K' k => ⟨cs, hr, k⟩⟩
    · exact h.elim
  mono := by
    intro args s K K' k h
    split at h
    · obtain ⟨cs, hr, hk⟩ := h
      exact ⟨cs, hr, k _ _ hk⟩
    · exact h.elim
theorem own_made {cw : Cw} {W : World} {G : Nat} {l : List (Nat × Own)} {h : Heap} {f : FuncId} {fn : Func} {c : Code} {α : Type} {dec : List Value → Option α} {F : α → Option (List Value)} {n : Nat} {e : TypeId} (enc : α → List Value) (L : Laying G W h) (hGW : G ≤ W.heap.size) (hG64 : G ≤ 64)
    (hm : P.follows .mixedOrders = true) (hl : OwnsAll P W G l) (ho : CwOk (ownCall l) cw) (hf : P.funcs[f]? = some fn) (hb : fn.body = some c) (hok : okFunc G fn = true) (hn : n < capU)
    (hdec : ∀ args a, dec args = some a → args = enc a) (hflat : ∀ a, flat2L (enc a) = true ∧ Nat.ble (enc a).length fn.ntmps = true)
    (hF : ∀ a cs, F a = some cs → (∀ v ∈ cs, flat v = true) ∧ codeW P cw c (inTab (enc a) 8) (birth h 64) (retW P fn fun v' s' => ∃ k, v' = .slice (some ⟨k, 0, none⟩) n n ∧ s'.h.get k = some (.cells cs e false))) : OwnAll P W G f (Con.made dec F n e).own := by
  refine ⟨fun args => ?_, fun W1 k1 args s v s' ed φ w args' H _ hA hfr _ => ?_⟩
  · refine new_tr (match dec args with
      | some a => (match F a with
        | some cs => some (Blk.cells cs e false, fun k => Value.slice (some ⟨k, 0, none⟩) n n)
        | none => none)
      | none => none) fun s => ?_
    show (match dec args with
      | some a => (match F a with
        | some cs => some (Value.slice (some ⟨s.next, 0, none⟩) n n, s.new (.cells cs e false))
        | none => none)
      | none => none) = _
    cases dec args with
    | none => rfl
    | some a =>
      simp only
      cases F a with
      | none => rfl
      | some r => rfl
  · have e0 : (match dec args with
      | some a => (match F a with
        | some cs => some (Value.slice (some ⟨s.next, 0, none⟩) n n, s.new (.cells cs e false))
        | none => none)
      | none => none) = some (v, s') := ed
    split at e0
    case h_2 => cases e0
    rename_i a ha
    split at e0
    case h_2 => cases e0
    rename_i cs hr
    cases e0
    obtain rfl := hdec _ _ ha
    obtain ⟨h1, h4⟩ := hF a cs hr
    have hnn : (fn.name == "runtime.NumGoroutine") = false := by
      unfold okFunc at hok
      rw [hb] at hok
      simp only [Bool.and_eq_true, Bool.not_eq_true'] at hok
      exact hok.2
    rw [flat2L_inv (hflat a).1 hA, callFunc_run hf hb hnn]
    have kw : Later W w := k1.trans H.later
    have Lw := L.move kw.size kw.old hGW
    refine (fnW_calls (P := P) (w0 := w) (φ0 := glob G w) (G := G) ho (ownCall_ok hl kw) (ownCall_tr hl) hm (glob_glob G w) (fun id q => glob_top G w hG64 id q) hf hb hok (hflat a).2 Lw.hr (flat2L_self (hflat a).1 _) (fun id q => glob_top G w hG64 id q) (fun id q => Lw.top id (Nat.le_trans hG64 q)) (Nat.le_refl 64) h4).mono ?_
    rintro z W' ⟨v1, v', s1, φ', rfl, ⟨k0, rfl, hg⟩, hv, H', _, _⟩
    obtain ⟨b, sh, sz, c2, fz, q⟩ := H'.cells _ _ _ _ hg
    have hv' : v' = .slice (some ⟨b, sh + 0, none⟩) n n := by
      cases hv with
      | slice _ _ b2 sh2 sz2 _ _ hφ _ =>
        have := q.at_
        rw [hφ] at this
        cases this
        rfl
      | sliceU _ _ b2 sh2 sz2 _ _ _ hφ => omega
    subst hv'
    have hnew : φ s.next = none := hfr s.next (Nat.le_refl _) (by show s.next < Nat.max s.hi (s.next + 1); exact Nat.lt_of_lt_of_le (Nat.lt_succ_self _) (Nat.le_max_right _ _))
    have hmine := q.mine rfl
    refine ⟨_, upd φ s.next (b, sh, sz), rfl, Ext.upd hnew _, VR.slice _ _ _ _ _ _ _ (upd_same _ _ _) hn, ?_⟩
    refine H.adopt (w' := W') hnew H'.os H'.output H'.tape H'.size (fun j hj _ => H'.old j hj) (Nat.le_trans H.size hmine.1) (fz := fz) (c := c2) q.blk q.exact_ ?_ q.size q.fit (fun i hi => ?_) (fun _ => hmine.2) (fun O qq => by rw [Array.getElem?_eq_none hmine.1] at qq; cases qq)
    · intro j cj ej rj bj sj zj _ a'
      have := H.dom _ _ _ _ a'
      omega
    · have := q.cell i hi
      have hm : cs.getD i und ∈ cs := by rw [List.getD_eq_getElem?_getD, List.getElem?_eq_getElem hi]; exact List.getElem_mem hi
      exact flat_any (h1 _ hm) this
end Go.Det
end
