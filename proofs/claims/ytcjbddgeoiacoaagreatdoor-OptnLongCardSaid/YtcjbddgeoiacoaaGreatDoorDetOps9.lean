/- A part of an evaluator of closed runs and of its soundness. -/
import Derived.Test.YtcjbddgeoiacoaaGreatDoorDetOps8
import Derived.Lib.ConvBytes
import Derived.Laws.BytesString
import Derived.Laws.AppendOwn
import Derived.Lib.UnsafeStr
namespace Go.Det
variable {P : Program}
section
variable {w0 w : World} {φ : Ren} {l : Tmps} {s s' : St} {v : Value} {ρ : Operand → Value} {lo : Nat}

theorem convStr_ok {src dst : TypeId} {b : ByteArray} {d : TypeDesc} {x' : Value} {r : Value × St} (hs : P.underlying src = some d) (h : convStr P s (P.underlying dst) b = some r) (H : HR φ s.h w0 w) (hx : VR φ (.string b) x')
    (hf : ∀ id, s.next ≤ id → id < r.2.next → φ id = none) :
    Gives P w0 φ s.next r.2 r.1 ((do pure (Next.value (← convert src dst x')) : Sem Next).run P w) ∧ s.next ≤ r.2.next := by
  rw [string_inv hx]
  unfold convStr typ at h
  split at h
  · rename_i e hd
    split at h
    case h_2 => cases h
    rename_i he
    cases h
    have hn : φ s.next = none := hf _ (Nat.le_refl _) (Nat.lt_succ_self _)
    refine ⟨?_, Nat.le_succ _⟩
    have hge : b.size ≤ Go.grownCap w b.size 0 e := grownCap_ge w b.size 0 e
    have hsize : (Lib.bytesCells w e b).size = Go.grownCap w b.size 0 e := by
      have : b.data.size = b.size := rfl
      simp [Lib.bytesCells]; omega
    have hcell : ∀ i, i < (b.data.toList.map fun x => Value.int .u8 x.toNat).length → VR φ ((b.data.toList.map fun x => Value.int .u8 x.toNat).getD i und) ((Lib.bytesCells w e b).getD (0 + i) und) := by
      intro i hi
      simp only [List.length_map, Array.length_toList] at hi
      have e1 : (b.data.toList.map fun x => Value.int .u8 x.toNat).getD i und = .int .u8 (b.data.toList.getD i 0).toNat := by
        have hg : b.data[i]? = some b.data[i] := Array.getElem?_eq_getElem hi
        simp [List.getD_eq_getElem?_getD, hg]
      have e2 : (Lib.bytesCells w e b).getD (0 + i) und = .int .u8 (b.data.toList.getD i 0).toNat := by
        rw [Nat.zero_add, Array.getD_eq_getD_getElem?]
        have hg : b.data[i]? = some b.data[i] := Array.getElem?_eq_getElem hi
        have hi2 : i < b.size := hi
        simp [Lib.bytesCells, Array.getElem?_append, List.getD_eq_getElem?_getD, hi2]
      rw [e1, e2]; exact .int _ _
    refine gives_of (w' := Lib.bytesWorld w e b) (Lib.run_convert_string_bytes w src dst e b hs hd he) (Ext.upd hn (w.heap.size, 0, Go.grownCap w b.size 0 e)) ?_ ?_
    · have := VR.sliceU (φ := upd φ s.next (w.heap.size, 0, Go.grownCap w b.size 0 e)) s.next 0 w.heap.size 0 (Go.grownCap w b.size 0 e) b.size (Go.grownCap w b.size 0 e) 1 (upd_same _ _ _) (by omega) (by omega) hge
      exact this
    · refine H.adopt (b := w.heap.size) (c := Lib.bytesCells w e b) (fz := ((Lib.bytesCells w e b).size, (Lib.bytesCells w e b).size + 1)) hn rfl rfl rfl (by rw [Lib.bytesWorld_size]; omega) (fun k hk _ => Lib.bytesWorld_at_old w e b k hk) H.size
        (by rw [half0]; exact Lib.bytesWorld_at_new w e b) (fun q => absurd q (even0 e)) (fun j cj ej rj bj sj zj g a => by have := H.dom _ _ _ _ a; omega) hsize
        (by have : b.data.size = b.size := rfl; simp; omega) hcell (fun _ o ho => by rw [hsize]; omega) (fun O q => by rw [Array.getElem?_eq_none (Nat.le_refl _)] at q; cases q)
  · rename_i hd
    cases h
    refine ⟨gives_of (w' := w) (v' := .string b) ?_ (Ext.refl _ _ _) (.string _) H, Nat.le_refl _⟩
    simp [convert, run_underlying hs, run_underlying hd]
  · cases h

theorem bytesL_ok : ∀ {r : List Value} {bs : List UInt8}, bytesL r = some bs → ∃ ns : List Int, r = ns.map (Value.int .u8) ∧ bs = ns.map fun n => UInt8.ofNat n.toNat
  | [], bs, h => by simp only [bytesL, Option.some.injEq] at h; subst h; exact ⟨[], rfl, rfl⟩
  | v :: t, bs, h => by
    unfold bytesL at h
    split at h
    · rename_i heq
      cases heq
    · rename_i n t' heq
      cases heq
      split at h
      · rename_i r hr
        cases h
        obtain ⟨ns, e1, e2⟩ := bytesL_ok hr
        exact ⟨n :: ns, by rw [e1]; rfl, by rw [e2]; rfl⟩
      · cases h
    · cases h
theorem push_all (ns : List Int) : ∀ a : ByteArray, ns.foldl (fun r n => r.push (UInt8.ofNat n.toNat)) a = ⟨a.data ++ (ns.map fun n => UInt8.ofNat n.toNat).toArray⟩ := by
  induction ns with
  | nil => intro a; apply ByteArray.ext; simp
  | cons n t ih => intro a; rw [List.foldl_cons, ih]; apply ByteArray.ext; simp [ByteArray.push]
theorem VRL_ints {ns : List Int} {l' : List Value} (h : VRL φ (ns.map (Value.int .u8)) l') : l' = ns.map (Value.int .u8) := by
  induction ns generalizing l' with
  | nil => exact h.of_nil
  | cons n t ih => obtain ⟨v', t', rfl, hv, ht⟩ := h.head; rw [int_inv hv, ih ht]; rfl

/-- the place behind a slice that stands in memory -/
theorem slice_some {id off n c : Nat} {x' : Value} (h : VR φ (.slice (some ⟨id, off, none⟩) n c) x') : ∃ b sh sz c', φ id = some (b, sh, sz) ∧ x' = .slice (some ⟨b, sh + off, none⟩) n c' ∧ (c < capU → c' = c) ∧ (capU ≤ c → n ≤ c') := by
  rcases slice_inv h with ⟨q, a', rfl, k⟩ | ⟨_, _, b, sh, sz, es, c', k1, k3, k2, _, _, k4, rfl⟩
  · rcases k with ⟨k, _⟩ | ⟨_, _, b, sh, sz, k1, k2, rfl⟩
    · cases k
    · cases k1; exact ⟨b, sh, sz, _, k2, rfl, fun _ => rfl, fun k => by omega⟩
  · cases k1; exact ⟨b, sh, sz, c', k2, rfl, fun k => by omega, fun _ => k4⟩

theorem convSlice_ok {src dst : TypeId} {a : Option Addr} {n c : Nat} {x' : Value} {r : Value × St} (h : convSlice P s (P.underlying src) (P.underlying dst) a n = some r) (H : HR φ s.h w0 w) (hx : VR φ (.slice a n c) x') :
    Gives P w0 φ lo r.2 r.1 ((do pure (Next.value (← convert src dst x')) : Sem Next).run P w) ∧ r.2.next = s.next := by
  unfold convSlice typ at h
  split at h
  case h_2 => cases h
  rename_i e hs hd
  split at h
  case h_2 => cases h
  rename_i he
  split at h
  · cases h
    rw [snil_inv hx]
    refine ⟨gives_of (w' := w) (v' := .string .empty) ?_ (Ext.refl _ _ _) (.string _) H, rfl⟩
    rw [run_convert_bytes_string w src dst e none n c hs he hd]; rfl
  · rename_i id off
    split at h
    case h_2 => cases h
    rename_i cs e' ro hg
    split at h
    case h_2 => cases h
    rename_i r' hr
    split at h
    case h_2 => cases h
    rename_i bs hbs
    cases h
    obtain ⟨b, sh, sz, c', hat, rfl, _, _⟩ := slice_some hx
    rw [ldrop_eq] at hr
    obtain ⟨rfl, hle⟩ := ltake_some hr
    obtain ⟨ns, e1, e2⟩ := bytesL_ok hbs
    refine ⟨gives_of (w' := w) (v' := .string ⟨bs.toArray⟩) ?_ (Ext.refl _ _ _) (.string _) H, rfl⟩
    rw [run_convert_bytes_string w src dst e _ n c' hs he hd]
    by_cases h0 : n = 0
    · subst h0
      rw [List.take_zero] at e1
      have : ns = [] := by cases ns with | nil => rfl | cons a t => simp at e1
      subst this
      have := run_bytesToString (P := P) w ⟨b, sh + off, none⟩ 0 c' [] (by simp [loadCells, loadCellsFrom])
      rw [this, e2]
      simp; rfl
    · obtain ⟨b', sh', sz', c2, fz, k⟩ := H.cells _ _ _ _ hg
      have := k.at_; rw [hat] at this; cases this
      obtain ⟨cs', q1, q2⟩ := loadCells_run (P := P) (n := n) (off := off) k (by simp at hle; omega)
      rw [e1] at q2
      have q3 := VRL_ints q2
      have : (loadCells ⟨b, sh + off, none⟩ n).run P w = .ok (ns.map (Value.int .u8)).toArray w := by
        rw [q1]; congr 1; apply Array.ext'; simpa using q3
      rw [run_bytesToString w ⟨b, sh + off, none⟩ n c' ns this, push_all, e2]
      congr 3
      apply Array.ext'; simp
  · cases h

theorem shape_at {w : World} {b : Nat} {c : Array Value} {e : TypeId} {fz : Nat × Nat} (hb : w.heap[b]? = some (.cells c e fz)) : w.shape? b = some (e, c.size) := by simp [World.shape?, hb]

theorem liesAt_self {e : TypeId} {n count : Nat} (hc : P.cellsOf e = n) (hn : 1 ≤ n) (h1 : 1 ≤ count) : liesAt P P.depth e count 0 e 1 = true := by
  have hd : P.depth = (2 * (P.types.size + Made.depth) + 1) + 1 := rfl
  rw [hd]
  simp only [liesAt, Bool.or_eq_true]
  left
  rw [hd]
  have : ¬ n = 0 := by omega
  simp [rowAt, hc, this, h1, sameLayout]
theorem liesAt_bytes_off {e : TypeId} (hc : P.cellsOf e = 1) (count off n : Nat) (hn : off + n ≤ count) : liesAt P P.depth e count off e n = true := by
  have hd : P.depth = (2 * (P.types.size + Made.depth) + 1) + 1 := rfl
  rw [hd]
  simp only [liesAt, Bool.or_eq_true]
  left
  rw [hd]
  simp [rowAt, hc, hn, sameLayout, Nat.mod_one]

theorem convPtr_ok {src dst : TypeId} {a : Option Addr} {x' : Value} {r : Value × St} (h : convPtr P s (P.underlying src) (P.underlying dst) a = some r) (H : HR φ s.h w0 w) (hx : VR φ (.pointer a) x') :
    Gives P w0 φ lo r.2 r.1 ((do pure (Next.value (← convert src dst x')) : Sem Next).run P w) ∧ r.2.next = s.next := by
  unfold convPtr at h
  split at h
  · rename_i t hs hd
    split at h
    · cases h
      rw [pnil_inv hx]
      refine ⟨gives_of (w' := w) (v' := .pointer none) ?_ (Ext.refl _ _ _) .pnil H, rfl⟩
      simp [convert, run_underlying hs, run_underlying hd, Conv.unsafePointer]
    · rename_i id off
      split at h
      case h_2 => cases h
      rename_i cs e ro n hg hn
      split at h
      case isFalse => cases h
      rename_i hc
      cases h
      simp only [Bool.and_eq_true, Nat.ble_eq] at hc
      obtain ⟨b, sh, sz, hat, rfl⟩ := ptr_inv hx
      obtain ⟨b', sh', sz', c2, fz, k⟩ := H.cells _ _ _ _ hg
      have := k.at_; rw [hat] at this; cases this
      refine ⟨gives_of (w' := w) (v' := .pointer (some ⟨b, sh + off, none⟩)) ?_ (Ext.refl _ _ _) hx H, rfl⟩
      have hn0 : ¬ n = 0 := by omega
      have hno : ¬ c2.size ≤ sh + off := by rw [k.size]; have := k.fit; omega
      simp [convert, run_underlying hs, run_underlying hd, Conv.unsafePointer, Conv.seenAt, viewAt, shape_at k.blk, cellsIn, szOf_run hn, hn0, hno]
    · cases h
  · rename_i u hs hd
    split at h
    · cases h
      rw [pnil_inv hx]
      refine ⟨gives_of (w' := w) (v' := .pointer none) ?_ (Ext.refl _ _ _) .pnil H, rfl⟩
      simp [convert, run_underlying hs, run_underlying hd, Conv.unsafePointer]
    · rename_i id
      split at h
      case h_2 => cases h
      rename_i cs e ro n hg hn
      split at h
      case isFalse => cases h
      rename_i hc
      cases h
      simp only [Bool.and_eq_true, Nat.ble_eq] at hc
      obtain rfl := Nat.eq_of_beq_eq_true hc.1
      obtain ⟨b, sh, sz, hat, rfl⟩ := ptr_inv hx
      obtain ⟨b', sh', sz', c2, fz, k⟩ := H.cells _ _ _ _ hg
      have := k.at_; rw [hat] at this; cases this
      have h0 : sh = 0 := k.exact_ (odd1 u)
      refine ⟨gives_of (w' := w) (v' := .pointer (some ⟨b, sh + 0, none⟩)) ?_ (Ext.refl _ _ _) hx H, rfl⟩
      have hcells := szOf_cells hn
      have hsz : n ≤ c2.size := by rw [k.size]; have := k.fit; omega
      have hlies := liesAt_self (P := P) (e := u) (n := n) (count := c2.size / n) hcells hc.2.1 (by rw [Nat.le_div_iff_mul_le (by omega)]; omega)
      have hblk := shape_at k.blk
      rw [half1] at hblk
      have hn0 : ¬ n = 0 := by omega
      subst h0
      simp [convert, run_underlying hs, run_underlying hd, Conv.unsafePointer, Conv.seenAt, viewAt, hblk, szOf_run hn, hn0, variablesAt, hcells, hlies]
    · cases h
  · cases h

theorem freeze_heap {w : World} {b off n : Nat} {c : Array Value} {e : TypeId} {fz : Nat × Nat} (hb : w.heap[b]? = some (.cells c e fz)) (hn : n ≠ 0) :
    ∃ fz', (w.freeze ⟨b, off, none⟩ n).heap[b]? = some (.cells c e fz') ∧ (∀ k, k ≠ b → (w.freeze ⟨b, off, none⟩ n).heap[k]? = w.heap[k]?) ∧ (w.freeze ⟨b, off, none⟩ n).heap.size = w.heap.size ∧
      (w.freeze ⟨b, off, none⟩ n).os = w.os ∧ (w.freeze ⟨b, off, none⟩ n).output = w.output ∧ (w.freeze ⟨b, off, none⟩ n).tape = w.tape := by
  obtain ⟨lo, hi⟩ := fz
  refine ⟨if lo == hi then (off, off + n) else (min lo off, max hi (off + n)), ?_, fun k hk => ?_, ?_, ?_, ?_, ?_⟩
  · simp [World.freeze, hn, Array.getElem?_modify, hb]
  · simp [World.freeze, hn, Array.getElem?_modify, Ne.symm hk]
  · simp [World.freeze, hn]
  · simp [World.freeze, hn]
  · simp [World.freeze, hn]
  · simp [World.freeze, hn]

theorem convSame_ok {t : TypeId} {a : Option Addr} {n c : Nat} {x' : Value} {r : Value × St} (h : convSame P s (P.underlying t) a n c = some r) (H : HR φ s.h w0 w) (hx : VR φ (.slice a n c) x') :
    Gives P w0 φ lo r.2 r.1 ((do pure (Next.value (← convert t t x')) : Sem Next).run P w) ∧ r.2.next = s.next := by
  unfold convSame typ at h
  split at h
  case h_2 => cases h
  rename_i e ht
  split at h
  case h_2 => cases h
  rename_i he
  split at h
  case h_2 => cases h
  rename_i id off
  split at h
  case h_2 => cases h
  rename_i cs el hg
  cases h
  have hx0 := hx
  obtain ⟨b, sh, sz, c', hat, rfl, _, _⟩ := slice_some hx
  obtain ⟨b', sh', sz', c2, fz, k2⟩ := H.cells _ _ _ _ hg
  have := k2.at_; rw [hat] at this; cases this
  obtain ⟨fz', f1, f2, f3, f4, f5, f6⟩ := freeze_heap (off := c2.size) (n := 1) k2.blk (by decide)
  have hsh := shape_at k2.blk
  obtain ⟨hmine, _⟩ := k2.mine rfl
  refine ⟨gives_of (w' := w.freeze ⟨b, c2.size, none⟩ 1) (v' := .slice (some ⟨b, sh + off, none⟩) n c') ?_ (Ext.refl _ _ _) hx0 ?_, rfl⟩
  · simp [convert, run_underlying ht, run_underlying he, markStringish, hsh]
  · exact H.turn hg k2.at_ f4 f5 f6 f3 f2 hmine f1 k2.exact_ k2.size k2.fit k2.cell (fun q => by cases q)

theorem convEmp_ok {src dst : TypeId} {x' : Value} {r : Value × St} (h : convEmp P s (P.underlying src) (P.underlying dst) = some r) (H : HR φ s.h w0 w) (hx : VR φ emp x') :
    Gives P w0 φ lo r.2 r.1 ((do pure (Next.value (← convert src dst x')) : Sem Next).run P w) ∧ r.2.next = s.next := by
  unfold convEmp typ at h
  split at h
  case h_2 => cases h
  rename_i e hs hd
  split at h
  case h_2 => cases h
  rename_i he
  cases h
  obtain ⟨a, c, rfl⟩ := emp_inv hx
  refine ⟨gives_of (w' := w) (v' := .string .empty) ?_ (Ext.refl _ _ _) (.string _) H, rfl⟩
  rw [run_convert_bytes_string w src dst e a 0 c hs he hd]
  cases a with
  | none => rfl
  | some a =>
    have := run_bytesToString (P := P) w a 0 c [] (by simp [loadCells, loadCellsFrom])
    rw [this]; rfl

theorem opConvert_ok {src dst : TypeId} {x : Operand} (h : opConvert P src dst x l s = some (v, s')) (H : HR φ s.h w0 w) (hf : ∀ id, s.next ≤ id → id < s'.next → φ id = none) (hx : VR φ (evalO l x) (ρ x)) :
    Gives P w0 φ s.next s' v ((do pure (.value (← convert src dst (ρ x))) : Sem Next).run P w) ∧ s.next ≤ s'.next := by
  unfold opConvert convertD typ at h
  split at h
  · rename_i b hv
    rw [hv] at hx
    split at h
    · rename_i d hd; exact convStr_ok hd h H hx hf
    · cases h
  · rename_i a n c hv
    rw [hv] at hx
    split at h
    · rename_i hsd
      have hsd := Nat.eq_of_beq_eq_true hsd
      subst hsd
      obtain ⟨g, e⟩ := convSame_ok (lo := s.next) h H hx
      exact ⟨g, Nat.le_of_eq e.symm⟩
    · obtain ⟨g, e⟩ := convSlice_ok (lo := s.next) h H hx
      exact ⟨g, Nat.le_of_eq e.symm⟩
  · rename_i a hv
    rw [hv] at hx
    obtain ⟨g, e⟩ := convPtr_ok (lo := s.next) h H hx
    exact ⟨g, Nat.le_of_eq e.symm⟩
  · rename_i hv
    rw [hv] at hx
    obtain ⟨g, e⟩ := convEmp_ok (lo := s.next) h H hx
    exact ⟨g, Nat.le_of_eq e.symm⟩
  · split at h
    case isFalse => cases h
    rename_i hf2
    split at h
    case h_2 => cases h
    rename_i r hr
    split at h
    case isFalse => cases h
    rename_i hfr
    cases h
    rw [flat2_inv hf2 hx]
    exact ⟨gives_pure H (flat_self hfr φ) (pureRun_run hr w), Nat.le_refl _⟩

end
end Go.Det
