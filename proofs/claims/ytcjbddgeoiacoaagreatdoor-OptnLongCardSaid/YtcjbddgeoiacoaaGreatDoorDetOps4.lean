/- A part of an evaluator of closed runs and of its soundness. -/
import Derived.Test.YtcjbddgeoiacoaaGreatDoorDetOps3
namespace Go.Det
variable {P : Program}
section
variable {w0 w : World} {φ : Ren} {l : Tmps} {s s' : St} {v : Value} {ρ : Operand → Value} {lo : Nat}

theorem VRL.of_cells {φ : Ren} {v v' : Value} (h : VR φ v v') (hne : v ≠ und) : VRL φ (cellsOfV v) v'.cells.toList := by
  cases h with
  | any => exact absurd rfl hne
  | agg a a' e q => exact ⟨e, q⟩
  | _ => exact VRL.cons (by first | exact .skip | exact .bool _ | exact .int _ _ | exact .string _ | exact .pnil | exact .mnil | exact .nilFunc | exact .nilIface | (constructor <;> assumption)) (VRL.nil φ)

theorem cellsOfV_self (v : Value) : cellsOfV v = v.cells.toList := by cases v <;> rfl

/-- of a number its own block -/
theorem pointer_cases {φ : Ren} {id off : Nat} {x' : Value} (h : VR φ (.pointer (some ⟨id, off, none⟩)) x') : ∃ b sh sz, φ id = some (b, sh, sz) ∧ x' = .pointer (some ⟨b, sh + off, none⟩) := ptr_inv h

theorem cell_at {w : World} {b : Nat} {c : Array Value} {e : TypeId} {fz : Nat × Nat} (hb : w.heap[b]? = some (.cells c e fz)) (o : Nat) (h : o < c.size) : w.cell? ⟨b, o, none⟩ = some (c.getD o und) := by
  simp [World.cell?, hb, Array.getD, h]

theorem VRL.mk' {φ : Ren} {a b : List Value} (h : a.length = b.length) (k : ∀ i, i < a.length → VR φ (a.getD i und) (b.getD i und)) : VRL φ a b := by
  refine ⟨h, fun i => ?_⟩
  by_cases q : i < a.length
  · exact k i q
  · rw [List.getD_eq_getElem?_getD, List.getD_eq_getElem?_getD, List.getElem?_eq_none (by omega), List.getElem?_eq_none (by omega)]; exact .any _

/-- reading n cells -/
theorem loadCells_run {id off n : Nat} {cs : List Value} {e : TypeId} {ro : Bool} {b sh sz : Nat} {c : Array Value} {fz : Nat × Nat} (k : CellsAt φ w0 w id cs e ro b sh sz c fz) (hn : off + n ≤ cs.length) :
    ∃ r', (loadCells ⟨b, sh + off, none⟩ n).run P w = .ok r' w ∧ VRL φ ((cs.drop off).take n) r'.toList := by
  have hs : ∀ j, j < n → sh + off + j < c.size := by intro j hj; rw [k.size]; have := k.fit; omega
  refine ⟨_, run_loadCells w ⟨b, sh + off, none⟩ n (fun j => c.getD (sh + off + j) und) (fun j hj => ?_), ?_⟩
  · rw [addr_add, cell_at k.blk _ (hs j hj)]
  · refine VRL.mk' (by simp; omega) fun i hi => ?_
    have hi : i < n := by simp at hi; omega
    have := k.cell (off + i) (by omega)
    rw [← Nat.add_assoc] at this
    simp only [List.getD_eq_getElem?_getD, List.getElem?_take_of_lt hi, List.getElem?_drop]
    rw [List.getElem?_map, List.getElem?_range hi]
    simpa [List.getD_eq_getElem?_getD] using this

theorem opLoad_ok {t : TypeId} {a : Operand} (h : opLoad P t a l s = some (v, s')) (H : HR φ s.h w0 w) (hx : VR φ (evalO l a) (ρ a)) :
    Gives P w0 φ lo s' v ((do pure (.value (← Instr.loadAt t (ρ a))) : Sem Next).run P w) ∧ s'.next = s.next := by
  unfold opLoad loadD at h
  split at h
  case h_2 => cases h
  rename_i id off hv
  split at h
  case h_2 => cases h
  rename_i cs e ro hg
  rw [hv] at hx
  obtain ⟨b, sh, sz, e1, hp⟩ := ptr_inv hx
  obtain ⟨b', sh', sz', c, fz, k⟩ := H.cells _ _ _ _ hg
  have := k.at_; rw [e1] at this; cases this
  split at h
  · rename_i hb
    split at h
    case h_2 => cases h
    rename_i n hn
    split at h
    case h_2 => cases h
    rename_i r hr
    simp only [Option.some.injEq, Prod.mk.injEq] at h
    obtain ⟨rfl, rfl⟩ := h
    rw [ldrop_eq] at hr
    obtain ⟨rfl, hle⟩ := ltake_some hr
    by_cases h0 : n = 0
    · subst h0
      refine ⟨gives_pure (s := s.read id) H (v' := .agg #[]) ?_ ?_, rfl⟩
      · rw [List.take_zero]; exact VR.agg_of (VRL.nil φ)
      · simp [Instr.loadAt, hp, Instr.sureAddr, loadVar, isAggB_run hb, szOf_run hn, loadCells, loadCellsFrom]
    · obtain ⟨r', hrun, hrel⟩ := loadCells_run (P := P) (n := n) (off := off) k (by simp at hle; omega)
      obtain ⟨r'⟩ := r'
      refine ⟨gives_pure (s := s.read id) H (VR.agg_of hrel) ?_, rfl⟩
      simp [Instr.loadAt, hp, Instr.sureAddr, loadVar, isAggB_run hb, szOf_run hn, hrun]
  · rename_i hb
    split at h
    case h_2 => cases h
    rename_i v1 t1 hd
    simp only [Option.some.injEq, Prod.mk.injEq] at h
    obtain ⟨rfl, rfl⟩ := h
    rw [ldrop_eq] at hd
    have hlt : off < cs.length := by
      rcases Nat.lt_or_ge off cs.length with q | q
      · exact q
      · rw [List.drop_eq_nil_of_le q] at hd; cases hd
    have hv1 : cs.getD off und = v1 := by
      rw [List.getD_eq_getElem?_getD, show cs[off]? = (cs.drop off)[0]? by rw [List.getElem?_drop]; rfl, hd]; rfl
    have hc := k.cell off hlt
    rw [hv1] at hc
    refine ⟨gives_pure (s := s.read id) H hc ?_, rfl⟩
    have hcell := cell_at k.blk (sh + off) (by rw [k.size]; have := k.fit; omega)
    simp [Instr.loadAt, hp, Instr.sureAddr, loadVar, isAggB_run hb, hcell]
  · cases h

/-- new cells of one's own -/
theorem alloc_ok {cs : List Value} {cs' : Array Value} {E e : TypeId} (hE : E / 2 = e) (H : HR φ s.h w0 w) (hn : φ s.next = none) (hc : VRL φ cs cs'.toList) :
    HR (upd φ s.next (w.heap.size, 0, cs'.size)) (s.new (.cells cs E false)).h w0 { w with heap := w.heap.push (.cells cs' e) } := by
  refine H.adopt (w' := { w with heap := w.heap.push (.cells cs' e) }) hn rfl rfl rfl (by simp) (fun k hk hk2 => ?_) H.size (fz := (0, 0)) (c := cs') ?_ (fun _ => rfl) ?_ rfl ?_ (fun i hi => ?_) (fun _ o _ => by simp) (fun O q => by rw [Array.getElem?_eq_none (Nat.le_refl _)] at q; cases q)
  · show (w.heap.push _)[k]? = w.heap[k]?
    rw [Array.getElem?_push, if_neg (by omega)]
  · show (w.heap.push _)[w.heap.size]? = _
    rw [Array.getElem?_push, if_pos rfl, hE]
  · intro j cj ej rj bj sj zj g a
    have := H.dom _ _ _ _ a
    omega
  · have := hc.1; simp at this; omega
  · have := hc.2 i
    rw [Nat.zero_add]
    simpa [List.getD_eq_getElem?_getD, Array.getD_eq_getD_getElem?] using this

theorem zero_cells {e : TypeId} {z : Value} (h : zeroOf P e = some z) (φ : Ren) : VRL φ (cellsOfV z) z.cells.toList := by
  have hf := zeroOf_flat h
  refine VRL.of_cells (flat2_self hf φ) ?_
  rintro rfl
  simp [und, flat2, flat1] at hf

/-- what a new block gives -/
theorem gives_new {cs : List Value} {cs' : Array Value} {E e : TypeId} {m : Sem Value} {f : Addr → Value} (hE : E / 2 = e) (H : HR φ s.h w0 w) (hn : φ s.next = none) (hc : VRL φ cs cs'.toList)
    (hm : m.run P w = .ok (f ⟨w.heap.size, 0, none⟩) { w with heap := w.heap.push (.cells cs' e) })
    (hv : VR (upd φ s.next (w.heap.size, 0, cs'.size)) v (f ⟨w.heap.size, 0, none⟩)) :
    Gives P w0 φ s.next (s.new (.cells cs E false)) v ((do pure (.value (← m)) : Sem Next).run P w) := by
  rw [Sem.run_bind, hm]
  exact ⟨_, Ext.upd hn _, hv, alloc_ok hE H hn hc⟩

theorem opAlloc_ok {e : TypeId} (h : opAlloc P e l s = some (v, s')) (H : HR φ s.h w0 w) (hf : ∀ id, s.next ≤ id → id < s'.next → φ id = none) :
    Gives P w0 φ s.next s' v ((do pure (.value (← Instr.alloc e true (.tuple #[]))) : Sem Next).run P w) := by
  unfold opAlloc at h
  split at h
  case h_2 => cases h
  rename_i z hz
  simp only [Option.some.injEq, Prod.mk.injEq] at h
  obtain ⟨rfl, rfl⟩ := h
  have hn : φ s.next = none := hf _ (Nat.le_refl _) (Nat.lt_succ_self _)
  refine gives_new (E := 2 * e + 1) (e := e) (f := fun a => .pointer (some a)) (half1 e) H hn (zero_cells hz φ) ?_ (.ptr _ _ w.heap.size 0 _ (upd_same _ _ _))
  simp [Instr.alloc, zeroOf_run hz, newVar, newRow]

theorem opBox_ok {e : TypeId} {x : Operand} (h : opBox e x l s = some (v, s')) (H : HR φ s.h w0 w) (hf : ∀ id, s.next ≤ id → id < s'.next → φ id = none) (hx : VR φ (evalO l x) (ρ x)) :
    Gives P w0 φ s.next s' v ((do pure (.value (← Instr.box e (ρ x))) : Sem Next).run P w) := by
  unfold opBox at h
  split at h
  case isFalse => cases h
  rename_i hu
  simp only [Option.some.injEq, Prod.mk.injEq] at h
  obtain ⟨rfl, rfl⟩ := h
  have hn : φ s.next = none := hf _ (Nat.le_refl _) (Nat.lt_succ_self _)
  refine gives_new (E := 2 * e + 1) (e := e) (f := fun a => .pointer (some a)) (half1 e) H hn (VRL.of_cells hx ?_) ?_ (.ptr _ _ w.heap.size 0 _ (upd_same _ _ _))
  · intro q; rw [q] at hu; simp [isUnd, und] at hu
  · simp [Instr.box, newVar, newRow]

end
end Go.Det
