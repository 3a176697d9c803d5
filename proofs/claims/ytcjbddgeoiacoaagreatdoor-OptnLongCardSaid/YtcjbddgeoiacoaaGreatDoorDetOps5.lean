/- A part of an evaluator of closed runs and of its soundness. -/
import Derived.Test.YtcjbddgeoiacoaaGreatDoorDetOps4
import Derived.Laws.Tables
namespace Go.Det
variable {P : Program}
section
variable {w0 w : World} {φ : Ren} {l : Tmps} {s s' : St} {v : Value} {ρ : Operand → Value} {lo : Nat}

theorem szOf_info {t : TypeId} {n : Nat} (h : szOf P t = some n) : ∃ i, P.info? t = some i ∧ i.size = n := by
  unfold szOf at h
  split at h
  · rename_i i hi; cases h; exact ⟨i, hi, rfl⟩
  · cases h
theorem placesD_run : ∀ {fs : List Field} {r : List (Nat × Nat)}, placesD P fs = some r → fs.mapM (fun f => (P.info? f.type).map fun i => (f.offset, i.size)) = some r
  | [], r, h => by simp only [placesD, Option.some.injEq] at h; subst h; rfl
  | f :: t, r, h => by
    unfold placesD at h
    split at h
    · rename_i n r' hn hr
      cases h
      obtain ⟨i, hi, rfl⟩ := szOf_info hn
      simp [List.mapM_cons, hi, placesD_run hr]
    · cases h

theorem isUnd_eq {v : Value} (h : isUnd v = false) : v ≠ und := by rintro rfl; simp [isUnd, und] at h

/-- writing a row of cells -/
theorem put_cells (off : Nat) : ∀ (ws : List Value) (k : Nat) (cells : Array Value), off + k + ws.length ≤ cells.size →
    ((ws.zipIdx k).foldl (fun cs (x : Value × Nat) => cs.setIfInBounds (off + x.2) x.1) cells).size = cells.size ∧
    ∀ i, ((ws.zipIdx k).foldl (fun cs (x : Value × Nat) => cs.setIfInBounds (off + x.2) x.1) cells).getD i und = if off + k ≤ i ∧ i < off + k + ws.length then ws.getD (i - (off + k)) und else cells.getD i und
  | [], k, cells, _ => ⟨rfl, fun i => by rw [if_neg (by simp only [List.length_nil]; omega)]; rfl⟩
  | x :: ws, k, cells, h => by
    simp only [List.length_cons] at h
    obtain ⟨h1, h2⟩ := put_cells off ws (k + 1) (cells.setIfInBounds (off + k) x) (by simp; omega)
    refine ⟨by simpa using h1, fun i => ?_⟩
    rw [List.zipIdx_cons, List.foldl_cons, h2 i]
    by_cases q : off + (k + 1) ≤ i ∧ i < off + (k + 1) + ws.length
    · rw [if_pos q, if_pos (by simp; omega), show i - (off + k) = i - (off + (k + 1)) + 1 by omega]; rfl
    · rw [if_neg q]
      by_cases q2 : i = off + k
      · subst q2
        rw [if_pos (by simp), Nat.sub_self]
        simp [Array.getD, show off + k < cells.size by omega]
      · rw [if_neg (by simp; omega)]
        simp [Array.getD_eq_getD_getElem?, Array.getElem?_setIfInBounds_ne (Ne.symm q2)]

theorem fill_ok {place : Nat → Option (Nat × Nat)} : ∀ {parts : List (Nat × Value)} {parts' : List (Nat × Value)} {cells r : List Value} {cells' : Array Value}, fillL place cells parts = some r →
    parts.map (·.1) = parts'.map (·.1) → VRL φ (parts.map (·.2)) (parts'.map (·.2)) → VRL φ cells cells'.toList → ∃ r', Instr.fill place cells' parts' = some r' ∧ VRL φ r r'.toList
  | [], parts', cells, r, cells', h, h1, _, h3 => by
    simp only [fillL, Option.some.injEq] at h
    subst h
    have : parts' = [] := by simpa using h1.symm
    subst this
    exact ⟨cells', rfl, h3⟩
  | (i, v) :: rest, parts', cells, r, cells', h, h1, h2, h3 => by
    cases parts' with
    | nil => simp at h1
    | cons p rest' =>
    obtain ⟨i', v'⟩ := p
    simp only [List.map_cons, List.cons.injEq] at h1
    obtain ⟨rfl, h1⟩ := h1
    obtain ⟨_, _, e, hv, ht⟩ := h2.head
    simp only [List.map_cons, List.cons.injEq] at e
    obtain ⟨rfl, rfl⟩ := e
    unfold fillL at h
    split at h
    · cases h
    · rename_i off size hp
      split at h
      · rename_i hc
        simp only [Bool.and_eq_true, Bool.not_eq_true'] at hc
        have hsz := Nat.eq_of_beq_eq_true hc.1
        have hcv := VRL.of_cells hv (isUnd_eq hc.2)
        split at h
        · rename_i c hl
          obtain ⟨_, hle⟩ := lput_some hl
          have hlen : v'.cells.size = size := by have := hcv.1; simp at this; omega
          have hcl : cells.length = cells'.size := by have := h3.1; simpa using this
          obtain ⟨p1, p2⟩ := put_cells off v'.cells.toList 0 cells' (by simp; omega)
          have hfold : (v'.cells.zipIdx.foldl (fun cs (x : Value × Nat) => cs.setIfInBounds (off + x.2) x.1) cells') = ((v'.cells.toList.zipIdx 0).foldl (fun cs (x : Value × Nat) => cs.setIfInBounds (off + x.2) x.1) cells') := by
            rw [← Array.foldl_toList]; simp
          have hrel : VRL φ c ((v'.cells.toList.zipIdx 0).foldl (fun cs (x : Value × Nat) => cs.setIfInBounds (off + x.2) x.1) cells').toList := by
            refine VRL.mk' ((lput_length hl).trans (hcl.trans (p1.symm.trans Array.length_toList.symm))) fun j hj => ?_
            have e1 := lput_getD hl j
            have e2 := p2 j
            rw [e1]
            rw [show ((v'.cells.toList.zipIdx 0).foldl (fun cs (x : Value × Nat) => cs.setIfInBounds (off + x.2) x.1) cells').toList.getD j und = ((v'.cells.toList.zipIdx 0).foldl (fun cs (x : Value × Nat) => cs.setIfInBounds (off + x.2) x.1) cells').getD j und by
              simp [List.getD_eq_getElem?_getD, Array.getD_eq_getD_getElem?], e2]
            by_cases q : off ≤ j ∧ j < off + (cellsOfV v).length
            · rw [if_pos q, if_pos (by simp; omega)]
              exact hcv.2 _
            · rw [if_neg q, if_neg (by simp; omega)]
              have := h3.2 j
              simpa [List.getD_eq_getElem?_getD, Array.getD_eq_getD_getElem?] using this
          obtain ⟨r', hr', q⟩ := fill_ok h h1 ht hrel
          refine ⟨r', ?_, q⟩
          simp only [Instr.fill, hp]
          rw [if_neg (by simp; omega)]
          rw [← hr', ← hfold]
        · cases h
      · cases h

theorem nth_eq {α : Type} : ∀ (l : List α) (i : Nat), nth l i = l[i]?
  | [], _ => rfl
  | _ :: _, 0 => rfl
  | _ :: t, i + 1 => by rw [nth, nth_eq t i]; rfl

theorem parts_ok {parts : Array (Nat × Operand)} (h : ∀ x ∈ parts.toList, VR φ (evalO l x.2) (ρ x.2)) :
    (pairsO l parts.toList).map (·.1) = ((parts.map fun (i, x) => (i, ρ x)).toList).map (·.1) ∧ VRL φ ((pairsO l parts.toList).map (·.2)) (((parts.map fun (i, x) => (i, ρ x)).toList).map (·.2)) := by
  obtain ⟨h1, h2⟩ := pairsO_ok h
  rw [Array.toList_map, List.map_map, List.map_map]
  exact ⟨h1, h2⟩

theorem opBuild_ok {t : TypeId} {parts : Array (Nat × Operand)} (h : opBuild P t parts l s = some (v, s')) (H : HR φ s.h w0 w) (hx : ∀ x ∈ parts.toList, VR φ (evalO l x.2) (ρ x.2)) :
    Gives P w0 φ lo s' v ((do pure (.value (← Instr.build t (parts.map fun (i, x) => (i, ρ x)))) : Sem Next).run P w) := by
  unfold opBuild ofV at h
  split at h
  case h_2 => cases h
  rename_i r hr
  simp only [Option.some.injEq, Prod.mk.injEq] at h
  obtain ⟨rfl, rfl⟩ := h
  obtain ⟨p1, p2⟩ := parts_ok (φ := φ) hx
  unfold buildD typ at hr
  split at hr
  case h_2 => cases hr
  rename_i z hz
  obtain ⟨it, hit, hz0, hzs, hzf⟩ := zeroOf_info hz
  split at hr
  · rename_i fs ht
    split at hr
    case h_2 => cases hr
    rename_i pl hpl
    split at hr
    case h_2 => cases hr
    rename_i cs hcs
    simp only [Option.some.injEq] at hr
    subst hr
    have hcs : fillL (pl.toArray[·]?) (cellsOfV z) (pairsO l parts.toList) = some cs := by
      have : nth pl = (pl.toArray[·]?) := by funext i; rw [nth_eq]; simp
      rw [← this]; exact hcs
    obtain ⟨r', e, q⟩ := fill_ok hcs p1 p2 (zero_cells hz φ)
    obtain ⟨r'⟩ := r'
    refine gives_pure H (VR.agg_of q) (run_build w t _ _ ?_)
    simp only [Program.built, hit, ht, hz0, placesD_run hpl]
    exact e
  · rename_i n elem ht
    split at hr
    case h_2 => cases hr
    rename_i size hs
    split at hr
    case h_2 => cases hr
    rename_i cs hcs
    simp only [Option.some.injEq] at hr
    subst hr
    obtain ⟨ie, hie, rfl⟩ := szOf_info hs
    obtain ⟨r', e, q⟩ := fill_ok hcs p1 p2 (zero_cells hz φ)
    obtain ⟨r'⟩ := r'
    refine gives_pure H (VR.agg_of q) (run_build w t _ _ ?_)
    simp only [Program.built, hit, ht, hz0, hie]
    exact e
  · cases hr

theorem repeatL_length (z : List Value) : ∀ n, (repeatL z n).length = n * z.length
  | 0 => by simp [repeatL]
  | n + 1 => by rw [repeatL, List.length_append, repeatL_length z n, Nat.add_mul]; omega
theorem repeatL_getD (z : List Value) : ∀ n i, i < n * z.length → (repeatL z n).getD i und = z.getD (i % z.length) und
  | 0, i, h => by simp at h
  | n + 1, i, h => by
    rw [repeatL, List.getD_eq_getElem?_getD]
    by_cases q : i < z.length
    · rw [List.getElem?_append_left q, Nat.mod_eq_of_lt q, List.getD_eq_getElem?_getD]
    · have q : z.length ≤ i := by omega
      rw [List.getElem?_append_right q, ← List.getD_eq_getElem?_getD, repeatL_getD z n (i - z.length) (by rw [Nat.add_mul] at h; omega), Nat.mod_eq_sub_mod q]

/-- a row of zero values -/
theorem zero_row {e : TypeId} {z : Value} {ie : TypeInfo} (hz : zeroOf P e = some z) (hie : P.info? e = some ie) (φ : Ren) (n : Nat) :
    VRL φ (repeatL (cellsOfV z) n) ((Array.range (n * ie.size)).map (z.cells[· % z.cells.size]!)).toList := by
  obtain ⟨ie', h1, h2, h3, h4⟩ := zeroOf_info hz
  rw [hie] at h1; cases h1
  have hc := zero_cells hz φ
  have hlen : z.cells.size = ie.size := by have := hc.1; simp at this; omega
  refine VRL.mk' (by rw [repeatL_length, h3]; simp) fun i hi => ?_
  rw [repeatL_length] at hi
  rw [repeatL_getD _ _ _ hi]
  have hpos : 0 < ie.size := by
    rcases Nat.eq_zero_or_pos ie.size with q | q
    · rw [h3, q] at hi; simp at hi
    · exact q
  have hm : i % ie.size < ie.size := Nat.mod_lt _ hpos
  have := hc.2 (i % (cellsOfV z).length)
  rw [h3] at this ⊢
  rw [h3] at hi
  have e1 : (((Array.range (n * ie.size)).map (z.cells[· % z.cells.size]!)).toList).getD i und = z.cells.toList.getD (i % ie.size) und := by
    rw [List.getD_eq_getElem?_getD, Array.getElem?_toList, Array.getElem?_map, Array.getElem?_range, if_pos hi]
    simp [hlen, List.getD_eq_getElem?_getD, hm]
  rw [e1]; exact this

theorem opBuildSlice_ok {t : TypeId} {n : Nat} {parts : Array (Nat × Operand)} (h : opBuildSlice P t n parts l s = some (v, s')) (H : HR φ s.h w0 w) (hf : ∀ id, s.next ≤ id → id < s'.next → φ id = none)
    (hx : ∀ x ∈ parts.toList, VR φ (evalO l x.2) (ρ x.2)) :
    Gives P w0 φ s.next s' v ((do pure (.value (← Instr.buildSlice t n (parts.map fun (i, x) => (i, ρ x)))) : Sem Next).run P w) := by
  unfold opBuildSlice buildSliceD typ at h
  split at h
  case h_2 => cases h
  rename_i elem ht
  split at h
  case h_2 => cases h
  rename_i size z hs hz
  split at h
  case isFalse => cases h
  rename_i hb
  simp only [Bool.and_eq_true, Nat.ble_eq] at hb
  split at h
  case h_2 => cases h
  rename_i cs hcs
  simp only [Option.some.injEq, Prod.mk.injEq] at h
  obtain ⟨rfl, rfl⟩ := h
  have hn : φ s.next = none := hf _ (Nat.le_refl _) (Nat.lt_succ_self _)
  obtain ⟨p1, p2⟩ := parts_ok (φ := φ) hx
  obtain ⟨ie, hie, rfl⟩ := szOf_info hs
  obtain ⟨r', e, q⟩ := fill_ok hcs p1 p2 (zero_row hz hie φ n)
  obtain ⟨ie', h1, h2, h3, h4⟩ := zeroOf_info hz
  rw [hie] at h1; cases h1
  have hcap : n < capU := by
    have := capU_big
    have : n ≤ n * ie.size := Nat.le_mul_of_pos_right _ hb.2
    omega
  refine gives_new (E := 2 * elem + 1) (e := elem) (f := fun a => .slice (some a) n n) (half1 elem) H hn q ?_ (.slice _ _ w.heap.size 0 _ _ _ (upd_same _ _ _) hcap)
  have hsmall : ¬ n * ie.size > 2 ^ 24 := by omega
  by_cases h0 : n * ie.size = 0
  · have hzero : (Array.range (n * ie.size)).map (z.cells[· % z.cells.size]!) = (#[] : Array Value) := by rw [h0]; simp
    rw [hzero] at e
    have e2 : ∀ zz : Array Value, (Array.range (n * ie.size)).map (zz[· % zz.size]!) = (#[] : Array Value) := by intro zz; rw [h0]; simp
    simp only [Instr.buildSlice, Sem.run_bind, run_underlying ht, Result.andThen_ok, szOf_run hs, Sem.run_ite, if_neg hsmall, if_pos h0, Sem.run_pure, e2, e, newRow, run_newObj]
  · simp only [Instr.buildSlice, Sem.run_bind, run_underlying ht, Result.andThen_ok, szOf_run hs, Sem.run_ite, if_neg hsmall, if_neg h0, Sem.run_pure, zeroOf_run hz, e, newRow, run_newObj]

theorem opMakeSlice_ok {t : TypeId} {n c : Operand} (h : opMakeSlice P t n c l s = some (v, s')) (H : HR φ s.h w0 w) (hf : ∀ id, s.next ≤ id → id < s'.next → φ id = none)
    (hn' : VR φ (evalO l n) (ρ n)) (hc' : VR φ (evalO l c) (ρ c)) :
    Gives P w0 φ s.next s' v ((do pure (.value (← Instr.makeSlice t (ρ n) (ρ c))) : Sem Next).run P w) := by
  unfold opMakeSlice makeSliceD typ at h
  split at h
  case h_2 => cases h
  rename_i elem k m ht hk hm
  split at h
  case h_2 => cases h
  rename_i ei hei
  split at h
  case h_2 => cases h
  rename_i z hz
  split at h
  case isFalse => cases h
  rename_i hb
  simp only [Bool.and_eq_true, Nat.ble_eq] at hb
  simp only [Option.some.injEq, Prod.mk.injEq] at h
  obtain ⟨rfl, rfl⟩ := h
  have hn : φ s.next = none := hf _ (Nat.le_refl _) (Nat.lt_succ_self _)
  obtain ⟨q1, e1⟩ := natOf_inv hk hn'
  obtain ⟨q2, e2⟩ := natOf_inv hm hc'
  have hcap : m < capU := by have := capU_big; omega
  refine gives_new (E := 2 * elem + 1) (e := elem) (f := fun a => .slice (some a) k m) (half1 elem) H hn (zero_row hz hei φ m) ?_ (.slice _ _ w.heap.size 0 _ _ _ (upd_same _ _ _) hcap)
  have w1 : IntKind.i64.wrap (k : Int) = (k : Int) := by unfold IntKind.wrap; simp [IntKind.signed, IntKind.bits]; omega
  have w2 : IntKind.i64.wrap (m : Int) = (m : Int) := by unfold IntKind.wrap; simp [IntKind.signed, IntKind.bits]; omega
  have hb2 : (ei.bytes : Int) * (m : Int) ≤ 1099511627776 := by
    have h := hb.2
    rw [Nat.mul_comm] at h
    have : ((ei.bytes * m : Nat) : Int) ≤ 1099511627776 := by omega
    simpa using this
  have c1 : ¬ ((m : Int) < 0 || (ei.bytes : Int) * (m : Int) > 2 ^ 48) = true := by simp; omega
  simp only [Instr.makeSlice, Sem.run_bind, run_underlying ht, Result.andThen_ok, e1, e2, asInt, asIntOf, Sem.run_pure, typeInfo, run_program, hei, w1, w2]
  have hsz : (sizeOf elem).run P w = .ok ei.size w := by simp [sizeOf, typeInfo, hei]
  rw [if_neg (by simp; omega)]
  simp only [Sem.run_bind, run_askRoom, Result.andThen_ok, hsz, Int.toNat_natCast, Sem.run_ite, Sem.run_pure, zeroOf_run hz, newRow, run_newObj]
  by_cases h0 : m * ei.size = 0
  · have e2 : ∀ f : Nat → Value, (Array.range 0).map f = #[] := by intro f; simp
    rw [if_pos h0, h0]; simp only [e2]
  · rw [if_neg h0]

theorem oneCell_of {φ : Ren} {v v' : Value} (h : one1 v = true) (k : VR φ v v') : v'.oneCell' = true := by
  cases k <;> first | rfl | (simp [one1, und] at h; done)
theorem oneL_of {φ : Ren} {ws ws' : List Value} (h : oneL ws = true) (k : VRL φ ws ws') : ∀ v ∈ ws', v.oneCell' = true := by
  induction ws generalizing ws' with
  | nil => rw [k.of_nil]; intro v hv; cases hv
  | cons x t ih =>
    obtain ⟨x', t', rfl, hx, ht⟩ := k.head
    simp only [oneL, Bool.and_eq_true] at h
    intro v hv
    cases hv with
    | head => exact oneCell_of h.1 hx
    | tail _ q => exact ih h.2 ht v q

/-- the cells behind a row of stores -/
theorem setCells_heap (b : Nat) (e : TypeId) (fz : Nat × Nat) : ∀ (vs : List Value) (o : Nat) (c : Array Value) (w : World), w.heap[b]? = some (.cells c e fz) → o + vs.length ≤ c.size →
    ∃ c', (w.setCells b o vs).heap[b]? = some (.cells c' e fz) ∧ c'.size = c.size ∧ (∀ i, c'.getD i und = if o ≤ i ∧ i < o + vs.length then vs.getD (i - o) und else c.getD i und) ∧
      (∀ k, k ≠ b → (w.setCells b o vs).heap[k]? = w.heap[k]?) ∧ (w.setCells b o vs).heap.size = w.heap.size ∧ (w.setCells b o vs).os = w.os ∧ (w.setCells b o vs).output = w.output ∧ (w.setCells b o vs).tape = w.tape
  | [], o, c, w, h, _ => ⟨c, h, rfl, fun i => by rw [if_neg (by simp only [List.length_nil]; omega)], fun _ _ => rfl, rfl, rfl, rfl, rfl⟩
  | v :: vs, o, c, w, h, hl => by
    simp only [List.length_cons] at hl
    have h1 : (w.setCell ⟨b, o, none⟩ v).heap[b]? = some (.cells (c.setIfInBounds o v) e fz) := by
      simp [World.setCell, Array.getElem?_modify, h]
    obtain ⟨c', q1, q2, q3, q4, q5, q6, q7, q8⟩ := setCells_heap b e fz vs (o + 1) _ _ h1 (by simp; omega)
    refine ⟨c', q1, by simpa using q2, fun i => ?_, fun k hk => ?_, ?_, q6, q7, q8⟩
    · rw [q3 i]
      by_cases p : o + 1 ≤ i ∧ i < o + 1 + vs.length
      · rw [if_pos p, if_pos (by simp only [List.length_cons]; omega), show i - o = i - (o + 1) + 1 by omega]; rfl
      · rw [if_neg p]
        by_cases p2 : i = o
        · subst p2
          rw [if_pos (by simp only [List.length_cons]; omega), Nat.sub_self]
          simp [Array.getD, show i < c.size by omega]
        · rw [if_neg (by simp only [List.length_cons]; omega)]
          simp [Array.getD_eq_getD_getElem?, Array.getElem?_setIfInBounds_ne (Ne.symm p2)]
    · exact (q4 k hk).trans (by simp [World.setCell, Array.getElem?_modify, Ne.symm hk])
    · exact q5.trans (by simp [World.setCell])

/-- a row of cells of one's own is written -/
theorem storeCells_ok {id off b sh sz : Nat} {cs cs' ws ws' : List Value} {e : TypeId} {c : Array Value} {fz : Nat × Nat} (H : HR φ s.h w0 w) (hg : s.h.get id = some (.cells cs e false)) (k : CellsAt φ w0 w id cs e false b sh sz c fz)
    (hp : lput cs off ws = some cs') (ho : oneL ws = true) (hw : VRL φ ws ws') :
    (storeCells ⟨b, sh + off, none⟩ ws').run P w = .ok () (w.setCells b (sh + off) ws') ∧ HR φ (s.write id (.cells cs' e false)).h w0 (w.setCells b (sh + off) ws') := by
  obtain ⟨_, hle⟩ := lput_some hp
  have hl := hw.1
  have hfit := k.fit
  have hsz := k.size
  obtain ⟨hmine, hfz⟩ := k.mine rfl
  refine ⟨?_, ?_⟩
  · have := run_storeCells_cells (P := P) b (sh + off) ws' 0 w (fun j hj => ?_) (fun j hj => ?_) (oneL_of ho hw)
    · simpa using this
    · rw [cell_at k.blk _ (by omega)]; rfl
    · simp only [World.frozen?, k.blk]
      have := hfz (sh + off + 0 + j) (by omega)
      simpa using this
  · obtain ⟨c', q1, q2, q3, q4, q5, q6, q7, q8⟩ := setCells_heap b (e / 2) fz ws' (sh + off) c w k.blk (by omega)
    refine H.turn hg k.at_ q6 q7 q8 q5 q4 hmine q1 k.exact_ (q2.trans hsz) (by rw [lput_length hp]; exact hfit) (fun i hi => ?_) (fun _ => hfz)
    rw [lput_length hp] at hi
    rw [lput_getD hp, q3]
    by_cases p : off ≤ i ∧ i < off + ws.length
    · rw [if_pos p, if_pos (by omega), show sh + i - (sh + off) = i - off by omega]; exact hw.2 _
    · rw [if_neg p, if_neg (by omega)]; exact k.cell i hi

theorem opStore_ok {t : TypeId} {a x : Operand} (h : opStore P t a x l s = some (v, s')) (H : HR φ s.h w0 w) (ha : VR φ (evalO l a) (ρ a)) (hx : VR φ (evalO l x) (ρ x)) :
    Gives P w0 φ lo s' v ((do Instr.storeAt t (ρ a) (ρ x); pure .skip : Sem Next).run P w) := by
  unfold opStore at h
  split at h
  case h_2 => cases h
  rename_i s1 hs1
  simp only [Option.some.injEq, Prod.mk.injEq] at h
  obtain ⟨rfl, rfl⟩ := h
  unfold storeD at hs1
  split at hs1
  case h_2 => cases hs1
  rename_i id off hv
  split at hs1
  case h_2 => cases hs1
  rename_i cs e hg
  split at hs1
  case h_2 => cases hs1
  rename_i n hn
  simp only at hs1
  split at hs1
  case isFalse => cases hs1
  rename_i hc
  simp only [Bool.and_eq_true] at hc
  split at hs1
  case h_2 => cases hs1
  rename_i cs' hp
  simp only [Option.some.injEq] at hs1
  subst hs1
  rw [hv] at ha
  obtain ⟨b, sh, sz, e1, hpt⟩ := ptr_inv ha
  obtain ⟨b', sh', sz', c, fz, k⟩ := H.cells _ _ _ _ hg
  have := k.at_; rw [e1] at this; cases this
  have hne : evalO l x ≠ und := by
    intro q
    rw [q] at hc
    simp [cellsOfV, und, oneL, one1] at hc
  have hw := VRL.of_cells hx hne
  obtain ⟨q1, q2⟩ := storeCells_ok (P := P) H hg k hp hc.2 hw
  have hlen : (ρ x).cells.size = n := by have := hw.1; have := Nat.eq_of_beq_eq_true hc.1; simp at *; omega
  have hrun : (Instr.storeAt t (ρ a) (ρ x)).run P w = .ok () (w.setCells b (sh + off) (ρ x).cells.toList) := by
    simp only [Instr.storeAt, hpt, Instr.sureAddr, Sem.run_bind, Sem.run_pure, Result.andThen_ok, storeVar, szOf_run hn, Sem.run_ite, hlen, ne_eq, not_true_eq_false, if_false, q1]
  rw [Sem.run_bind, hrun]
  exact ⟨φ, Ext.refl _ _ _, .any _, q2⟩

end
end Go.Det
