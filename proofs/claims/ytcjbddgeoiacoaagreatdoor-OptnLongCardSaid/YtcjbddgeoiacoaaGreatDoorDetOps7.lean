/- A part of an evaluator of closed runs and of its soundness. -/
import Derived.Test.YtcjbddgeoiacoaaGreatDoorDetOps6
namespace Go.Det
variable {P : Program}
section
variable {w0 w : World} {φ : Ren} {l : Tmps} {s s' : St} {v : Value} {ρ : Operand → Value} {lo : Nat}

/-- what the machine's append does with such arguments -/
structure AppRun (P : Program) (argTypes : Array TypeId) (type elem : TypeId) (size bytes : Nat) (φ : Ren) (n m : Nat) (ws : List Value) (x' : Value) (w : World) : Prop where
  len : ws.length = m * size
  inn : ∀ (base : Option Addr) (c : Nat), n + m ≤ c → ∃ new : Array Value, VRL φ ws new.toList ∧
    (Builtin.append_ argTypes type #[.slice base n c, x']).run P w =
      (match base with | some a => (storeCells (a.add (n * size)) new.toList).run P w | none => .ok () w).andThen fun _ w' => .ok (.slice base (n + m) c) w'
  new : ∀ (base : Option Addr) (c : Nat) (z : Value) (old : Array Value), ¬ n + m ≤ c → ¬ ((n + m : Nat) : Int) > IntKind.i64.max → ¬ Builtin.nextslicecap (n + m) c * bytes > 2 ^ 48 → (∀ w, (zeroValue elem).run P w = .ok z w) →
    (Builtin.firstCells size n (.slice base n c)).run P { w with drawn := w.drawn + 1 } = .ok old { w with drawn := w.drawn + 1 } →
    ∃ (k : Nat) (new : Array Value), n + m ≤ k ∧ VRL φ ws new.toList ∧ (Builtin.append_ argTypes type #[.slice base n c, x']).run P w =
      .ok (.slice (some ⟨w.heap.size, 0, none⟩) (n + m) k) { w with drawn := w.drawn + 1, heap := w.heap.push (.cells (old ++ new ++ Builtin.zeroCells z.cells (k - (n + m))) elem) }

theorem appZeros_no {argTypes : Array TypeId} {sT : TypeId} {rest : List TypeId} (ha : argTypes.toList = sT :: rest) (h : appZeros P rest = some false) : NoZeros P argTypes := by
  unfold appZeros typ at h
  cases rest with
  | nil => left; rw [← Array.getElem?_toList, ha]; rfl
  | cons xT t =>
    right
    simp only at h
    split at h
    · cases h
    · rename_i d hd hn
      exact ⟨xT, d, by rw [← Array.getElem?_toList, ha]; rfl, by assumption, fun k q => hd k (by rw [← q])⟩
    · cases h
theorem appZeros_yes {argTypes : Array TypeId} {sT : TypeId} {rest : List TypeId} (ha : argTypes.toList = sT :: rest) (h : appZeros P rest = some true) : ∃ xT k, argTypes[1]? = some xT ∧ P.underlying xT = some (.int k) := by
  unfold appZeros typ at h
  cases rest with
  | nil => cases h
  | cons xT t =>
    simp only at h
    split at h
    · rename_i k hk; exact ⟨xT, k, by rw [← Array.getElem?_toList, ha]; rfl, hk⟩
    · cases h
    · cases h

theorem appSrc_ok {argTypes : Array TypeId} {type sT elem : TypeId} {rest : List TypeId} {ei : TypeInfo} {zeros : Bool} {n : Nat} {x x' : Value} {r : Nat × List Value × St}
    (ha : argTypes.toList = sT :: rest) (hu : P.underlying sT = some (.slice elem)) (hei : P.info? elem = some ei) (hz : appZeros P rest = some zeros)
    (h : appSrc P s elem ei.size ei.bytes zeros x = some r) (H : HR φ s.h w0 w) (hx : VR φ x x') :
    AppRun P argTypes type elem ei.size ei.bytes φ n r.1 r.2.1 x' w ∧ r.2.2.h = s.h ∧ r.2.2.next = s.next := by
  have h0 : argTypes[0]? = some sT := by rw [← Array.getElem?_toList, ha]; rfl
  unfold appSrc at h
  split at h
  · -- zero values
    obtain ⟨xT, k, h1, h2⟩ := appZeros_yes ha hz
    split at h
    case h_2 => cases h
    rename_i q m
    split at h
    case isFalse => cases h
    rename_i hm
    split at h
    case h_2 => cases h
    rename_i z hzz
    split at h
    case isFalse => cases h
    rename_i hb
    cases h
    have hb : m.toNat * ei.bytes ≤ 1099511627776 := by simpa using hb
    have hm1 : m.toNat < 1048576 := by omega
    have hm2 : ((m.toNat : Nat) : Int) = m := by omega
    have hx : x' = .int q (m.toNat : Int) := by rw [int_inv hx, hm2]
    subst hx
    obtain ⟨ie, e1, e2, e3, e4⟩ := zeroOf_info hzz
    rw [hei] at e1; cases e1
    have hlen : z.cells.size = ei.size := by have := (zero_cells hzz φ).1; simp at this; omega
    have hrel : VRL φ (repeatL (cellsOfV z) m.toNat) (if m.toNat * ei.size = 0 then (#[] : Array Value) else Builtin.zeroCells z.cells m.toNat).toList := by
      by_cases q0 : m.toNat * ei.size = 0
      · rw [if_pos q0]
        have : repeatL (cellsOfV z) m.toNat = [] := List.eq_nil_of_length_eq_zero (by rw [repeatL_length, e3, q0])
        rw [this]; exact VRL.nil φ
      · rw [if_neg q0]
        have := zero_row hzz hei φ m.toNat
        unfold Builtin.zeroCells
        rw [hlen]
        rw [hlen] at this
        exact this
    refine ⟨⟨by rw [repeatL_length, e3], fun base c hle => ⟨_, hrel, append_in_runZ h0 hu hei h1 h2 hm1 hb (zeroOf_run hzz) hle⟩, fun base c z' old hle hmax hbig hz' ho => ?_⟩, rfl, rfl⟩
    obtain ⟨k', q1, q2⟩ := append_new_runZ (type := type) h0 hu hei h1 h2 hm1 hb hz' hle hmax hbig ho
    have : z' = z := by have a := hz' w; rw [zeroOf_run hzz w] at a; cases a; rfl
    subst this
    exact ⟨k', _, q1, hrel, q2⟩
  · -- what is there
    have hno := appZeros_no ha hz
    split at h
    case h_2 => cases h
    rename_i m hm
    split at h
    case h_2 => cases h
    rename_i r' hr
    cases h
    obtain ⟨cs', q1, q2, q3, q4, q5⟩ := srcCells_ok (P := P) hr H hx
    refine ⟨⟨q5, fun base c hle => ⟨cs', q2, append_in_run h0 hu hei hno (lenD_run hm hx w) q1 hle⟩, fun base c z old hle hmax hbig hz' ho => ?_⟩, q3, q4⟩
    obtain ⟨cs2, p1, p2, _⟩ := srcCells_ok (P := P) hr (H.drawn (w.drawn + 1)) hx
    obtain ⟨k', e1, e2⟩ := append_new_run (type := type) h0 hu hei hno (lenD_run hm hx w) hle hmax hbig p1 ho hz'
    exact ⟨k', cs2, e1, p2, e2⟩

theorem max_big : ¬ ((1099511627776 : Nat) : Int) > IntKind.i64.max := by simp [IntKind.max, IntKind.signed, IntKind.bits]

/-- a new row of old and new cells -/
theorem app_new {elem : TypeId} {size k n m : Nat} {old ws : List Value} {old' new : Array Value} {z : Value} {ei : TypeInfo} (hzz : zeroOf P elem = some z) (hei : P.info? elem = some ei) (hsz : ei.size = size)
    (hold : VRL φ old old'.toList) (hnew : VRL φ ws new.toList) (hl1 : old.length = n * size) (hl2 : ws.length = m * size) (hk : n + m ≤ k) (hpos : 0 < size)
    (H : HR φ s.h w0 w) (hn : φ s.next = none) :
    ∃ φ', Ext φ φ' s.next (s.next + 1) ∧ VR φ' (.slice (some ⟨s.next, 0, none⟩) (n + m) (capU + size)) (.slice (some ⟨w.heap.size, 0, none⟩) (n + m) k) ∧
      HR φ' (s.h.set s.next (.cells (old ++ ws) (2 * elem) false)) w0 { w with drawn := w.drawn + 1, heap := w.heap.push (.cells (old' ++ new ++ Builtin.zeroCells z.cells (k - (n + m))) elem) } := by
  obtain ⟨ie, e1, e2, e3, e4⟩ := zeroOf_info hzz
  rw [hei] at e1; cases e1
  have hzl : z.cells.size = size := by have := (zero_cells hzz φ).1; simp at this; omega
  have ho := hold.1
  have hw := hnew.1
  simp only [Array.length_toList] at ho hw
  have hsize : (old' ++ new ++ Builtin.zeroCells z.cells (k - (n + m))).size = k * size := by
    simp only [Array.size_append, Builtin.zeroCells, Array.size_map, Array.size_range, hzl]
    have : k * size = n * size + m * size + (k - (n + m)) * size := by rw [← Nat.add_mul, ← Nat.add_mul]; congr 1; omega
    omega
  have hap := hold.append hnew
  have hfit : (old ++ ws).length ≤ k * size := by
    rw [List.length_append, hl1, hl2, ← Nat.add_mul]; exact Nat.mul_le_mul_right _ hk
  refine ⟨_, Ext.upd hn (w.heap.size, 0, k * size), ?_, ?_⟩
  · exact .sliceU s.next 0 w.heap.size 0 (k * size) (n + m) k size (upd_same _ _ _) hpos (by omega) hk
  · refine HR.adopt (H.drawn (w.drawn + 1)) (c := old' ++ new ++ Builtin.zeroCells z.cells (k - (n + m))) (fz := (0, 0)) hn rfl rfl rfl (by simp) (fun j hj _ => ?_) H.size ?_ (fun _ => rfl) (fun j cj ej rj bj sj zj g a => ?_) hsize (by omega) (fun i hi => ?_) (fun _ o _ => by simp) (fun O q => by rw [Array.getElem?_eq_none (show w.heap.size ≤ w.heap.size from Nat.le_refl _)] at q; cases q)
    · show (w.heap.push _)[j]? = w.heap[j]?
      rw [Array.getElem?_push, if_neg (by have : j < w.heap.size := hj; omega)]
    · show (w.heap.push _)[w.heap.size]? = _
      rw [Array.getElem?_push, if_pos rfl, half0]
    · have := H.dom _ _ _ _ a; omega
    · have := hap.2 i
      rw [Nat.zero_add]
      have e : (old' ++ new ++ Builtin.zeroCells z.cells (k - (n + m))).getD i und = (old'.toList ++ new.toList).getD i und := by
        have hi2 : i < (old'.toList ++ new.toList).length := by rw [← hap.1]; exact hi
        rw [Array.getD_eq_getD_getElem?, List.getD_eq_getElem?_getD, ← Array.getElem?_toList, Array.toList_append, Array.toList_append, List.getElem?_append_left hi2]
      rw [e]; exact this

theorem firstCells_nil {size c : Nat} (w : World) : (Builtin.firstCells size 0 (.slice none 0 c)).run P w = .ok #[] w := rfl

theorem gives_of {w' : World} {v' : Value} {φ' : Ren} {m : Sem Value} (hr : m.run P w = .ok v' w') (he : Ext φ φ' lo s'.next) (hv : VR φ' v v') (H' : HR φ' s'.h w0 w') :
    Gives P w0 φ lo s' v ((do pure (Next.value (← m)) : Sem Next).run P w) := by
  rw [Sem.run_bind, hr]
  exact ⟨φ', he, hv, H'⟩

/-- the first cells of a slice that stands in memory -/
theorem first_ok {id off b sh sz n c' size : Nat} {cs old : List Value} {e : TypeId} {ro : Bool} (H : HR φ s.h w0 w) (hg : s.h.get id = some (.cells cs e ro)) (hat : φ id = some (b, sh, sz))
    (h : ltake (n * size) (ldrop off cs) = some old) : ∃ old' : Array Value, (Builtin.firstCells size n (.slice (some ⟨b, sh + off, none⟩) n c')).run P w = .ok old' w ∧ VRL φ old old'.toList ∧ old.length = n * size := by
  rw [ldrop_eq] at h
  obtain ⟨rfl, hle⟩ := ltake_some h
  by_cases h0 : n * size = 0
  · refine ⟨#[], ?_, ?_, ?_⟩
    · simp [Builtin.firstCells, h0, loadCells, loadCellsFrom]
    · rw [h0]; exact VRL.nil φ
    · rw [h0]; rfl
  · obtain ⟨b', sh', sz', c2, fz, k⟩ := H.cells _ _ _ _ hg
    have := k.at_; rw [hat] at this; cases this
    obtain ⟨cs', q1, q2⟩ := loadCells_run (P := P) (n := n * size) (off := off) k (by simp at hle; omega)
    exact ⟨cs', q1, q2, by simp at hle ⊢; omega⟩

theorem appInPlace_ok {argTypes : Array TypeId} {type elem : TypeId} {id off b sh sz n m c c' size bytes : Nat} {cs ws : List Value} {e : TypeId} {x' : Value} {r : Value × St}
    (h : appInPlace s id off (off + n * size) (n + m) c cs e ws = some r) (H : HR φ s.h w0 w) (hg : s.h.get id = some (.cells cs e false)) (hat : φ id = some (b, sh, sz))
    (ha : AppRun P argTypes type elem size bytes φ n m ws x' w) (ho : oneL ws = true) (hle : n + m ≤ c')
    (hv : VR φ (.slice (some ⟨id, off, none⟩) (n + m) c) (.slice (some ⟨b, sh + off, none⟩) (n + m) c')) :
    Gives P w0 φ lo r.2 r.1 ((do pure (Next.value (← Builtin.append_ argTypes type #[.slice (some ⟨b, sh + off, none⟩) n c', x'])) : Sem Next).run P w) ∧ r.2.next = s.next := by
  unfold appInPlace at h
  split at h
  case h_2 => cases h
  rename_i cs' hp
  cases h
  obtain ⟨b', sh', sz', c2, fz, k⟩ := H.cells _ _ _ _ hg
  have := k.at_; rw [hat] at this; cases this
  obtain ⟨new, q1, q2⟩ := ha.inn (some ⟨b, sh + off, none⟩) c' hle
  obtain ⟨p1, p2⟩ := storeCells_ok (P := P) H hg k hp ho q1
  refine ⟨gives_of (w' := w.setCells b (sh + (off + n * size)) new.toList) (v' := .slice (some ⟨b, sh + off, none⟩) (n + m) c') ?_ (Ext.refl _ _ _) hv p2, rfl⟩
  rw [q2]
  show Result.andThen ((storeCells ((⟨b, sh + off, none⟩ : Addr).add (n * size)) new.toList).run P w) _ = _
  rw [addr_add, Nat.add_assoc, p1]; rfl

theorem appTo_ok {argTypes : Array TypeId} {type elem : TypeId} {size bytes n m c : Nat} {ws : List Value} {base : Option Addr} {S x' z : Value} {ei : TypeInfo} {r : Value × St}
    (h : appTo s elem size base n c m ws = some r) (H : HR φ s.h w0 w) (hx : VR φ (.slice base n c) S) (hm0 : m ≠ 0) (hpos : 0 < size)
    (ha : AppRun P argTypes type elem size bytes φ n m ws x' w) (ho : oneL ws = true) (hbytes : (n + m) * bytes ≤ 1099511627776) (hmax : n + m ≤ 1099511627776)
    (hzz : zeroOf P elem = some z) (hei : P.info? elem = some ei) (hsz : ei.size = size) (hf : ∀ id, s.next ≤ id → id < r.2.next → φ id = none) :
    Gives P w0 φ s.next r.2 r.1 ((do pure (Next.value (← Builtin.append_ argTypes type #[S, x'])) : Sem Next).run P w) ∧ s.next ≤ r.2.next := by
  have hmax' : ¬ ((n + m : Nat) : Int) > IntKind.i64.max := by have := max_big; omega
  have hbig : ∀ {c' : Nat}, ¬ n + m ≤ c' → ¬ Builtin.nextslicecap (n + m) c' * bytes > 2 ^ 48 := by
    intro c' hc
    have h1 := nextslicecap_le (need := n + m) (c := c') (by omega)
    have h2 : Builtin.nextslicecap (n + m) c' * bytes ≤ (2 * (n + m) + 192) * bytes := Nat.mul_le_mul_right _ h1
    have h3 : (2 * (n + m) + 192) * bytes = 2 * ((n + m) * bytes) + 192 * bytes := by rw [Nat.add_mul, Nat.mul_assoc]
    have h4 : bytes ≤ (n + m) * bytes := Nat.le_mul_of_pos_left _ (by omega)
    omega
  unfold appTo at h
  split at h
  · -- nil
    split at h
    case isFalse => cases h
    rename_i hc
    simp only [Bool.and_eq_true] at hc
    obtain rfl := Nat.eq_of_beq_eq_true hc.1
    obtain rfl := Nat.eq_of_beq_eq_true hc.2
    cases h
    rw [snil_inv hx]
    have hn : φ s.next = none := hf _ (Nat.le_refl _) (Nat.lt_succ_self _)
    have hle : ¬ 0 + m ≤ 0 := by omega
    obtain ⟨k, new, p1, p2, p3⟩ := ha.new none 0 z #[] hle hmax' (hbig hle) (zeroOf_run hzz) (firstCells_nil _)
    obtain ⟨φ', e1, e2, e3⟩ := app_new (n := 0) (m := m) (old := []) (old' := #[]) hzz hei hsz (VRL.nil φ) p2 (by simp) ha.len p1 hpos H hn
    have e4 : VR φ' (appNew s elem size m [] ws).1 (.slice (some ⟨w.heap.size, 0, none⟩) (0 + m) k) := by
      rw [Nat.zero_add] at e2 ⊢; exact e2
    exact ⟨gives_of p3 e1 e4 e3, Nat.le_succ _⟩
  · rename_i id off
    split at h
    case h_2 => cases h
    rename_i cs e ro hg
    rcases slice_inv hx with ⟨hc, a', rfl, h2⟩ | ⟨id', off', b, sh, sz, es, c', e1, rfl, hat, p, q, r', rfl⟩
    · -- the end is known
      rcases h2 with ⟨q, _⟩ | ⟨id', off', b, sh, sz, q, hat, rfl⟩
      · cases q
      cases q
      rw [if_neg (by simp; exact hc)] at h
      split at h
      · rename_i hle
        have hle : n + m ≤ c := by simpa using hle
        split at h
        case isFalse => cases h
        rename_i hro
        have hro : ro = false := by simpa using hro
        subst hro
        obtain ⟨g, hn'⟩ := appInPlace_ok (P := P) (lo := s.next) h H hg hat ha ho hle (.slice _ _ _ _ _ _ _ hat hc)
        exact ⟨g, by omega⟩
      · rename_i hle
        have hle : ¬ n + m ≤ c := by simpa using hle
        split at h
        case h_2 => cases h
        rename_i old hold
        cases h
        have hn : φ s.next = none := hf _ (Nat.le_refl _) (Nat.lt_succ_self _)
        obtain ⟨old', o1, o2, o3⟩ := first_ok (P := P) (c' := c) (H.drawn (w.drawn + 1)) hg hat hold
        obtain ⟨k, new, p1, p2, p3⟩ := ha.new _ c z old' hle hmax' (hbig hle) (zeroOf_run hzz) o1
        obtain ⟨φ', e1, e2, e3⟩ := app_new (n := n) (m := m) hzz hei hsz o2 p2 o3 ha.len p1 hpos H hn
        exact ⟨gives_of p3 e1 e2 e3, Nat.le_succ _⟩
    · -- the end is not known
      cases e1
      rw [if_pos (by simp)] at h
      split at h
      case isFalse => cases h
      rename_i hcc
      simp only [Bool.and_eq_true, Bool.not_eq_true'] at hcc
      have : es = size := by have := Nat.eq_of_beq_eq_true hcc.1; omega
      subst this
      obtain ⟨hcc1, rfl, hee⟩ := hcc
      have hee := Nat.eq_of_beq_eq_true hee
      subst hee
      obtain ⟨b', sh', sz', c2, fz, k⟩ := H.cells _ _ _ _ hg
      have := k.at_; rw [hat] at this; cases this
      have hfit := k.fit
      split at h
      · rename_i hin
        have hin : off + (n + m) * es ≤ cs.length := by simpa using hin
        have hle : n + m ≤ c' := by
          have : (n + m) * es ≤ c' * es := by omega
          exact Nat.le_of_mul_le_mul_right this hpos
        obtain ⟨g, hn'⟩ := appInPlace_ok (P := P) (lo := s.next) h H hg hat ha ho hle (.sliceU _ _ _ _ _ _ _ _ hat hpos q hle)
        exact ⟨g, by omega⟩
      · split at h
        case h_2 => cases h
        rename_i old hold
        cases h
        have hn : φ s.next = none := hf _ (Nat.le_refl _) (Nat.lt_succ_self _)
        have Hk := H.kill id
        have hne : ∀ j cj ej rj bj sj zj, (s.h.set id .dead).get j = some (.cells cj ej rj) → φ j = some (bj, sj, zj) → bj ≠ b := by
          intro j cj ej rj bj sj zj g a
          rw [Heap.get_set] at g
          by_cases q : j = id
          · rw [if_pos q] at g; cases g
          · rw [if_neg q] at g; exact Ne.symm (H.inj _ _ _ _ _ _ _ _ _ _ _ _ _ (Ne.symm q) hg g hat a)
        by_cases hle : n + m ≤ c'
        · -- there is room
          obtain ⟨new, q1, q2⟩ := ha.inn (some ⟨b, sh + off, none⟩) c' hle
          have hnl : new.toList.length = m * es := by rw [← q1.1]; exact ha.len
          have hroom : sh + off + n * es + m * es ≤ sz := by
            have : (n + m) * es ≤ c' * es := Nat.mul_le_mul_right _ hle
            rw [Nat.add_mul] at this; omega
          obtain ⟨hmine, hfz⟩ := k.mine rfl
          have hsz2 := k.size
          have hst := run_storeCells_cells (P := P) b (sh + off + n * es) new.toList 0 w (fun j hj => by rw [cell_at k.blk _ (by omega)]; rfl)
            (fun j hj => by simp only [World.frozen?, k.blk]; have := hfz (sh + off + n * es + 0 + j) (by omega); simpa using this) (oneL_of ho q1)
          obtain ⟨c3, s1, s2, s3, s4, s5, s6, s7, s8⟩ := setCells_heap b _ fz new.toList (sh + off + n * es) c2 w k.blk (by omega)
          rw [ldrop_eq] at hold
          obtain ⟨rfl, hol⟩ := ltake_some hold
          have hol1 : ((cs.drop off).take (n * es)).length = n * es := by rw [List.length_take]; omega
          have HA := HR.adopt (e := 2 * elem) (n := s.next) (sh := sh + off) (cs := (cs.drop off).take (n * es) ++ ws) (ro := false) Hk hn s6 s7 s8 (by rw [s5]; exact Nat.le_refl _) (fun j hj hjb => s4 j hjb) hmine s1 (fun q => absurd q (even0 elem)) hne (s2.trans hsz2)
            (by rw [List.length_append, hol1, ha.len]; omega) (fun i hi => by
              rw [s3]
              by_cases pi : i < n * es
              · rw [if_neg (by omega), List.getD_eq_getElem?_getD, List.getElem?_append_left (by omega), List.getElem?_take_of_lt pi, List.getElem?_drop, ← List.getD_eq_getElem?_getD]
                have hlt : off + i < cs.length := by simp only [List.length_drop] at hol; omega
                have := k.cell (off + i) hlt
                rw [← Nat.add_assoc] at this; exact this
              · rw [List.length_append, hol1, ha.len] at hi
                rw [if_pos (by omega), List.getD_eq_getElem?_getD, List.getElem?_append_right (by omega), ← List.getD_eq_getElem?_getD, hol1, show sh + off + i - (sh + off + n * es) = i - n * es by omega]
                exact q1.2 _) (fun _ => hfz) (fun O q => by rw [show w.heap[b]? = _ from k.blk] at q; cases q; exact ⟨_, _, _, rfl⟩)
          refine ⟨gives_of (w' := w.setCells b (sh + off + n * es) new.toList) (v' := .slice (some ⟨b, sh + off, none⟩) (n + m) c') ?_ (Ext.upd hn _) ?_ HA, Nat.le_succ _⟩
          · rw [q2]
            simp only [addr_add]
            simp only [Nat.add_zero] at hst
            rw [hst]; rfl
          · have := VR.sliceU (φ := upd φ s.next (b, sh + off, sz)) s.next 0 b (sh + off) sz (n + m) c' es (upd_same _ _ _) hpos (by omega) hle
            rw [Nat.add_zero] at this; exact this
        · obtain ⟨old', o1, o2, o3⟩ := first_ok (P := P) (c' := c') (H.drawn (w.drawn + 1)) hg hat hold
          obtain ⟨k2, new, p1, p2, p3⟩ := ha.new _ c' z old' hle hmax' (hbig hle) (zeroOf_run hzz) o1
          obtain ⟨φ', e1, e2, e3⟩ := app_new (s := s.write id .dead) (n := n) (m := m) hzz hei hsz o2 p2 o3 ha.len p1 hpos Hk hn
          exact ⟨gives_of p3 e1 e2 e3, Nat.le_succ _⟩
  · cases h

end
end Go.Det
