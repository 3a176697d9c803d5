/- A part of an evaluator of closed runs and of its soundness. -/
import Derived.Test.YtcjbddgeoiacoaaGreatDoorDetFoot
namespace Go.Det
variable {P : Program}

theorem rd_self {m id : Nat} : bit (Nat.lor m (Nat.shiftLeft 1 id)) id := bit_or.2 (.inr (bit_one.2 rfl))

theorem loadD_tr (t : TypeId) (a : Value) : Tr (fun s => loadD P s t a) := by
  intro s v s' h
  simp only at h
  unfold loadD at h
  split at h
  case h_2 => cases h
  rename_i id off
  split at h
  case h_2 => cases h
  rename_i cs e ro hg
  split at h
  · rename_i hb
    split at h
    case h_2 => cases h
    rename_i n hn
    split at h
    case h_2 => cases h
    rename_i r hr
    cases h
    refine ⟨G1.read hg, fun u _ hbe hag _ => ⟨u.read id, ?_, PW.read hbe id⟩⟩
    have e1 : u.h.get id = some (.cells cs e ro) := (hag id rd_self).trans hg
    simp only [loadD, e1, hb, hn, hr]
  · rename_i hb
    split at h
    case h_2 => cases h
    rename_i v1 t1 hd
    cases h
    refine ⟨G1.read hg, fun u _ hbe hag _ => ⟨u.read id, ?_, PW.read hbe id⟩⟩
    have e1 : u.h.get id = some (.cells cs e ro) := (hag id rd_self).trans hg
    simp only [loadD, e1, hb, hd]
  · cases h

theorem opLoad_tr (t : TypeId) (a : Operand) (l : Tmps) : Tr (opLoad P t a l) := loadD_tr t _

theorem opStore_tr (t : TypeId) (a x : Operand) (l : Tmps) : Tr (opStore P t a x l) := by
  intro s v s' h
  unfold opStore at h
  split at h
  case h_2 => cases h
  rename_i s1 hs1
  cases h
  unfold storeD at hs1
  split at hs1
  case h_2 => cases hs1
  rename_i id off hv
  split at hs1
  case h_2 => cases hs1
  rename_i cs e hg
  split at hs1
  case h_2 => cases hs1
  rename_i n hn
  simp only at hs1
  split at hs1
  case isFalse => cases hs1
  rename_i hc
  split at hs1
  case h_2 => cases hs1
  rename_i cs' hp
  cases hs1
  refine ⟨G1.write hg, fun u _ hbe hag _ => ⟨u.write id (.cells cs' e false), ?_, PW.write hbe id _⟩⟩
  have e1 : u.h.get id = some (.cells cs e false) := (hag id rd_self).trans hg
  simp only [opStore, storeD, hv, e1, hn, hc, if_true, hp]

theorem srcCells_tr (size n : Nat) (x : Value) : Tr (fun s => srcCells s size n x) := by
  intro s v s' h
  simp only at h
  unfold srcCells at h
  split at h
  · rename_i id off n' c
    split at h
    · rename_i h0
      cases h
      exact ⟨G1.refl _, fun u _ hbe _ _ => ⟨u, by simp only [srcCells, h0, if_true], PW.refl hbe⟩⟩
    · rename_i h0
      split at h
      case h_2 => cases h
      rename_i cs e' ro hg
      split at h
      case h_2 => cases h
      rename_i r' hr
      cases h
      refine ⟨G1.read hg, fun u _ hbe hag _ => ⟨u.read id, ?_, PW.read hbe id⟩⟩
      have e1 : u.h.get id = some (.cells cs e' ro) := (hag id rd_self).trans hg
      simp only [srcCells, h0, e1, hr]; rfl
  · split at h
    case isFalse => cases h
    rename_i h0
    cases h
    exact ⟨G1.refl _, fun u _ hbe _ _ => ⟨u, by simp only [srcCells, h0, if_true], PW.refl hbe⟩⟩
  · split at h
    case isFalse => cases h
    rename_i h0
    cases h
    exact ⟨G1.refl _, fun u _ hbe _ _ => ⟨u, by simp only [srcCells, h0, if_true], PW.refl hbe⟩⟩
  · split at h
    case isFalse => cases h
    rename_i h0
    split at h
    case h_2 => cases h
    rename_i r hr
    cases h
    exact ⟨G1.refl _, fun u _ hbe _ _ => ⟨u, by simp only [srcCells, h0, if_true, hr], PW.refl hbe⟩⟩
  · cases h

/-- the value, and a block of one's own -/
theorem new_tr {α : Type} {f : St → Option (α × St)} (c : Option (Blk × (Nat → α))) (hf : ∀ s, f s = match c with | some x => some (x.2 s.next, s.new x.1) | none => none) : Tr f := by
  intro s v s' h
  rw [hf] at h
  cases c with
  | none => cases h
  | some x =>
    cases h
    refine ⟨G1.new _ _, fun u _ hbe _ _ => ⟨u.new x.1, ?_, PW.new hbe _⟩⟩
    rw [hf, hbe.next]

theorem pure_tr {α : Type} {f : St → Option (α × St)} (c : Option α) (hf : ∀ s, f s = match c with | some x => some (x, s) | none => none) : Tr f := by
  intro s v s' h
  rw [hf] at h
  cases c with
  | none => cases h
  | some x => cases h; exact ⟨G1.refl _, fun u _ hbe _ _ => ⟨u, by rw [hf], PW.refl hbe⟩⟩

theorem opMove_tr (x : Operand) (l : Tmps) : Tr (opMove x l) := pure_tr (some (evalO l x)) fun _ => rfl
theorem ofV_tr (c : Option Value) : Tr (ofV c) := pure_tr c fun s => by cases c <;> rfl
theorem opPick_tr (c a b : Operand) (l : Tmps) : Tr (opPick c a b l) := by
  cases h : evalO l c with
  | bool t => exact pure_tr (some (if t then evalO l a else evalO l b)) fun s => by cases t <;> simp [opPick, h]
  | _ => exact pure_tr none fun s => by simp [opPick, h]
theorem opAlloc_tr (e : TypeId) (l : Tmps) : Tr (opAlloc P e l) :=
  new_tr (match zeroOf P e with | some z => some (.cells (cellsOfV z) (2 * e + 1) false, fun n => .pointer (some ⟨n, 0, none⟩)) | none => none) fun s => by
    unfold opAlloc; cases zeroOf P e <;> rfl
theorem opBox_tr (e : TypeId) (x : Operand) (l : Tmps) : Tr (opBox e x l) :=
  new_tr (if !isUnd (evalO l x) then some (.cells (cellsOfV (evalO l x)) (2 * e + 1) false, fun n => .pointer (some ⟨n, 0, none⟩)) else none) fun s => by
    unfold opBox; split <;> rfl
theorem opBuildSlice_tr (t : TypeId) (n : Nat) (parts : Array (Nat × Operand)) (l : Tmps) : Tr (opBuildSlice P t n parts l) := by
  intro s v s' h
  unfold opBuildSlice buildSliceD at h
  split at h
  case h_2 => cases h
  rename_i elem ht
  split at h
  case h_2 => cases h
  rename_i size z hs hz
  split at h
  case isFalse => cases h
  rename_i hb
  split at h
  case h_2 => cases h
  rename_i cs hcs
  cases h
  refine ⟨G1.new _ _, fun u _ hbe _ _ => ⟨u.new _, ?_, PW.new hbe _⟩⟩
  simp only [opBuildSlice, buildSliceD, ht, hs, hz, hb, if_true, hcs, hbe.next]
theorem opMakeSlice_tr (t : TypeId) (n c : Operand) (l : Tmps) : Tr (opMakeSlice P t n c l) := by
  intro s v s' h
  unfold opMakeSlice makeSliceD at h
  split at h
  case h_2 => cases h
  rename_i elem k m ht hk hm
  split at h
  case h_2 => cases h
  rename_i ei hei
  split at h
  case h_2 => cases h
  rename_i z hz
  split at h
  case isFalse => cases h
  rename_i hb
  cases h
  refine ⟨G1.new _ _, fun u _ hbe _ _ => ⟨u.new _, ?_, PW.new hbe _⟩⟩
  simp only [opMakeSlice, makeSliceD, ht, hk, hm, hei, hz, hb, if_true, hbe.next]


theorem opStr_tr {α : Type} {f : St → Option (α × St)} (id : Nat) (k : Blk → St → Option (α × St)) (hf : ∀ s, f s = match s.h.get id with | some b => k b s | none => none)
    (hk : ∀ b s a s', s.h.get id = some b → k b s = some (a, s') → bit s'.rd id ∧ G1 s s' ∧ ∀ t, Beside s t → ∃ t', k b t = some (a, t') ∧ PW s t s' t') : Tr f := by
  intro s a s' h
  rw [hf] at h
  split at h
  case h_2 => cases h
  rename_i b hb
  obtain ⟨h1, h2, h3⟩ := hk b s a s' hb h
  refine ⟨h2, fun t _ hbe hag _ => ?_⟩
  obtain ⟨t', e, p⟩ := h3 t hbe
  refine ⟨t', ?_, p⟩
  rw [hf, (hag id h1).trans hb]
  exact e

theorem appSrc_tr (elem : TypeId) (size bytes : Nat) (zeros : Bool) (x : Value) : Tr (fun s => match appSrc P s elem size bytes zeros x with | some r => some ((r.1, r.2.1), r.2.2) | none => none) := by
  cases zeros with
  | true =>
    refine pure_tr (match x with
      | .int _ m => if 0 ≤ m ∧ m < 1048576 then
          (match zeroOf P elem with
           | some z => if Nat.ble (m.toNat * bytes) 1099511627776 then some (m.toNat, repeatL (cellsOfV z) m.toNat) else none
           | none => none) else none
      | _ => none) fun s => ?_
    cases x with
    | int k m =>
      by_cases h : 0 ≤ m ∧ m < 1048576
      · cases hz : zeroOf P elem with
        | none => simp only [appSrc, if_pos h, hz]
        | some z => by_cases hb : Nat.ble (m.toNat * bytes) 1099511627776 = true <;> simp only [appSrc, if_pos h, hz, hb, if_true] <;> rfl
      · simp only [appSrc, if_neg h]
    | _ => rfl
  | false =>
    cases hm : lenD x with
    | none => exact pure_tr none fun s => by simp [appSrc, hm]
    | some m =>
      intro s a s' h
      have e : ∀ s, (match appSrc P s elem size bytes false x with | some r => some ((r.1, r.2.1), r.2.2) | none => none) = (match srcCells s size m x with | some x => some ((m, x.1), x.2) | none => none) := by
        intro s
        simp only [appSrc, hm]
        cases srcCells s size m x <;> rfl
      simp only [e] at h ⊢
      cases hc : srcCells s size m x with
      | none => rw [hc] at h; cases h
      | some y =>
        rw [hc] at h
        cases h
        obtain ⟨g, k⟩ := srcCells_tr size m x s y.1 y.2 hc
        refine ⟨g, fun u h1 h2 h3 h4 => ?_⟩
        obtain ⟨u', e1, p⟩ := k u h1 h2 h3 h4
        exact ⟨u', by simp only at e1; simp only [e1], p⟩

theorem appInPlace_tr (id off at_ need c : Nat) (cs : List Value) (e : TypeId) (ws : List Value) {s : St} {a : Value} {s' : St} {b : Blk} (hg : s.h.get id = some b) (h : appInPlace s id off at_ need c cs e ws = some (a, s')) :
    bit s'.rd id ∧ G1 s s' ∧ ∀ t, Beside s t → ∃ t', appInPlace t id off at_ need c cs e ws = some (a, t') ∧ PW s t s' t' := by
  unfold appInPlace at h
  split at h
  case h_2 => cases h
  rename_i cs' hp
  cases h
  exact ⟨rd_self, G1.write hg, fun t hbe => ⟨_, by simp only [appInPlace, hp], PW.write hbe id _⟩⟩

theorem appTo_tr (elem : TypeId) (size : Nat) (base : Option Addr) (n c m : Nat) (ws : List Value) : Tr (fun s => appTo s elem size base n c m ws) := by
  cases base with
  | none =>
    exact new_tr (if Nat.beq c 0 && Nat.beq n 0 then some (.cells ([] ++ ws) (2 * elem) false, fun k => .slice (some ⟨k, 0, none⟩) m (capU + size)) else none) fun s => by
      by_cases h : (Nat.beq c 0 && Nat.beq n 0) = true <;> simp only [appTo, appNew, h, if_true] <;> rfl
  | some a =>
    obtain ⟨id, off, sp⟩ := a
    cases sp with
    | some q => exact pure_tr none fun s => rfl
    | none =>
      refine opStr_tr id (fun b s => match b with
        | .cells cs e ro =>
          if Nat.ble capU c then
            if Nat.beq c (capU + size) && (!ro && Nat.beq e (2 * elem)) then
              if Nat.ble (off + (n + m) * size) cs.length then appInPlace s id off (off + n * size) (n + m) c cs e ws
              else match ltake (n * size) (ldrop off cs) with
                | some old => some (appMove s id elem size (n + m) old ws)
                | none => none
            else none
          else if Nat.ble (n + m) c then
            if !ro then appInPlace s id off (off + n * size) (n + m) c cs e ws else none
          else match ltake (n * size) (ldrop off cs) with
            | some old => some (appNew (s.read id) elem size (n + m) old ws)
            | none => none
        | .ob _ => none
        | .dead => none) (fun s => ?_) (fun b s a s' hg h => ?_)
      · cases hh : s.h.get id with
        | none => simp only [appTo, hh]
        | some b => cases b <;> simp only [appTo, hh] <;> (try rfl)
      · cases b with
        | dead => cases h
        | ob es => cases h
        | cells cs e ro =>
          simp only at h ⊢
          split at h
          · rename_i h1
            split at h
            case isFalse => cases h
            rename_i h2
            split at h
            · rename_i h3
              obtain ⟨k1, k2, k3⟩ := appInPlace_tr id off (off + n * size) (n + m) c cs e ws hg h
              exact ⟨k1, k2, fun t hbe => by obtain ⟨t', e1, p⟩ := k3 t hbe; exact ⟨t', by simp only [h1, h2, h3, if_true]; exact e1, p⟩⟩
            · rename_i h3
              split at h
              case h_2 => cases h
              rename_i old hold
              cases h
              refine ⟨rd_self, (G1.write hg).trans (G1.new _ _), fun t hbe => ⟨(t.write id .dead).new _, ?_, (PW.write hbe id _).trans (PW.new (PW.write hbe id _).beside _)⟩⟩
              simp only [h1, h2, h3, if_true, appMove, hbe.next]; rfl
          · rename_i h1
            split at h
            · rename_i h2
              split at h
              case isFalse => cases h
              rename_i h3
              obtain ⟨k1, k2, k3⟩ := appInPlace_tr id off (off + n * size) (n + m) c cs e ws hg h
              exact ⟨k1, k2, fun t hbe => by obtain ⟨t', e1, p⟩ := k3 t hbe; exact ⟨t', by simp only [h1, h2, h3, if_true]; exact e1, p⟩⟩
            · rename_i h2
              split at h
              case h_2 => cases h
              rename_i old hold
              cases h
              refine ⟨rd_self, (G1.read hg).trans (G1.new _ _), fun t hbe => ⟨(t.read id).new _, ?_, (PW.read hbe id).trans (PW.new (PW.read hbe id).beside _)⟩⟩
              simp only [h1, h2, appNew]
              simp [St.read, hbe.next]


theorem none_tr {α : Type} {f : St → Option (α × St)} (hf : ∀ s, f s = none) : Tr f := pure_tr none hf

theorem appGo_tr (elem : TypeId) (size bytes : Nat) (base : Option Addr) (n c m : Nat) (ws : List Value) : Tr (fun s => appGo P s elem size bytes base n c m ws) := by
  by_cases h1 : Nat.beq m 0 = true
  · exact pure_tr (if Nat.ble capU c || Nat.ble n c then some (.slice base n c) else none) fun s => by
      simp only [appGo, h1, if_true]; split <;> rfl
  · by_cases h2 : (Nat.ble 1 size && (Nat.ble ((n + m) * bytes) 1099511627776 && (oneL ws && Nat.ble (n + m) 1099511627776))) = true
    · cases h3 : zeroOf P elem with
      | none => exact none_tr fun s => by simp only [appGo, h1, h2, h3, if_true]; rfl
      | some z =>
        have : (fun s => appGo P s elem size bytes base n c m ws) = fun s => appTo s elem size base n c m ws := by
          funext s; simp only [appGo, h1, h2, h3, if_true]; rfl
        rw [this]; exact appTo_tr elem size base n c m ws
    · exact none_tr fun s => by simp only [appGo, h1, h2]; rfl

theorem appendD_tr (ts : Array TypeId) (args : List Value) : Tr (fun s => appendD P s ts args) := by
  intro s v s' h
  simp only at h
  unfold appendD at h
  split at h
  case h_2 => cases h
  rename_i sT rest base n c x ha
  split at h
  case h_2 => cases h
  rename_i elem hu
  split at h
  case h_2 => cases h
  rename_i ei zeros hei hz
  split at h
  case h_2 => cases h
  rename_i q hq
  obtain ⟨m, ws, s1⟩ := q
  have T := Tr.bind (appSrc_tr (P := P) elem ei.size ei.bytes zeros x) (fun a => appGo_tr (P := P) elem ei.size ei.bytes base n c a.1 a.2)
  obtain ⟨g, k⟩ := T s v s' (by simp only [hq]; exact h)
  refine ⟨g, fun u h1 h2 h3 h4 => ?_⟩
  obtain ⟨u', e, p⟩ := k u h1 h2 h3 h4
  refine ⟨u', ?_, p⟩
  simp only [appendD, ha, hu, hei, hz]
  simp only at e
  cases hc : appSrc P u elem ei.size ei.bytes zeros x with
  | none => rw [hc] at e; cases e
  | some y => rw [hc] at e; exact e

theorem copyTo_tr (k : Nat) (base : Option Addr) (ws : List Value) : Tr (fun s => copyTo s k base ws) := by
  intro s v s' h
  simp only at h
  unfold copyTo at h
  split at h
  · cases h; exact ⟨G1.refl _, fun u _ hbe _ _ => ⟨u, rfl, PW.refl hbe⟩⟩
  · rename_i w1 ws
    split at h
    case isFalse => cases h
    rename_i ho
    split at h
    case h_2 => cases h
    rename_i id off
    split at h
    case h_2 => cases h
    rename_i cs e hg
    split at h
    case h_2 => cases h
    rename_i c2 hp
    cases h
    refine ⟨G1.write hg, fun u _ hbe hag _ => ⟨u.write id _, ?_, PW.write hbe id _⟩⟩
    have e1 : u.h.get id = some (.cells cs e false) := (hag id rd_self).trans hg
    simp only [copyTo, ho, if_true, e1, hp]

theorem copyD_tr (ts : Array TypeId) (args : List Value) : Tr (fun s => copyD P s ts args) := by
  intro s v s' h
  simp only at h
  unfold copyD at h
  split at h
  case h_2 => cases h
  rename_i dT rest base n c x ha
  split at h
  case h_2 => cases h
  rename_i elem hu
  split at h
  case h_2 => cases h
  rename_i size m hsz hm
  split at h
  case h_2 => cases h
  rename_i q hq
  have T := Tr.bind (srcCells_tr size (Nat.min m n) x) (fun ws => copyTo_tr (Nat.min m n) base ws)
  obtain ⟨g, k⟩ := T s v s' (by simp only [hq]; exact h)
  refine ⟨g, fun u h1 h2 h3 h4 => ?_⟩
  obtain ⟨u', e, p⟩ := k u h1 h2 h3 h4
  refine ⟨u', ?_, p⟩
  simp only [copyD, ha, hu, hsz, hm]
  simp only at e
  cases hc : srcCells u size (Nat.min m n) x with
  | none => rw [hc] at e; cases e
  | some y => rw [hc] at e; exact e

theorem clearTo_tr (base : Option Addr) (ws : List Value) : Tr (fun s => clearTo s base ws) := by
  intro s v s' h
  simp only at h
  unfold clearTo at h
  split at h
  case h_2 => cases h
  rename_i id off ho
  split at h
  case h_2 => cases h
  rename_i cs e hg
  split at h
  case h_2 => cases h
  rename_i c2 hp
  cases h
  refine ⟨G1.write hg, fun u _ hbe hag _ => ⟨u.write id _, ?_, PW.write hbe id _⟩⟩
  have e1 : u.h.get id = some (.cells cs e false) := (hag id rd_self).trans hg
  simp only [clearTo, ho, e1, hp]
theorem clearD_tr (ts : Array TypeId) (args : List Value) : Tr (fun s => clearD P s ts args) := by
  intro s v s' h
  simp only at h
  unfold clearD at h
  split at h
  case h_2 => cases h
  rename_i dT x ha
  split at h
  case h_2 => cases h
  rename_i elem hu
  split at h
  · cases h
    exact ⟨G1.refl _, fun u _ hbe _ _ => ⟨u, by simp only [clearD, ha, hu], PW.refl hbe⟩⟩
  · rename_i base n c
    split at h
    · cases h
      exact ⟨G1.refl _, fun u _ hbe _ _ => ⟨u, by simp only [clearD, ha, hu], PW.refl hbe⟩⟩
    · rename_i m
      split at h
      case h_2 => cases h
      rename_i z hz
      obtain ⟨g, k⟩ := clearTo_tr base (repeatL (cellsOfV z) (m + 1)) s v s' h
      refine ⟨g, fun u h1 h2 h3 h4 => ?_⟩
      obtain ⟨u', e, p⟩ := k u h1 h2 h3 h4
      exact ⟨u', by simp only [clearD, ha, hu, hz]; exact e, p⟩
  · cases h

theorem convertD_tr (src dst : TypeId) (x : Value) : Tr (fun s => convertD P s src dst x) := by
  intro s v s' h
  simp only at h
  unfold convertD at h
  split at h
  · rename_i b
    split at h
    case h_2 => cases h
    rename_i d hd
    unfold convStr at h
    split at h
    · rename_i e he
      split at h
      case h_2 => cases h
      rename_i hu
      cases h
      exact ⟨G1.new _ _, fun u _ hbe _ _ => ⟨u.new _, by simp only [convertD, hd, convStr, he, hu, hbe.next], PW.new hbe _⟩⟩
    · rename_i he
      cases h
      exact ⟨G1.refl _, fun u _ hbe _ _ => ⟨u, by simp only [convertD, hd, convStr, he], PW.refl hbe⟩⟩
    · cases h
  · rename_i a n c
    cases hsd : Nat.beq src dst with
    | true =>
      simp only [hsd] at h
      unfold convSame at h
      split at h
      case h_2 => cases h
      rename_i e hs
      split at h
      case h_2 => cases h
      rename_i hu
      split at h
      case h_2 => cases h
      rename_i id off
      split at h
      case h_2 => cases h
      rename_i cs el hg
      cases h
      refine ⟨G1.write hg, fun u _ hbe hag _ => ⟨u.write id _, ?_, PW.write hbe id _⟩⟩
      have e1 : u.h.get id = some (.cells cs el false) := (hag id rd_self).trans hg
      simp only [convertD, hsd, convSame, hs, hu, e1]
    | false =>
      simp only [hsd] at h
      unfold convSlice at h
      split at h
      case h_2 => cases h
      rename_i e hs hd
      split at h
      case h_2 => cases h
      rename_i hu
      split at h
      · cases h
        exact ⟨G1.refl _, fun u _ hbe _ _ => ⟨u, by simp only [convertD, hsd, hd, convSlice, hs, hu], PW.refl hbe⟩⟩
      · rename_i id off
        split at h
        case h_2 => cases h
        rename_i cs e' ro hg
        split at h
        case h_2 => cases h
        rename_i r' hr
        split at h
        case h_2 => cases h
        rename_i bs hbs
        cases h
        refine ⟨G1.read hg, fun u _ hbe hag _ => ⟨u.read id, ?_, PW.read hbe id⟩⟩
        have e1 : u.h.get id = some (.cells cs e' ro) := (hag id rd_self).trans hg
        simp only [convertD, hsd, hd, convSlice, hs, hu, e1, hr, hbs]
      · cases h
  · rename_i a
    unfold convPtr at h
    split at h
    · rename_i t hs hd
      split at h
      · cases h
        exact ⟨G1.refl _, fun u _ hbe _ _ => ⟨u, by simp only [convertD, hd, convPtr, hs], PW.refl hbe⟩⟩
      · rename_i id off
        split at h
        case h_2 => cases h
        rename_i cs e ro n hg hn
        split at h
        case isFalse => cases h
        rename_i hc
        cases h
        refine ⟨G1.read hg, fun u _ hbe hag _ => ⟨u.read id, ?_, PW.read hbe id⟩⟩
        have e1 : u.h.get id = some (.cells cs e ro) := (hag id rd_self).trans hg
        simp only [convertD, hd, convPtr, hs, e1, hn, hc, if_true]
      · cases h
    · rename_i t hs hd
      split at h
      · cases h
        exact ⟨G1.refl _, fun u _ hbe _ _ => ⟨u, by simp only [convertD, hd, convPtr, hs], PW.refl hbe⟩⟩
      · rename_i id
        split at h
        case h_2 => cases h
        rename_i cs e ro n hg hn
        split at h
        case isFalse => cases h
        rename_i hc
        cases h
        refine ⟨G1.read hg, fun u _ hbe hag _ => ⟨u.read id, ?_, PW.read hbe id⟩⟩
        have e1 : u.h.get id = some (.cells cs e ro) := (hag id rd_self).trans hg
        simp only [convertD, hd, convPtr, hs, e1, hn, hc, if_true]
      · cases h
    · cases h
  · unfold convEmp at h
    split at h
    case h_2 => cases h
    rename_i e hs hd
    split at h
    case h_2 => cases h
    rename_i hu
    cases h
    exact ⟨G1.refl _, fun u _ hbe _ _ => ⟨u, by simp only [convertD, hd, convEmp, hs, hu], PW.refl hbe⟩⟩
  · rename_i n1 n2 n3 n4
    split at h
    case isFalse => cases h
    rename_i hf
    split at h
    case h_2 => cases h
    rename_i r hr
    split at h
    case isFalse => cases h
    rename_i hfr
    cases h
    refine ⟨G1.refl _, fun u _ hbe _ _ => ⟨u, ?_, PW.refl hbe⟩⟩
    unfold convertD
    split
    · exact absurd rfl (n1 _)
    · exact absurd rfl (n2 _ _ _)
    · exact absurd rfl (n3 _)
    · exact absurd rfl n4
    · simp only [hf, if_true, hr, hfr]


theorem unsafeStringD_tr (pt : Option TypeDesc) (args : List Value) : Tr (fun s => unsafeStringD P s pt args) := by
  intro s v s' h
  simp only at h
  unfold unsafeStringD at h
  split at h
  case h_2 => cases h
  rename_i a k n
  split at h
  · split at h
    case isFalse => cases h
    rename_i hn
    cases h
    exact ⟨G1.refl _, fun u _ hbe _ _ => ⟨u, by simp only [unsafeStringD, hn, if_true], PW.refl hbe⟩⟩
  · rename_i id off
    split at h
    case h_2 => cases h
    rename_i ut cs e hg
    split at h
    case isFalse => cases h
    rename_i hn
    split at h
    case isFalse => cases h
    rename_i hc
    split at h
    case h_2 => cases h
    rename_i r' hr
    split at h
    case h_2 => cases h
    rename_i bs hbs
    cases h
    refine ⟨G1.write hg, fun u _ hbe hag _ => ⟨u.write id _, ?_, PW.write hbe id _⟩⟩
    have e1 : u.h.get id = some (.cells cs e false) := (hag id rd_self).trans hg
    simp only [unsafeStringD, e1, if_pos hn, hc, if_true, hr, hbs]
  · cases h

theorem opBuiltin_tr (b : Builtin) (ts : Array TypeId) (type : TypeId) (xs : Array Operand) (l : Tmps) : Tr (opBuiltin P b ts type xs l) := by
  show Tr (fun s => builtinD P s b ts type (evalL l xs.toList))
  cases b
  case append => exact appendD_tr ts _
  case copy => exact copyD_tr ts _
  case clear => exact clearD_tr ts _
  case len =>
    cases ht : ts.toList with
    | nil => exact none_tr fun s => by simp only [builtinD, ht]
    | cons t r => cases hx : evalL l xs.toList with
      | nil => exact none_tr fun s => by simp only [builtinD, ht]
      | cons x xs => exact pure_tr ((lenB P (typ P t) x).map fun n => .int .i64 n) fun s => by simp only [builtinD, ht, ofN]; cases lenB P (typ P t) x <;> rfl
  case cap =>
    cases ht : ts.toList with
    | nil => exact none_tr fun s => by simp only [builtinD, ht]
    | cons t r => cases hx : evalL l xs.toList with
      | nil => exact none_tr fun s => by simp only [builtinD, ht]
      | cons x xs => exact pure_tr ((capB (typ P t) x).map fun n => .int .i64 n) fun s => by simp only [builtinD, ht, ofN]; cases capB (typ P t) x <;> rfl
  case unsafeSliceData =>
    intro s v s' h
    simp only [builtinD] at h
    unfold sliceDataD at h
    split at h
    case h_2 => cases h
    rename_i a n c hx
    split at h
    · cases h
      exact ⟨G1.refl _, fun u _ hbe _ _ => ⟨u, by simp only [builtinD, sliceDataD, hx], PW.refl hbe⟩⟩
    · split at h
      · rename_i h1
        split at h
        case isFalse => cases h
        rename_i h2
        cases h
        exact ⟨G1.refl _, fun u _ hbe _ _ => ⟨u, by simp only [builtinD, sliceDataD, hx, h1, h2, if_true], PW.refl hbe⟩⟩
      · rename_i h1
        split at h
        case isFalse => cases h
        rename_i h2
        cases h
        exact ⟨G1.refl _, fun u _ hbe _ _ => ⟨u, by simp only [builtinD, sliceDataD, hx, h1, h2, if_true]; rfl, PW.refl hbe⟩⟩
  case unsafeString =>
    cases ht : ts.toList with
    | nil => exact none_tr fun s => by simp only [builtinD, ht]
    | cons t r =>
      have : (fun s => builtinD P s .unsafeString ts type (evalL l xs.toList)) = fun s => unsafeStringD P s (typ P t) (evalL l xs.toList) := by funext s; simp only [builtinD, ht]
      rw [this]; exact unsafeStringD_tr _ _
  case min =>
    intro s v s' h
    simp only [builtinD] at h
    unfold minMaxD at h
    split at h
    · rename_i h1
      split at h
      · rename_i r hr
        split at h
        · rename_i h3
          cases h
          exact ⟨G1.refl _, fun u _ hbe _ _ => ⟨u, by simp only [builtinD, minMaxD, h1, hr, h3], PW.refl hbe⟩⟩
        · cases h
      · cases h
    · cases h
  case max =>
    intro s v s' h
    simp only [builtinD] at h
    unfold minMaxD at h
    split at h
    · rename_i h1
      split at h
      · rename_i r hr
        split at h
        · rename_i h3
          cases h
          exact ⟨G1.refl _, fun u _ hbe _ _ => ⟨u, by simp only [builtinD, minMaxD, h1, hr, h3], PW.refl hbe⟩⟩
        · cases h
      · cases h
    · cases h
  all_goals exact none_tr fun s => rfl

theorem opUn_tr (op : UnOp) (x : Operand) (l : Tmps) : Tr (opUn P op x l) := by
  intro s v s' h
  unfold opUn at h
  split at h
  · rename_i h1
    split at h
    · rename_i r hr
      split at h
      · rename_i h3
        cases h
        exact ⟨G1.refl _, fun u _ hbe _ _ => ⟨u, by simp only [opUn, h1, hr, h3], PW.refl hbe⟩⟩
      · cases h
    · cases h
  · cases h

theorem opMakeMap_tr (r : Option Operand) (l : Tmps) : Tr (opMakeMap r l) := by
  cases r with
  | none => exact new_tr (some (.ob (.mp [] 0), fun n => .map (some n))) fun s => rfl
  | some _ => exact none_tr fun s => rfl
theorem lookupD_tr (d : Option TypeDesc) (x k : Value) (ok : Bool) : Tr (fun s => lookupD P s d x k ok) := by
  intro s v s' h
  simp only at h
  unfold lookupD at h
  split at h
  case h_2 => cases h
  rename_i kt e
  split at h
  case h_2 => cases h
  rename_i hk
  unfold mapOf at h
  split at h
  case h_2 => cases h
  rename_i r hr
  obtain ⟨es, s1⟩ := r
  split at h
  case h_2 => cases h
  rename_i v' hv
  cases h
  split at hr
  case h_2 => cases hr
  rename_i a
  split at hr
  · cases hr
    exact ⟨G1.refl _, fun u _ hbe _ _ => ⟨u, by simp only [lookupD, hk, mapOf, hv], PW.refl hbe⟩⟩
  · rename_i id
    split at hr
    case h_2 => cases hr
    rename_i o hg
    split at hr
    case h_2 => cases hr
    rename_i es' ck
    cases hr
    refine ⟨G1.read hg, fun u _ hbe hag _ => ⟨u.read id, ?_, PW.read hbe id⟩⟩
    have e1 : u.h.get id = some (.ob (.mp es ck)) := (hag id rd_self).trans hg
    simp only [lookupD, hk, mapOf, e1, hv]
theorem updateD_tr (d : Option TypeDesc) (x k v : Value) : Tr (fun s => updateD P s d x k v) := by
  intro s a s' h
  simp only at h
  unfold updateD at h
  split at h
  case h_2 => cases h
  rename_i kt e id
  split at h
  case h_2 => cases h
  rename_i hk
  split at h
  case h_2 => cases h
  rename_i o hg
  split at h
  case h_2 => cases h
  rename_i es ck
  split at h
  case h_2 => cases h
  rename_i es' hu
  cases h
  refine ⟨G1.write hg, fun u _ hbe hag _ => ⟨u.write id _, ?_, PW.write hbe id _⟩⟩
  have e1 : u.h.get id = some (.ob (.mp es ck)) := (hag id rd_self).trans hg
  simp only [updateD, hk, e1, hu]
theorem rangeD_tr (d : Option TypeDesc) (x : Value) : Tr (fun s => rangeD s d x) := by
  intro s v s' h
  simp only at h
  unfold rangeD at h
  split at h
  case h_2 => cases h
  rename_i kt e a
  split at h
  · cases h
    exact ⟨G1.new _ _, fun u _ hbe _ _ => ⟨u.new _, by simp only [rangeD, hbe.next], PW.new hbe _⟩⟩
  · rename_i id
    split at h
    case h_2 => cases h
    rename_i o hg
    split at h
    case h_2 => cases h
    rename_i es ck
    cases h
    refine ⟨(G1.read hg).trans (G1.new _ _), fun u _ hbe hag _ => ⟨(u.read id).new _, ?_, (PW.read hbe id).trans (PW.new (PW.read hbe id).beside _)⟩⟩
    have e1 : u.h.get id = some (.ob (.mp es ck)) := (hag id rd_self).trans hg
    simp only [rangeD, e1, hbe.next]
theorem nextD_tr (x : Value) (str : Bool) : Tr (fun s => nextD s x str) := by
  intro s v s' h
  simp only at h
  unfold nextD at h
  split at h
  case h_2 => cases h
  rename_i r
  split at h
  case h_2 => cases h
  rename_i o hg
  split at h
  case h_2 => cases h
  rename_i m since seen last
  unfold nextIt at h
  split at h
  · cases h
    refine ⟨G1.read hg, fun u _ hbe hag _ => ⟨u.read r, ?_, PW.read hbe r⟩⟩
    have e1 : u.h.get r = some (.ob (.it none since seen last)) := (hag r rd_self).trans hg
    simp only [nextD, e1, nextIt]
  · rename_i id
    split at h
    case h_2 => cases h
    rename_i o2 hg2
    split at h
    case h_2 => cases h
    rename_i es ck
    unfold nextGo at h
    split at h
    case h_2 => cases h
    rename_i hc
    split at h
    · rename_i hl
      cases h
      have hg2' : (s.read r).h.get id = some (.ob (.mp es ck)) := hg2
      refine ⟨(G1.read hg).trans (G1.read hg2'), fun u _ hbe hag _ => ⟨(u.read r).read id, ?_, (PW.read hbe r).trans (PW.read (PW.read hbe r).beside id)⟩⟩
      have e1 : u.h.get r = some (.ob (.it (some id) since seen last)) := (hag r (bit_or.2 (.inl rd_self))).trans hg
      have e2 : u.h.get id = some (.ob (.mp es ck)) := (hag id rd_self).trans hg2
      simp only [nextD, e1, nextIt, e2, nextGo, hc, hl]
    · rename_i e t hl
      split at h
      case h_2 => cases h
      cases h
      have hg1 : (s.read id).h.get r = some (.ob (.it (some id) since seen last)) := hg
      refine ⟨(G1.read hg2).trans (G1.write hg1), fun u _ hbe hag _ => ⟨(u.read id).write r _, ?_, (PW.read hbe id).trans (PW.write (PW.read hbe id).beside r _)⟩⟩
      have e1 : u.h.get r = some (.ob (.it (some id) since seen last)) := (hag r rd_self).trans hg
      have e2 : u.h.get id = some (.ob (.mp es ck)) := (hag id (bit_or.2 (.inl rd_self))).trans hg2
      simp only [nextD, e1, nextIt, e2, nextGo, hc, hl]

theorem entryD_tr (x : Value) : Tr (fun s => entryD s x) := by
  intro s v s' h
  simp only at h
  unfold entryD at h
  split at h
  case h_2 => cases h
  rename_i r
  split at h
  case h_2 => cases h
  rename_i o hg
  split at h
  case h_2 => cases h
  rename_i m since seen last
  unfold entryIt at h
  split at h
  case h_1 => cases h
  rename_i id
  split at h
  case h_2 => cases h
  rename_i o2 hg2
  split at h
  case h_2 => cases h
  rename_i es ck
  unfold entryGo at h
  split at h
  case h_2 => cases h
  rename_i n hc hn
  split at h
  case h_2 => cases h
  rename_i e he
  cases h
  have hg2' : (s.read r).h.get id = some (.ob (.mp es ck)) := hg2
  refine ⟨(G1.read hg).trans (G1.read hg2'), fun u _ hbe hag _ => ⟨(u.read r).read id, ?_, (PW.read hbe r).trans (PW.read (PW.read hbe r).beside id)⟩⟩
  have e1 : u.h.get r = some (.ob (.it (some id) since seen last)) := (hag r (bit_or.2 (.inl rd_self))).trans hg
  have e2 : u.h.get id = some (.ob (.mp es ck)) := (hag id rd_self).trans hg2
  simp only [entryD, e1, entryIt, e2, entryGo, hc, hn, he]

theorem opD_tr {call : Call} (hc : ∀ f args, Tr (call f args)) (o : Oper) (l : Tmps) : Tr (opD P call o l) := by
  unfold opD
  cases hop : o.op
  case move x => exact opMove_tr _ _
  case assign x => exact opMove_tr _ _
  case pick c a b => exact opPick_tr _ _ _ _
  case alloc e => exact opAlloc_tr _ _
  case box e x => exact opBox_tr _ _ _
  case build t ps => exact ofV_tr _
  case buildSlice t n ps => exact opBuildSlice_tr _ _ _ _
  case load t a => exact opLoad_tr _ _ _
  case store t a x => exact opStore_tr _ _ _ _
  case nilCheck x =>
    cases hv : evalO l x with
    | pointer a => cases a with
      | none => exact none_tr fun s => by simp [opNilCheck, hv]
      | some a => exact pure_tr (some (.pointer (some a))) fun s => by simp [opNilCheck, hv]
    | func f a b => cases f with
      | func f => exact pure_tr (some (.func (.func f) a b)) fun s => by simp [opNilCheck, hv]
      | _ => exact none_tr fun s => by simp [opNilCheck, hv]
    | _ => exact none_tr fun s => by simp [opNilCheck, hv]
  case binOp op t x y yt => exact ofV_tr _
  case unOp op xt x => exact opUn_tr _ _ _
  case convert a b x => exact convertD_tr _ _ _
  case makeInterface t x =>
    cases ht : typ P t with
    | none => exact none_tr fun s => by simp only [opMakeInterface, ht]
    | some d =>
      cases d
      case interface => exact none_tr fun s => by simp only [opMakeInterface, ht]
      all_goals exact pure_tr (some (.iface t (evalO l x))) fun s => by simp only [opMakeInterface, ht]
  case makeFunc fn a b => exact pure_tr (some _) fun s => rfl
  case makeSlice t n c => exact opMakeSlice_tr _ _ _ _
  case slice t x lo hi mx => exact ofV_tr _
  case fieldAddr t x f => exact ofV_tr _
  case field t x f => exact ofV_tr _
  case indexAddr t x i => exact ofV_tr _
  case index t x i => exact ofV_tr _
  case extract t i =>
    show Tr (opExtract t i l)
    cases hv : evalO l t with
    | tuple vs => cases hl : vs.toList with
      | nil => exact none_tr fun s => by simp only [opExtract, hv, hl]
      | cons w ws =>
        have : opExtract t i l = ofV (nth (w :: ws) i) := by funext s; simp only [opExtract, hv, hl]
        rw [this]; exact ofV_tr _
    | _ => exact none_tr fun s => by simp only [opExtract, hv]
  case makeMap t r => exact opMakeMap_tr _ _
  case lookup t x k ok => exact lookupD_tr _ _ _ _
  case mapUpdate t x k v => exact updateD_tr _ _ _ _
  case range t x => exact rangeD_tr _ _
  case next x str => exact nextD_tr _ _
  case entry x => exact entryD_tr _
  case call c =>
    show Tr (opCall P call c o.type l)
    unfold opCall
    cases hcal : c.callee with
    | builtin b => exact opBuiltin_tr _ _ _ _ _
    | value f =>
      show Tr (opCallV call f c.args l)
      cases hv : evalO l f with
      | func g first cap => cases g with
        | func g =>
          have : opCallV call f c.args l = call g (first.toList ++ (evalL l c.args.toList ++ cap.toList)) := by funext s; simp only [opCallV, hv]
          rw [this]; exact hc _ _
        | _ => exact none_tr fun s => by simp only [opCallV, hv]
      | _ => exact none_tr fun s => by simp only [opCallV, hv]
    | invoke _ _ => exact none_tr fun s => rfl
  all_goals exact none_tr fun s => rfl

end Go.Det
