/- Texts of a proof, joined: words of the print (those that are named here) and printed functions. -/
import Derived.Test.YtfnacgojmdbjmaaDoorBk1
import Derived.Orders
import Derived.Tactics
import GoSem.ClaimChange
import Derived.OpenShut
import Derived.LaidHandle
set_option linter.unusedSimpArgs false
set_option linter.unusedVariables false

section
/- A part of an evaluator of closed runs and of its soundness. -/
namespace Go.Det
variable {P : Program}
theorem rd_self {m id : Nat} : bit (Nat.lor m (Nat.shiftLeft 1 id)) id := bit_or.2 (.inr (bit_one.2 rfl))
theorem loadD_tr (t : TypeId) (a : Value) : Tr (fun s => loadD P s t a) := by
  intro s v s' h
  simp only at h
  unfold loadD at h
  split at h
  case h_2 => cases h
  rename_i id off
  split at h
  case h_2 => cases h
  rename_i cs e ro hg
  split at h
  · rename_i hb
    split at h
    case h_2 => cases h
    rename_i n hn
    split at h
    case h_2 => cases h
    rename_i r hr
    cases h
    refine ⟨G1.read hg, fun u _ hbe hag _ => ⟨u.read id, ?_, PW.read hbe id⟩⟩
    have e1 : u.h.get id = some (.cells cs e ro) := (hag id rd_self).trans hg
    simp only [loadD, e1, hb, hn, hr]
  · rename_i hb
    split at h
    case h_2 => cases h
    rename_i v1 t1 hd
    cases h
    refine ⟨G1.read hg, fun u _ hbe hag _ => ⟨u.read id, ?_, PW.read hbe id⟩⟩
    have e1 : u.h.get id = some (.cells cs e ro) := (hag id rd_self).trans hg
    simp only [loadD, e1, hb, hd]
  · cases h
theorem opLoad_tr (t : TypeId) (a : Operand) (l : Tmps) : Tr (opLoad P t a l) := loadD_tr t _
theorem opStore_tr (t : TypeId) (a x : Operand) (l : Tmps) : Tr (opStore P t a x l) := by
  intro s v s' h
  unfold opStore at h
  split at h
  case h_2 => cases h
  rename_i s1 hs1
  cases h
  unfold storeD at hs1
  split at hs1
  case h_2 => cases hs1
  rename_i id off hv
  split at hs1
  case h_2 => cases hs1
  rename_i cs e hg
  split at hs1
  case h_2 => cases hs1
  rename_i n hn
  simp only at hs1
  split at hs1
  case isFalse => cases hs1
  rename_i hc
  split at hs1
  case h_2 => cases hs1
  rename_i cs' hp
  cases hs1
  refine ⟨G1.write hg, fun u _ hbe hag _ => ⟨u.write id (.cells cs' e false), ?_, PW.write hbe id _⟩⟩
  have e1 : u.h.get id = some (.cells cs e false) := (hag id rd_self).trans hg
  simp only [opStore, storeD, hv, e1, hn, hc, if_true, hp]
theorem srcCells_tr (size n : Nat) (x : Value) : Tr (fun s => srcCells s size n x) := by
  intro s v s' h
  simp only at h
  unfold srcCells at h
  split at h
  · rename_i id off n' c
    split at h
    · rename_i h0
      cases h
      exact ⟨G1.refl _, fun u _ hbe _ _ => ⟨u, by simp only [srcCells, h0, if_true], PW.refl hbe⟩⟩
    · rename_i h0
      split at h
      case h_2 => cases h
      rename_i cs e' ro hg
      split at h
      case h_2 => cases h
      rename_i r' hr
      cases h
      refine ⟨G1.read hg, fun u _ hbe hag _ => ⟨u.read id, ?_, PW.read hbe id⟩⟩
      have e1 : u.h.get id = some (.cells cs e' ro) := (hag id rd_self).trans hg
      simp only [srcCells, h0, e1, hr]; rfl
  · split at h
    case isFalse => cases h
    rename_i h0
    cases h
    exact ⟨G1.refl _, fun u _ hbe _ _ => ⟨u, by simp only [srcCells, h0, if_true], PW.refl hbe⟩⟩
  · split at h
    case isFalse => cases h
    rename_i h0
    cases h
    exact ⟨G1.refl _, fun u _ hbe _ _ => ⟨u, by simp only [srcCells, h0, if_true], PW.refl hbe⟩⟩
  · split at h
    case isFalse => cases h
    rename_i h0
    split at h
    case h_2 => cases h
    rename_i r hr
    cases h
    exact ⟨G1.refl _, fun u _ hbe _ _ => ⟨u, by simp only [srcCells, h0, if_true, hr], PW.refl hbe⟩⟩
  · cases h
theorem new_tr {α : Type} {f : St → Option (α × St)} (c : Option (Blk × (Nat → α))) (hf : ∀ s, f s = match c with | some x => some (x.2 s.next, s.new x.1) | none => none) : Tr f := by
  intro s v s' h
  rw [hf] at h
  cases c with
  | none => cases h
  | some x =>
    cases h
    refine ⟨G1.new _ _, fun u _ hbe _ _ => ⟨u.new x.1, ?_, PW.new hbe _⟩⟩
    rw [hf, hbe.next]
theorem pure_tr {α : Type} {f : St → Option (α × St)} (c : Option α) (hf : ∀ s, f s = match c with | some x => some (x, s) | none => none) : Tr f := by
  intro s v s' h
  rw [hf] at h
  cases c with
  | none => cases h
  | some x => cases h; exact ⟨G1.refl _, fun u _ hbe _ _ => ⟨u, by rw [hf], PW.refl hbe⟩⟩
theorem opMove_tr (x : Operand) (l : Tmps) : Tr (opMove x l) := pure_tr (some (evalO l x)) fun _ => rfl
theorem ofV_tr (c : Option Value) : Tr (ofV c) := pure_tr c fun s => by cases c <;> rfl
theorem opPick_tr (c a b : Operand) (l : Tmps) : Tr (opPick c a b l) := by
  cases h : evalO l c with
  | bool t => exact pure_tr (some (if t then evalO l a else evalO l b)) fun s => by cases t <;> simp [opPick, h]
  | _ => exact pure_tr none fun s => by simp [opPick, h]
theorem opAlloc_tr (e : TypeId) (l : Tmps) : Tr (opAlloc P e l) :=
  new_tr (match zeroOf P e with | some z => some (.cells (cellsOfV z) (2 * e + 1) false, fun n => .pointer (some ⟨n, 0, none⟩)) | none => none) fun s => by
    unfold opAlloc; cases zeroOf P e <;> rfl
theorem opBox_tr (e : TypeId) (x : Operand) (l : Tmps) : Tr (opBox e x l) :=
  new_tr (if !isUnd (evalO l x) then some (.cells (cellsOfV (evalO l x)) (2 * e + 1) false, fun n => .pointer (some ⟨n, 0, none⟩)) else none) fun s => by
    unfold opBox; split <;> rfl
theorem opBuildSlice_tr (t : TypeId) (n : Nat) (parts : Array (Nat × Operand)) (l : Tmps) : Tr (opBuildSlice P t n parts l) := by
  intro s v s' h
  unfold opBuildSlice buildSliceD at h
  split at h
  case h_2 => cases h
  rename_i elem ht
  split at h
  case h_2 => cases h
  rename_i size z hs hz
  split at h
  case isFalse => cases h
  rename_i hb
  split at h
  case h_2 => cases h
  rename_i cs hcs
  cases h
  refine ⟨G1.new _ _, fun u _ hbe _ _ => ⟨u.new _, ?_, PW.new hbe _⟩⟩
  simp only [opBuildSlice, buildSliceD, ht, hs, hz, hb, if_true, hcs, hbe.next]
theorem opMakeSlice_tr (t : TypeId) (n c : Operand) (l : Tmps) : Tr (opMakeSlice P t n c l) := by
  intro s v s' h
  unfold opMakeSlice makeSliceD at h
  split at h
  case h_2 => cases h
  rename_i elem k m ht hk hm
  split at h
  case h_2 => cases h
  rename_i ei hei
  split at h
  case h_2 => cases h
  rename_i z hz
  split at h
  case isFalse => cases h
  rename_i hb
  cases h
  refine ⟨G1.new _ _, fun u _ hbe _ _ => ⟨u.new _, ?_, PW.new hbe _⟩⟩
  simp only [opMakeSlice, makeSliceD, ht, hk, hm, hei, hz, hb, if_true, hbe.next]
theorem opStr_tr {α : Type} {f : St → Option (α × St)} (id : Nat) (k : Blk → St → Option (α × St)) (hf : ∀ s, f s = match s.h.get id with | some b => k b s | none => none)
    (hk : ∀ b s a s', s.h.get id = some b → k b s = some (a, s') → bit s'.rd id ∧ G1 s s' ∧ ∀ t, Beside s t → ∃ t', k b t = some (a, t') ∧ PW s t s' t') : Tr f := by
  intro s a s' h
  rw [hf] at h
  split at h
  case h_2 => cases h
  rename_i b hb
  obtain ⟨h1, h2, h3⟩ := hk b s a s' hb h
  refine ⟨h2, fun t _ hbe hag _ => ?_⟩
  obtain ⟨t', e, p⟩ := h3 t hbe
  refine ⟨t', ?_, p⟩
  rw [hf, (hag id h1).trans hb]
  exact e
theorem appSrc_tr (elem : TypeId) (size bytes : Nat) (zeros : Bool) (x : Value) : Tr (fun s => match appSrc P s elem size bytes zeros x with | some r => some ((r.1, r.2.1), r.2.2) | none => none) := by
  cases zeros with
  | true =>
    refine pure_tr (match x with
      | .int _ m => if 0 ≤ m ∧ m < 1048576 then
          (match zeroOf P elem with
           | some z => if Nat.ble (m.toNat * bytes) 1099511627776 then some (m.toNat, repeatL (cellsOfV z) m.toNat) else none
           | none => none) else none
      | _ => none) fun s => ?_
    cases x with
    | int k m =>
      by_cases h : 0 ≤ m ∧ m < 1048576
      · cases hz : zeroOf P elem with
        | none => simp only [appSrc, if_pos h, hz]
        | some z => by_cases hb : Nat.ble (m.toNat * bytes) 1099511627776 = true <;> simp only [appSrc, if_pos h, hz, hb, if_true] <;> rfl
      · simp only [appSrc, if_neg h]
    | _ => rfl
  | false =>
    cases hm : lenD x with
    | none => exact pure_tr none fun s => by simp [appSrc, hm]
    | some m =>
      intro s a s' h
      have e : ∀ s, (match appSrc P s elem size bytes false x with | some r => some ((r.1, r.2.1), r.2.2) | none => none) = (match srcCells s size m x with | some x => some ((m, x.1), x.2) | none => none) := by
        intro s
        simp only [appSrc, hm]
        cases srcCells s size m x <;> rfl
      simp only [e] at h ⊢
      cases hc : srcCells s size m x with
      | none => rw [hc] at h; cases h
      | some y =>
        rw [hc] at h
        cases h
        obtain ⟨g, k⟩ := srcCells_tr size m x s y.1 y.2 hc
        refine ⟨g, fun u h1 h2 h3 h4 => ?_⟩
        obtain ⟨u', e1, p⟩ := k u h1 h2 h3 h4
        exact ⟨u', by simp only at e1; simp only [e1], p⟩
theorem appInPlace_tr (id off at_ need c : Nat) (cs : List Value) (e : TypeId) (ws : List Value) {s : St} {a : Value} {s' : St} {b : Blk} (hg : s.h.get id = some b) (h : appInPlace s id off at_ need c cs e ws = some (a, s')) :
    bit s'.rd id ∧ G1 s s' ∧ ∀ t, Beside s t → ∃ t', appInPlace t id off at_ need c cs e ws = some (a, t') ∧ PW s t s' t' := by
  unfold appInPlace at h
  split at h
  case h_2 => cases h
  rename_i cs' hp
  cases h
  exact ⟨rd_self, G1.write hg, fun t hbe => ⟨_, by simp only [appInPlace, hp], PW.write hbe id _⟩⟩
theorem appTo_tr (elem : TypeId) (size : Nat) (base : Option Addr) (n c m : Nat) (ws : List Value) : Tr (fun s => appTo s elem size base n c m ws) := by
  cases base with
  | none =>
    exact new_tr (if Nat.beq c 0 && Nat.beq n 0 then some (.cells ([] ++ ws) (2 * elem) false, fun k => .slice (some ⟨k, 0, none⟩) m (capU + size)) else none) fun s => by
      by_cases h : (Nat.beq c 0 && Nat.beq n 0) = true <;> simp only [appTo, appNew, h, if_true] <;> rfl
  | some a =>
    obtain ⟨id, off, sp⟩ := a
    cases sp with
    | some q => exact pure_tr none fun s => rfl
    | none =>
      refine opStr_tr id (fun b s => match b with
        | .cells cs e ro =>
          if Nat.ble capU c then
            if Nat.beq c (capU + size) && (!ro && Nat.beq e (2 * elem)) then
              if Nat.ble (off + (n + m) * size) cs.length then appInPlace s id off (off + n * size) (n + m) c cs e ws
              else match ltake (n * size) (ldrop off cs) with
                | some old => some (appMove s id elem size (n + m) old ws)
                | none => none
            else none
          else if Nat.ble (n + m) c then
            if !ro then appInPlace s id off (off + n * size) (n + m) c cs e ws else none
          else match ltake (n * size) (ldrop off cs) with
            | some old => some (appNew (s.read id) elem size (n + m) old ws)
            | none => none
        | .ob _ => none
        | .dead => none) (fun s => ?_) (fun b s a s' hg h => ?_)
      · cases hh : s.h.get id with
        | none => simp only [appTo, hh]
        | some b => cases b <;> simp only [appTo, hh] <;> (try rfl)
      · cases b with
        | dead => cases h
        | ob es => cases h
        | cells cs e ro =>
          simp only at h ⊢
          split at h
          · rename_i h1
            split at h
            case isFalse => cases h
            rename_i h2
            split at h
            · rename_i h3
              obtain ⟨k1, k2, k3⟩ := appInPlace_tr id off (off + n * size) (n + m) c cs e ws hg h
              exact ⟨k1, k2, fun t hbe => by obtain ⟨t', e1, p⟩ := k3 t hbe; exact ⟨t', by simp only [h1, h2, h3, if_true]; exact e1, p⟩⟩
            · rename_i h3
              split at h
              case h_2 => cases h
              rename_i old hold
              cases h
              refine ⟨rd_self, (G1.write hg).trans (G1.new _ _), fun t hbe => ⟨(t.write id .dead).new _, ?_, (PW.write hbe id _).trans (PW.new (PW.write hbe id _).beside _)⟩⟩
              simp only [h1, h2, h3, if_true, appMove, hbe.next]; rfl
          · rename_i h1
            split at h
            · rename_i h2
              split at h
              case isFalse => cases h
              rename_i h3
              obtain ⟨k1, k2, k3⟩ := appInPlace_tr id off (off + n * size) (n + m) c cs e ws hg h
              exact ⟨k1, k2, fun t hbe => by obtain ⟨t', e1, p⟩ := k3 t hbe; exact ⟨t', by simp only [h1, h2, h3, if_true]; exact e1, p⟩⟩
            · rename_i h2
              split at h
              case h_2 => cases h
              rename_i old hold
              cases h
              refine ⟨rd_self, (G1.read hg).trans (G1.new _ _), fun t hbe => ⟨(t.read id).new _, ?_, (PW.read hbe id).trans (PW.new (PW.read hbe id).beside _)⟩⟩
              simp only [h1, h2, appNew]
              simp [St.read, hbe.next]
theorem none_tr {α : Type} {f : St → Option (α × St)} (hf : ∀ s, f s = none) : Tr f := pure_tr none hf
theorem appGo_tr (elem : TypeId) (size bytes : Nat) (base : Option Addr) (n c m : Nat) (ws : List Value) : Tr (fun s => appGo P s elem size bytes base n c m ws) := by
  by_cases h1 : Nat.beq m 0 = true
  · exact pure_tr (if Nat.ble capU c || Nat.ble n c then some (.slice base n c) else none) fun s => by
      simp only [appGo, h1, if_true]; split <;> rfl
  · by_cases h2 : (Nat.ble 1 size && (Nat.ble ((n + m) * bytes) 1099511627776 && (oneL ws && Nat.ble (n + m) 1099511627776))) = true
    · cases h3 : zeroOf P elem with
      | none => exact none_tr fun s => by simp only [appGo, h1, h2, h3, if_true]; rfl
      | some z =>
        have : (fun s => appGo P s elem size bytes base n c m ws) = fun s => appTo s elem size base n c m ws := by
          funext s; simp only [appGo, h1, h2, h3, if_true]; rfl
        rw [this]; exact appTo_tr elem size base n c m ws
    · exact none_tr fun s => by simp only [appGo, h1, h2]; rfl
theorem appendD_tr (ts : Array TypeId) (args : List Value) : Tr (fun s => appendD P s ts args) := by
  intro s v s' h
  simp only at h
  unfold appendD at h
  split at h
  case h_2 => cases h
  rename_i sT rest base n c x ha
  split at h
  case h_2 => cases h
  rename_i elem hu
  split at h
  case h_2 => cases h
  rename_i ei zeros hei hz
  split at h
  case h_2 => cases h
  rename_i q hq
  obtain ⟨m, ws, s1⟩ := q
  have T := Tr.bind (appSrc_tr (P := P) elem ei.size ei.bytes zeros x) (fun a => appGo_tr (P := P) elem ei.size ei.bytes base n c a.1 a.2)
  obtain ⟨g, k⟩ := T s v s' (by simp only [hq]; exact h)
  refine ⟨g, fun u h1 h2 h3 h4 => ?_⟩
  obtain ⟨u', e, p⟩ := k u h1 h2 h3 h4
  refine ⟨u', ?_, p⟩
  simp only [appendD, ha, hu, hei, hz]
  simp only at e
  cases hc : appSrc P u elem ei.size ei.bytes zeros x with
  | none => rw [hc] at e; cases e
  | some y => rw [hc] at e; exact e
theorem copyTo_tr (k : Nat) (base : Option Addr) (ws : List Value) : Tr (fun s => copyTo s k base ws) := by
  intro s v s' h
  simp only at h
  unfold copyTo at h
  split at h
  · cases h; exact ⟨G1.refl _, fun u _ hbe _ _ => ⟨u, rfl, PW.refl hbe⟩⟩
  · rename_i w1 ws
    split at h
    case isFalse => cases h
    rename_i ho
    split at h
    case h_2 => cases h
    rename_i id off
    split at h
    case h_2 => cases h
    rename_i cs e hg
    split at h
    case h_2 => cases h
    rename_i c2 hp
    cases h
    refine ⟨G1.write hg, fun u _ hbe hag _ => ⟨u.write id _, ?_, PW.write hbe id _⟩⟩
    have e1 : u.h.get id = some (.cells cs e false) := (hag id rd_self).trans hg
    simp only [copyTo, ho, if_true, e1, hp]
theorem copyD_tr (ts : Array TypeId) (args : List Value) : Tr (fun s => copyD P s ts args) := by
  intro s v s' h
  simp only at h
  unfold copyD at h
  split at h
  case h_2 => cases h
  rename_i dT rest base n c x ha
  split at h
  case h_2 => cases h
  rename_i elem hu
  split at h
  case h_2 => cases h
  rename_i size m hsz hm
  split at h
  case h_2 => cases h
  rename_i q hq
  have T := Tr.bind (srcCells_tr size (Nat.min m n) x) (fun ws => copyTo_tr (Nat.min m n) base ws)
  obtain ⟨g, k⟩ := T s v s' (by simp only [hq]; exact h)
  refine ⟨g, fun u h1 h2 h3 h4 => ?_⟩
  obtain ⟨u', e, p⟩ := k u h1 h2 h3 h4
  refine ⟨u', ?_, p⟩
  simp only [copyD, ha, hu, hsz, hm]
  simp only at e
  cases hc : srcCells u size (Nat.min m n) x with
  | none => rw [hc] at e; cases e
  | some y => rw [hc] at e; exact e
theorem clearTo_tr (base : Option Addr) (ws : List Value) : Tr (fun s => clearTo s base ws) := by
  intro s v s' h
  simp only at h
  unfold clearTo at h
  split at h
  case h_2 => cases h
  rename_i id off ho
  split at h
  case h_2 => cases h
  rename_i cs e hg
  split at h
  case h_2 => cases h
  rename_i c2 hp
  cases h
  refine ⟨G1.write hg, fun u _ hbe hag _ => ⟨u.write id _, ?_, PW.write hbe id _⟩⟩
  have e1 : u.h.get id = some (.cells cs e false) := (hag id rd_self).trans hg
  simp only [clearTo, ho, e1, hp]
theorem clearD_tr (ts : Array TypeId) (args : List Value) : Tr (fun s => clearD P s ts args) := by
  intro s v s' h
  simp only at h
  unfold clearD at h
  split at h
  case h_2 => cases h
  rename_i dT x ha
  split at h
  case h_2 => cases h
  rename_i elem hu
  split at h
  · cases h
    exact ⟨G1.refl _, fun u _ hbe _ _ => ⟨u, by simp only [clearD, ha, hu], PW.refl hbe⟩⟩
  · rename_i base n c
    split at h
    · cases h
      exact ⟨G1.refl _, fun u _ hbe _ _ => ⟨u, by simp only [clearD, ha, hu], PW.refl hbe⟩⟩
    · rename_i m
      split at h
      case h_2 => cases h
      rename_i z hz
      obtain ⟨g, k⟩ := clearTo_tr base (repeatL (cellsOfV z) (m + 1)) s v s' h
      refine ⟨g, fun u h1 h2 h3 h4 => ?_⟩
      obtain ⟨u', e, p⟩ := k u h1 h2 h3 h4
      exact ⟨u', by simp only [clearD, ha, hu, hz]; exact e, p⟩
  · cases h
theorem convertD_tr (src dst : TypeId) (x : Value) : Tr (fun s => convertD P s src dst x) := by
  intro s v s' h
  simp only at h
  unfold convertD at h
  split at h
  · rename_i b
    split at h
    case h_2 => cases h
    rename_i d hd
    unfold convStr at h
    split at h
    · rename_i e he
      split at h
      case h_2 => cases h
      rename_i hu
      cases h
      exact ⟨G1.new _ _, fun u _ hbe _ _ => ⟨u.new _, by simp only [convertD, hd, convStr, he, hu, hbe.next], PW.new hbe _⟩⟩
    · rename_i he
      cases h
      exact ⟨G1.refl _, fun u _ hbe _ _ => ⟨u, by simp only [convertD, hd, convStr, he], PW.refl hbe⟩⟩
    · cases h
  · rename_i a n c
    cases hsd : Nat.beq src dst with
    | true =>
      simp only [hsd] at h
      unfold convSame at h
      split at h
      case h_2 => cases h
      rename_i e hs
      split at h
      case h_2 => cases h
      rename_i hu
      split at h
      case h_2 => cases h
      rename_i id off
      split at h
      case h_2 => cases h
      rename_i cs el hg
      cases h
      refine ⟨G1.write hg, fun u _ hbe hag _ => ⟨u.write id _, ?_, PW.write hbe id _⟩⟩
      have e1 : u.h.get id = some (.cells cs el false) := (hag id rd_self).trans hg
      simp only [convertD, hsd, convSame, hs, hu, e1]
    | false =>
      simp only [hsd] at h
      unfold convSlice at h
      split at h
      case h_2 => cases h
      rename_i e hs hd
      split at h
      case h_2 => cases h
      rename_i hu
      split at h
      · cases h
        exact ⟨G1.refl _, fun u _ hbe _ _ => ⟨u, by simp only [convertD, hsd, hd, convSlice, hs, hu], PW.refl hbe⟩⟩
      · rename_i id off
        split at h
        case h_2 => cases h
        rename_i cs e' ro hg
        split at h
        case h_2 => cases h
        rename_i r' hr
        split at h
        case h_2 => cases h
        rename_i bs hbs
        cases h
        refine ⟨G1.read hg, fun u _ hbe hag _ => ⟨u.read id, ?_, PW.read hbe id⟩⟩
        have e1 : u.h.get id = some (.cells cs e' ro) := (hag id rd_self).trans hg
        simp only [convertD, hsd, hd, convSlice, hs, hu, e1, hr, hbs]
      · cases h
  · rename_i a
    unfold convPtr at h
    split at h
    · rename_i t hs hd
      split at h
      · cases h
        exact ⟨G1.refl _, fun u _ hbe _ _ => ⟨u, by simp only [convertD, hd, convPtr, hs], PW.refl hbe⟩⟩
      · rename_i id off
        split at h
        case h_2 => cases h
        rename_i cs e ro n hg hn
        split at h
        case isFalse => cases h
        rename_i hc
        cases h
        refine ⟨G1.read hg, fun u _ hbe hag _ => ⟨u.read id, ?_, PW.read hbe id⟩⟩
        have e1 : u.h.get id = some (.cells cs e ro) := (hag id rd_self).trans hg
        simp only [convertD, hd, convPtr, hs, e1, hn, hc, if_true]
      · cases h
    · rename_i t hs hd
      split at h
      · cases h
        exact ⟨G1.refl _, fun u _ hbe _ _ => ⟨u, by simp only [convertD, hd, convPtr, hs], PW.refl hbe⟩⟩
      · rename_i id
        split at h
        case h_2 => cases h
        rename_i cs e ro n hg hn
        split at h
        case isFalse => cases h
        rename_i hc
        cases h
        refine ⟨G1.read hg, fun u _ hbe hag _ => ⟨u.read id, ?_, PW.read hbe id⟩⟩
        have e1 : u.h.get id = some (.cells cs e ro) := (hag id rd_self).trans hg
        simp only [convertD, hd, convPtr, hs, e1, hn, hc, if_true]
      · cases h
    · cases h
  · unfold convEmp at h
    split at h
    case h_2 => cases h
    rename_i e hs hd
    split at h
    case h_2 => cases h
    rename_i hu
    cases h
    exact ⟨G1.refl _, fun u _ hbe _ _ => ⟨u, by simp only [convertD, hd, convEmp, hs, hu], PW.refl hbe⟩⟩
  · rename_i n1 n2 n3 n4
    split at h
    case isFalse => cases h
    rename_i hf
    split at h
    case h_2 => cases h
    rename_i r hr
    split at h
    case isFalse => cases h
    rename_i hfr
    cases h
    refine ⟨G1.refl _, fun u _ hbe _ _ => ⟨u, ?_, PW.refl hbe⟩⟩
    unfold convertD
    split
    · exact absurd rfl (n1 _)
    · exact absurd rfl (n2 _ _ _)
    · exact absurd rfl (n3 _)
    · exact absurd rfl n4
    · simp only [hf, if_true, hr, hfr]
theorem unsafeStringD_tr (pt : Option TypeDesc) (args : List Value) : Tr (fun s => unsafeStringD P s pt args) := by
  intro s v s' h
  simp only at h
  unfold unsafeStringD at h
  split at h
  case h_2 => cases h
  rename_i a k n
  split at h
  · split at h
    case isFalse => cases h
    rename_i hn
    cases h
    exact ⟨G1.refl _, fun u _ hbe _ _ => ⟨u, by simp only [unsafeStringD, hn, if_true], PW.refl hbe⟩⟩
  · rename_i id off
    split at h
    case h_2 => cases h
    rename_i ut cs e hg
    split at h
    case isFalse => cases h
    rename_i hn
    split at h
    case isFalse => cases h
    rename_i hc
    split at h
    case h_2 => cases h
    rename_i r' hr
    split at h
    case h_2 => cases h
    rename_i bs hbs
    cases h
    refine ⟨G1.write hg, fun u _ hbe hag _ => ⟨u.write id _, ?_, PW.write hbe id _⟩⟩
    have e1 : u.h.get id = some (.cells cs e false) := (hag id rd_self).trans hg
    simp only [unsafeStringD, e1, if_pos hn, hc, if_true, hr, hbs]
  · cases h
theorem opBuiltin_tr (b : Builtin) (ts : Array TypeId) (type : TypeId) (xs : Array Operand) (l : Tmps) : Tr (opBuiltin P b ts type xs l) := by
  show Tr (fun s => builtinD P s b ts type (evalL l xs.toList))
  cases b
  case append => exact appendD_tr ts _
  case copy => exact copyD_tr ts _
  case clear => exact clearD_tr ts _
  case len =>
    cases ht : ts.toList with
    | nil => exact none_tr fun s => by simp only [builtinD, ht]
    | cons t r => cases hx : evalL l xs.toList with
      | nil => exact none_tr fun s => by simp only [builtinD, ht]
      | cons x xs => exact pure_tr ((lenB P (typ P t) x).map fun n => .int .i64 n) fun s => by simp only [builtinD, ht, ofN]; cases lenB P (typ P t) x <;> rfl
  case cap =>
    cases ht : ts.toList with
    | nil => exact none_tr fun s => by simp only [builtinD, ht]
    | cons t r => cases hx : evalL l xs.toList with
      | nil => exact none_tr fun s => by simp only [builtinD, ht]
      | cons x xs => exact pure_tr ((capB (typ P t) x).map fun n => .int .i64 n) fun s => by simp only [builtinD, ht, ofN]; cases capB (typ P t) x <;> rfl
  case unsafeSliceData =>
    intro s v s' h
    simp only [builtinD] at h
    unfold sliceDataD at h
    split at h
    case h_2 => cases h
    rename_i a n c hx
    split at h
    · cases h
      exact ⟨G1.refl _, fun u _ hbe _ _ => ⟨u, by simp only [builtinD, sliceDataD, hx], PW.refl hbe⟩⟩
    · split at h
      · rename_i h1
        split at h
        case isFalse => cases h
        rename_i h2
        cases h
        exact ⟨G1.refl _, fun u _ hbe _ _ => ⟨u, by simp only [builtinD, sliceDataD, hx, h1, h2, if_true], PW.refl hbe⟩⟩
      · rename_i h1
        split at h
        case isFalse => cases h
        rename_i h2
        cases h
        exact ⟨G1.refl _, fun u _ hbe _ _ => ⟨u, by simp only [builtinD, sliceDataD, hx, h1, h2, if_true]; rfl, PW.refl hbe⟩⟩
  case unsafeString =>
    cases ht : ts.toList with
    | nil => exact none_tr fun s => by simp only [builtinD, ht]
    | cons t r =>
      have : (fun s => builtinD P s .unsafeString ts type (evalL l xs.toList)) = fun s => unsafeStringD P s (typ P t) (evalL l xs.toList) := by funext s; simp only [builtinD, ht]
      rw [this]; exact unsafeStringD_tr _ _
  case min =>
    intro s v s' h
    simp only [builtinD] at h
    unfold minMaxD at h
    split at h
    · rename_i h1
      split at h
      · rename_i r hr
        split at h
        · rename_i h3
          cases h
          exact ⟨G1.refl _, fun u _ hbe _ _ => ⟨u, by simp only [builtinD, minMaxD, h1, hr, h3], PW.refl hbe⟩⟩
        · cases h
      · cases h
    · cases h
  case max =>
    intro s v s' h
    simp only [builtinD] at h
    unfold minMaxD at h
    split at h
    · rename_i h1
      split at h
      · rename_i r hr
        split at h
        · rename_i h3
          cases h
          exact ⟨G1.refl _, fun u _ hbe _ _ => ⟨u, by simp only [builtinD, minMaxD, h1, hr, h3], PW.refl hbe⟩⟩
        · cases h
      · cases h
    · cases h
  all_goals exact none_tr fun s => rfl
theorem opUn_tr (op : UnOp) (x : Operand) (l : Tmps) : Tr (opUn P op x l) := by
  intro s v s' h
  unfold opUn at h
  split at h
  · rename_i h1
    split at h
    · rename_i r hr
      split at h
      · rename_i h3
        cases h
        exact ⟨G1.refl _, fun u _ hbe _ _ => ⟨u, by simp only [opUn, h1, hr, h3], PW.refl hbe⟩⟩
      · cases h
    · cases h
  · cases h
theorem opMakeMap_tr (r : Option Operand) (l : Tmps) : Tr (opMakeMap r l) := by
  cases r with
  | none => exact new_tr (some (.ob (.mp [] 0), fun n => .map (some n))) fun s => rfl
  | some _ => exact none_tr fun s => rfl
theorem lookupD_tr (d : Option TypeDesc) (x k : Value) (ok : Bool) : Tr (fun s => lookupD P s d x k ok) := by
  intro s v s' h
  simp only at h
  unfold lookupD at h
  split at h
  case h_2 => cases h
  rename_i kt e
  split at h
  case h_2 => cases h
  rename_i hk
  unfold mapOf at h
  split at h
  case h_2 => cases h
  rename_i r hr
  obtain ⟨es, s1⟩ := r
  split at h
  case h_2 => cases h
  rename_i v' hv
  cases h
  split at hr
  case h_2 => cases hr
  rename_i a
  split at hr
  · cases hr
    exact ⟨G1.refl _, fun u _ hbe _ _ => ⟨u, by simp only [lookupD, hk, mapOf, hv], PW.refl hbe⟩⟩
  · rename_i id
    split at hr
    case h_2 => cases hr
    rename_i o hg
    split at hr
    case h_2 => cases hr
    rename_i es' ck
    cases hr
    refine ⟨G1.read hg, fun u _ hbe hag _ => ⟨u.read id, ?_, PW.read hbe id⟩⟩
    have e1 : u.h.get id = some (.ob (.mp es ck)) := (hag id rd_self).trans hg
    simp only [lookupD, hk, mapOf, e1, hv]
theorem updateD_tr (d : Option TypeDesc) (x k v : Value) : Tr (fun s => updateD P s d x k v) := by
  intro s a s' h
  simp only at h
  unfold updateD at h
  split at h
  case h_2 => cases h
  rename_i kt e id
  split at h
  case h_2 => cases h
  rename_i hk
  split at h
  case h_2 => cases h
  rename_i o hg
  split at h
  case h_2 => cases h
  rename_i es ck
  split at h
  case h_2 => cases h
  rename_i es' hu
  cases h
  refine ⟨G1.write hg, fun u _ hbe hag _ => ⟨u.write id _, ?_, PW.write hbe id _⟩⟩
  have e1 : u.h.get id = some (.ob (.mp es ck)) := (hag id rd_self).trans hg
  simp only [updateD, hk, e1, hu]
theorem rangeD_tr (d : Option TypeDesc) (x : Value) : Tr (fun s => rangeD s d x) := by
  intro s v s' h
  simp only at h
  unfold rangeD at h
  split at h
  case h_2 => cases h
  rename_i kt e a
  split at h
  · cases h
    exact ⟨G1.new _ _, fun u _ hbe _ _ => ⟨u.new _, by simp only [rangeD, hbe.next], PW.new hbe _⟩⟩
  · rename_i id
    split at h
    case h_2 => cases h
    rename_i o hg
    split at h
    case h_2 => cases h
    rename_i es ck
    cases h
    refine ⟨(G1.read hg).trans (G1.new _ _), fun u _ hbe hag _ => ⟨(u.read id).new _, ?_, (PW.read hbe id).trans (PW.new (PW.read hbe id).beside _)⟩⟩
    have e1 : u.h.get id = some (.ob (.mp es ck)) := (hag id rd_self).trans hg
    simp only [rangeD, e1, hbe.next]
theorem nextD_tr (x : Value) (str : Bool) : Tr (fun s => nextD s x str) := by
  intro s v s' h
  simp only at h
  unfold nextD at h
  split at h
  case h_2 => cases h
  rename_i r
  split at h
  case h_2 => cases h
  rename_i o hg
  split at h
  case h_2 => cases h
  rename_i m since seen last
  unfold nextIt at h
  split at h
  · cases h
    refine ⟨G1.read hg, fun u _ hbe hag _ => ⟨u.read r, ?_, PW.read hbe r⟩⟩
    have e1 : u.h.get r = some (.ob (.it none since seen last)) := (hag r rd_self).trans hg
    simp only [nextD, e1, nextIt]
  · rename_i id
    split at h
    case h_2 => cases h
    rename_i o2 hg2
    split at h
    case h_2 => cases h
    rename_i es ck
    unfold nextGo at h
    split at h
    case h_2 => cases h
    rename_i hc
    split at h
    · rename_i hl
      cases h
      have hg2' : (s.read r).h.get id = some (.ob (.mp es ck)) := hg2
      refine ⟨(G1.read hg).trans (G1.read hg2'), fun u _ hbe hag _ => ⟨(u.read r).read id, ?_, (PW.read hbe r).trans (PW.read (PW.read hbe r).beside id)⟩⟩
      have e1 : u.h.get r = some (.ob (.it (some id) since seen last)) := (hag r (bit_or.2 (.inl rd_self))).trans hg
      have e2 : u.h.get id = some (.ob (.mp es ck)) := (hag id rd_self).trans hg2
      simp only [nextD, e1, nextIt, e2, nextGo, hc, hl]
    · rename_i e t hl
      split at h
      case h_2 => cases h
      cases h
      have hg1 : (s.read id).h.get r = some (.ob (.it (some id) since seen last)) := hg
      refine ⟨(G1.read hg2).trans (G1.write hg1), fun u _ hbe hag _ => ⟨(u.read id).write r _, ?_, (PW.read hbe id).trans (PW.write (PW.read hbe id).beside r _)⟩⟩
      have e1 : u.h.get r = some (.ob (.it (some id) since seen last)) := (hag r rd_self).trans hg
      have e2 : u.h.get id = some (.ob (.mp es ck)) := (hag id (bit_or.2 (.inl rd_self))).trans hg2
      simp only [nextD, e1, nextIt, e2, nextGo, hc, hl]
theorem entryD_tr (x : Value) : Tr (fun s => entryD s x) := by
  intro s v s' h
  simp only at h
  unfold entryD at h
  split at h
  case h_2 => cases h
  rename_i r
  split at h
  case h_2 => cases h
  rename_i o hg
  split at h
  case h_2 => cases h
  rename_i m since seen last
  unfold entryIt at h
  split at h
  case h_1 => cases h
  rename_i id
  split at h
  case h_2 => cases h
  rename_i o2 hg2
  split at h
  case h_2 => cases h
  rename_i es ck
  unfold entryGo at h
  split at h
  case h_2 => cases h
  rename_i n hc hn
  split at h
  case h_2 => cases h
  rename_i e he
  cases h
  have hg2' : (s.read r).h.get id = some (.ob (.mp es ck)) := hg2
  refine ⟨(G1.read hg).trans (G1.read hg2'), fun u _ hbe hag _ => ⟨(u.read r).read id, ?_, (PW.read hbe r).trans (PW.read (PW.read hbe r).beside id)⟩⟩
  have e1 : u.h.get r = some (.ob (.it (some id) since seen last)) := (hag r (bit_or.2 (.inl rd_self))).trans hg
  have e2 : u.h.get id = some (.ob (.mp es ck)) := (hag id rd_self).trans hg2
  simp only [entryD, e1, entryIt, e2, entryGo, hc, hn, he]
theorem opD_tr {call : Call} (hc : ∀ f args, Tr (call f args)) (o : Oper) (l : Tmps) : Tr (opD P call o l) := by
  unfold opD
  cases hop : o.op
  case move x => exact opMove_tr _ _
  case assign x => exact opMove_tr _ _
  case pick c a b => exact opPick_tr _ _ _ _
  case alloc e => exact opAlloc_tr _ _
  case box e x => exact opBox_tr _ _ _
  case build t ps => exact ofV_tr _
  case buildSlice t n ps => exact opBuildSlice_tr _ _ _ _
  case load t a => exact opLoad_tr _ _ _
  case store t a x => exact opStore_tr _ _ _ _
  case nilCheck x =>
    cases hv : evalO l x with
    | pointer a => cases a with
      | none => exact none_tr fun s => by simp [opNilCheck, hv]
      | some a => exact pure_tr (some (.pointer (some a))) fun s => by simp [opNilCheck, hv]
    | func f a b => cases f with
      | func f => exact pure_tr (some (.func (.func f) a b)) fun s => by simp [opNilCheck, hv]
      | _ => exact none_tr fun s => by simp [opNilCheck, hv]
    | _ => exact none_tr fun s => by simp [opNilCheck, hv]
  case binOp op t x y yt => exact ofV_tr _
  case unOp op xt x => exact opUn_tr _ _ _
  case convert a b x => exact convertD_tr _ _ _
  case makeInterface t x =>
    cases ht : typ P t with
    | none => exact none_tr fun s => by simp only [opMakeInterface, ht]
    | some d =>
      cases d
      case interface => exact none_tr fun s => by simp only [opMakeInterface, ht]
      all_goals exact pure_tr (some (.iface t (evalO l x))) fun s => by simp only [opMakeInterface, ht]
  case makeFunc fn a b => exact pure_tr (some _) fun s => rfl
  case makeSlice t n c => exact opMakeSlice_tr _ _ _ _
  case slice t x lo hi mx => exact ofV_tr _
  case fieldAddr t x f => exact ofV_tr _
  case field t x f => exact ofV_tr _
  case indexAddr t x i => exact ofV_tr _
  case index t x i => exact ofV_tr _
  case extract t i =>
    show Tr (opExtract t i l)
    cases hv : evalO l t with
    | tuple vs => cases hl : vs.toList with
      | nil => exact none_tr fun s => by simp only [opExtract, hv, hl]
      | cons w ws =>
        have : opExtract t i l = ofV (nth (w :: ws) i) := by funext s; simp only [opExtract, hv, hl]
        rw [this]; exact ofV_tr _
    | _ => exact none_tr fun s => by simp only [opExtract, hv]
  case makeMap t r => exact opMakeMap_tr _ _
  case lookup t x k ok => exact lookupD_tr _ _ _ _
  case mapUpdate t x k v => exact updateD_tr _ _ _ _
  case range t x => exact rangeD_tr _ _
  case next x str => exact nextD_tr _ _
  case entry x => exact entryD_tr _
  case call c =>
    show Tr (opCall P call c o.type l)
    unfold opCall
    cases hcal : c.callee with
    | builtin b => exact opBuiltin_tr _ _ _ _ _
    | value f =>
      show Tr (opCallV call f c.args l)
      cases hv : evalO l f with
      | func g first cap => cases g with
        | func g =>
          have : opCallV call f c.args l = call g (first.toList ++ (evalL l c.args.toList ++ cap.toList)) := by funext s; simp only [opCallV, hv]
          rw [this]; exact hc _ _
        | _ => exact none_tr fun s => by simp only [opCallV, hv]
      | _ => exact none_tr fun s => by simp only [opCallV, hv]
    | invoke _ _ => exact none_tr fun s => rfl
  all_goals exact none_tr fun s => rfl
end Go.Det
end

section
/- A part of an evaluator of closed runs and of its soundness. -/
namespace Go.Det
variable {P : Program}
def Glob (G : Nat) (φ : Ren) : Prop := ∀ g, g < G → ∃ sz, φ g = some (g, 0, sz)
theorem Glob.mono {G : Nat} {φ φ' : Ren} (h : Glob G φ) (k : Le φ φ') : Glob G φ' := fun g hg => let ⟨sz, e⟩ := h g hg; ⟨sz, k _ _ e⟩
def CallOk (P : Program) (w0 : World) (G : Nat) (call : Call) : Prop :=
  ∀ f args s v s', call f args s = some (v, s') → ∀ φ w args', HR φ s.h w0 w → Glob G φ → VRL φ args args' → (∀ id, s.next ≤ id → id < s'.hi → φ id = none) → Full s'.hi s →
    Gives P w0 φ s.next s' v ((callFunc f ⟨args'⟩).run P w)
section
variable {w0 w : World} {φ : Ren} {l : Tmps} {s s' : St} {v : Value} {ρ : Operand → Value} {lo G : Nat} {call : Call}
theorem opD_ok (hcall : CallOk P w0 G call) (hT : ∀ f args, Tr (call f args)) {o : Oper} (h : opD P call o l s = some (v, s')) (H : HR φ s.h w0 w) (hG : Glob G φ)
    (hρ : ∀ x ∈ o.op.operands.toList, VR φ (evalO l x) (ρ x)) (hf : ∀ id, s.next ≤ id → id < s'.hi → φ id = none) (hi : Full s'.hi s) : Gives P w0 φ s.next s' v ((execOp ρ o).run P w) := by
  have hg1 := (opD_tr (P := P) hT o l s v s' h).1
  have hf' : ∀ id, s.next ≤ id → id < s'.next → φ id = none := fun id a b => hf id a (Nat.lt_of_lt_of_le b (hg1.inv hi.le))
  unfold opD at h
  unfold execOp
  cases hop : o.op <;> rw [hop] at h hρ <;> simp only [Op.operands] at hρ <;> simp only at h ⊢
  case move x => exact opMove_ok h H (hρ x (by simp))
  case assign x => exact opMove_ok h H (hρ x (by simp))
  case pick c a b => exact opPick_ok h H (hρ c (by simp)) (hρ a (by simp)) (hρ b (by simp))
  case alloc e => exact opAlloc_ok h H hf'
  case box e x => exact opBox_ok h H hf' (hρ x (by simp))
  case build t ps => exact opBuild_ok h H fun x hx => hρ x.2 (by simp; exact ⟨x.1, by simpa using hx⟩)
  case buildSlice t n ps => exact opBuildSlice_ok h H hf' fun x hx => hρ x.2 (by simp; exact ⟨x.1, by simpa using hx⟩)
  case load t a => exact (opLoad_ok h H (hρ a (by simp))).1
  case store t a x => exact opStore_ok h H (hρ a (by simp)) (hρ x (by simp))
  case nilCheck x =>
    have := opNilCheck_ok (P := P) (ρ := ρ) (lo := s.next) (o := o) h H (hρ x (by simp)) hop
    unfold execOp at this
    rw [hop] at this
    exact this
  case binOp op t x y yt => exact opBin_ok h H (hρ x (by simp)) (hρ y (by simp))
  case unOp op xt x => exact opUn_ok h H (hρ x (by simp))
  case convert a b x => exact (opConvert_ok h H hf' (hρ x (by simp))).1
  case makeInterface t x => exact opMakeInterface_ok h H (hρ x (by simp))
  case makeFunc fn a b => exact opMakeFunc_ok h H (fun x hx => hρ x (by simp at hx ⊢; exact .inl hx)) (fun x hx => hρ x (by simp at hx ⊢; exact .inr hx))
  case makeSlice t n c => exact opMakeSlice_ok h H hf' (hρ n (by simp)) (hρ c (by simp))
  case slice t x lo hi mx => exact opSlice_ok h H (hρ x (by simp)) (fun y hy => hρ y (by subst hy; simp)) (fun y hy => hρ y (by subst hy; simp)) (fun y hy => hρ y (by subst hy; simp))
  case fieldAddr t x f => exact opFieldAddr_ok h H (hρ x (by simp))
  case field t x f => exact opField_ok h H (hρ x (by simp))
  case indexAddr t x i => exact opIndexAddr_ok h H (hρ x (by simp)) (hρ i (by simp))
  case index t x i => exact opIndex_ok h H (hρ x (by simp)) (hρ i (by simp))
  case extract t i => exact opExtract_ok h H (hρ t (by simp))
  case makeMap t r => exact opMakeMap_ok h H hf'
  case lookup t x k ok => exact opLookup_ok h H (hρ x (by simp)) (hρ k (by simp))
  case range t x => exact opRange_ok h H hf' (hρ x (by simp))
  case next x str => exact opNext_ok h H (hρ x (by simp))
  case entry x => exact opEntry_ok h H (hρ x (by simp))
  case mapUpdate t x k v => exact opMapUpdate_ok h H (hρ x (by simp)) (hρ k (by simp)) (hρ v (by simp))
  case call c =>
    unfold opCall at h
    unfold resolve
    cases hcal : c.callee with
    | builtin b =>
      simp only [hcal] at h hρ ⊢
      simp only [Sem.run_bind, Sem.run_pure, Result.andThen_ok, invoke]
      exact (opBuiltin_ok (P := P) (ρ := ρ) h H hf' (fun x hx => hρ x (by simp [Call.operands, hcal]; simpa using hx))).1
    | value f =>
      simp only [hcal] at h hρ ⊢
      unfold opCallV at h
      split at h
      case h_2 => cases h
      rename_i g first cap hv
      split at h
      case h_2 => cases h
      rename_i g
      have hff := hρ f (by simp [Call.operands, hcal])
      rw [hv] at hff
      obtain ⟨a', c', e, q1, q2⟩ := func_inv hff
      have hargs : VRL φ (evalL l c.args.toList) (c.args.map ρ).toList := by
        rw [Array.toList_map]; exact evalL_ok fun x hx => hρ x (by simp [Call.operands, hcal]; right; simpa using hx)
      have hall := q1.append (hargs.append q2)
      have g1 := hcall _ _ _ _ _ h φ w _ H hG hall hf hi
      have e2 : (⟨a'.toList ++ ((c.args.map ρ).toList ++ c'.toList)⟩ : Array Value) = (a' ++ c.args.map ρ) ++ c' := by apply Array.ext'; simp
      rw [e2] at g1
      simpa [e, Deferred.ofValue, invoke] using g1
    | invoke r m => simp only [hcal] at h; cases h
  all_goals cases h
end
end Go.Det
end

section
/- A part of an evaluator of closed runs and of its soundness. -/
namespace Go.Det
variable {P : Program}
noncomputable def obind {α β : Type} (r : Option (α × St)) (g : α → St → Option (β × St)) : Option (β × St) := match r with
  | some x => g x.1 x.2
  | none => none
noncomputable def omap {α β : Type} (r : Option (α × St)) (g : α → β) : Option (β × St) := match r with
  | some x => some (g x.1, x.2)
  | none => none
noncomputable def asc (r : Option (Ex × Tmps × St)) : Option ((Ex × Tmps) × St) := match r with
  | some x => some ((x.1, x.2.1), x.2.2)
  | none => none
theorem Tr.congr {α : Type} {f g : St → Option (α × St)} (h : Tr f) (e : ∀ s, g s = f s) : Tr g := by
  have : g = f := funext e
  rw [this]; exact h
theorem Tr.obind {α β : Type} {f : St → Option (α × St)} {g : α → St → Option (β × St)} (hf : Tr f) (hg : ∀ a, Tr (g a)) : Tr (fun s => Det.obind (f s) g) :=
  (Tr.bind hf hg).congr fun s => by
    unfold Det.obind
    cases f s <;> rfl
theorem Tr.map {α β : Type} {f : St → Option (α × St)} (hf : Tr f) (g : α → β) : Tr (fun s => match f s with | some x => some (g x.1, x.2) | none => none) := by
  intro s b s' h
  simp only at h
  split at h
  case h_2 => cases h
  rename_i x hx
  obtain ⟨a, s1⟩ := x
  cases h
  obtain ⟨g1, k⟩ := hf s a s1 hx
  refine ⟨g1, fun t h1 h2 h3 h4 => ?_⟩
  obtain ⟨t', e, p⟩ := k t h1 h2 h3 h4
  exact ⟨t', by simp only [e], p⟩
theorem Tr.omap {α β : Type} {f : St → Option (α × St)} (hf : Tr f) (g : α → β) : Tr (fun s => Det.omap (f s) g) :=
  (Tr.map hf g).congr fun s => by
    unfold Det.omap
    cases f s <;> rfl
theorem nextOp_tr {f : St → Option (Value × St)} {ih : Tmps → St → Option (Tmps × St)} (hf : Tr f) (hi : ∀ l, Tr (ih l)) (l : Tmps) (d : Option Tmp) : Tr (fun s => nextOp l d ih (f s)) := by
  exact (Tr.obind hf (fun v => hi (putD l d v))).congr fun s => by unfold nextOp Det.obind; cases f s <;> rfl
theorem opsD_nil (call : Call) (all : List Oper) (l : Tmps) (s : St) : opsD P call all [] l s = some (l, s) := rfl
theorem opsD_cons (call : Call) (all : List Oper) (o : Oper) (rest : List Oper) (l : Tmps) (s : St) :
    opsD P call all (o :: rest) l s = opsStep (opD P call o) o.dst (fun l => wantedD all l o) (opsD P call all rest) l s := rfl
theorem opsD_tr {call : Call} (hc : ∀ f args, Tr (call f args)) (all : List Oper) : ∀ (ops : List Oper) (l : Tmps), Tr (opsD P call all ops l)
  | [], l => pure_tr (some l) fun _ => rfl
  | o :: rest, l => by
    cases hw : wantedD all l o with
    | none => exact none_tr fun s => by rw [opsD_cons]; simp only [opsStep, hw]
    | some b => cases b with
      | true =>
        have e : opsD P call all (o :: rest) l = fun s => nextOp l o.dst (opsD P call all rest) (opD P call o l s) := by funext s; rw [opsD_cons]; simp only [opsStep, hw]
        rw [e]; exact nextOp_tr (opD_tr hc o l) (opsD_tr hc all rest) l o.dst
      | false =>
        have e : opsD P call all (o :: rest) l = opsD P call all rest (putD l o.dst skp) := by funext s; rw [opsD_cons]; simp only [opsStep, hw]
        rw [e]; exact opsD_tr hc all rest _
noncomputable def solo (s : St) : St := { h := s.h, next := s.next, hi := s.next, rd := 0, wr := 0 }
noncomputable def merge (s x : St) : St := { h := x.h, next := x.hi, hi := Nat.max s.hi x.hi, rd := Nat.lor s.rd x.rd, wr := Nat.lor s.wr x.wr }
theorem G1.solo {s x : St} (g : G1 (solo s) x) : G1 s (merge s x) := by
  have hi : x.next ≤ x.hi := g.inv (Nat.le_refl _)
  have hn : s.next ≤ x.next := g.next
  refine ⟨Nat.le_trans hn hi, Nat.le_max_left _ _, fun _ => Nat.le_max_right _ _, fun i q => bit_or.2 (.inl q), fun i q => bit_or.2 (.inl q), fun i q => g.frame i fun r => q (bit_or.2 (.inr r)), fun i q => ?_, fun i q => g.keep i q, fun i q => ?_, fun i q => ?_⟩
  · rcases g.dom i q with r | r
    · exact .inl r
    · right; exact ⟨r.1, Nat.lt_of_lt_of_le r.2 hi⟩
  · rcases bit_or.1 q with r | r
    · exact .inl r
    · rcases g.oldw i r with r | ⟨r1, r2⟩ | r
      · exact absurd r bit_zero
      · exact .inr (.inl ⟨bit_or.2 (.inr r1), r2⟩)
      · right; right; exact ⟨r.1, Nat.lt_of_lt_of_le r.2 hi⟩
  · rcases bit_or.1 q with r | r
    · exact .inl r
    · rcases g.oldr i r with r | r | r
      · exact absurd r bit_zero
      · exact .inr (.inl r)
      · right; right; exact ⟨r.1, Nat.lt_of_lt_of_le r.2 hi⟩
noncomputable def osolo {α : Type} (s : St) (r : Option (α × St)) : Option ((α × Nat × Nat) × St) := match r with
  | some x => some ((x.1, x.2.rd, x.2.wr), merge s x.2)
  | none => none
theorem Tr.solo {α : Type} {f : St → Option (α × St)} (hf : Tr f) : Tr (fun s => osolo s (f (Det.solo s))) := by
  intro s a s' h
  simp only at h
  unfold osolo at h
  split at h
  case h_2 => cases h
  rename_i x hx
  obtain ⟨v, y⟩ := x
  cases h
  obtain ⟨g, k⟩ := hf _ _ _ hx
  refine ⟨g.solo, fun t hF hb hr hn => ?_⟩
  obtain ⟨t', e, p⟩ := k (Det.solo t) ⟨Nat.le_refl _, fun i hi hB => hF.get i hi (Nat.lt_of_lt_of_le hB (Nat.le_max_right _ _))⟩ ⟨hb.next, hb.next, rfl, rfl⟩ (fun i q => hr i (bit_or.2 (.inr q))) (fun i q1 q2 => hn i q1 (Nat.lt_of_lt_of_le q2 (Nat.le_max_right _ _)))
  refine ⟨merge t t', by simp only [osolo, e, p.rd, p.wr], ⟨?_, ?_, ?_, ?_, p.pt⟩⟩
  · exact p.hi
  · show Nat.max t.hi t'.hi = Nat.max s.hi y.hi; rw [hb.hi, p.hi]
  · show Nat.lor t.rd t'.rd = Nat.lor s.rd y.rd; rw [hb.rd, p.rd]
  · show Nat.lor t.wr t'.wr = Nat.lor s.wr y.wr; rw [hb.wr, p.wr]
theorem drawD_nil (call : Call) (all : List Oper) (done : List Foot) (sl : List Soft) (l : Tmps) (s : St) : drawD P call all [] done sl l s = some (l, s) := rfl
theorem drawD_cons (call : Call) (all : List Oper) (o : Oper) (rest : List Oper) (done : List Foot) (sl : List Soft) (l : Tmps) (s : St) :
    drawD P call all (o :: rest) done sl l s = (match edgesOk done.length o.after.toList with
      | true => drawStep P all o done sl (drawD P call all rest) l s (wantRun (opD P call o) (fun l => wantedD all l o) l (solo s))
      | false => none) := rfl
theorem wantRun_tr {f : OpF} (w : Tmps → Option Bool) (l : Tmps) (hf : Tr (f l)) : Tr (wantRun f w l) := by
  cases hw : w l with
  | none => exact none_tr fun s => by simp only [wantRun, hw]
  | some b => cases b with
    | true =>
      have : wantRun f w l = f l := by funext s; simp only [wantRun, hw]
      rw [this]; exact hf
    | false => exact pure_tr (some skp) fun s => by simp only [wantRun, hw]
noncomputable def footOf (all : List Oper) (o : Oper) (done : List Foot) (rd wr : Nat) : Foot := { rt := readsT all o, wt := writesT o, rd := rd, wr := wr, before := beforeOf done o.after.toList }
theorem softOne_tr (x : Option Soft) : Tr (fun s => match softOne P x s with | some s' => some ((), s') | none => none) := by
  cases x with
  | none => exact none_tr fun s => rfl
  | some y => cases y with
    | none => exact none_tr fun s => rfl
    | some z =>
      obtain ⟨ty, a, v⟩ := z
      refine (Tr.obind (loadD_tr (P := P) ty a) (g := fun r s => match sameV v r with | true => some ((), s) | false => none) fun r => ?_).congr fun s => ?_
      · cases sameV v r with
        | true => exact pure_tr (some ()) fun s => rfl
        | false => exact none_tr fun s => rfl
      · simp only [Det.obind, softOne]
        cases hl : loadD P s ty a with
        | none => rfl
        | some r => simp only; cases sameV v r.1 <;> rfl
theorem softGo_tr (f : Foot) : ∀ (done : List Foot) (i : Nat) (sl : List Soft), Tr (fun s => match softGo P f i done sl s with | some s' => some ((), s') | none => none)
  | [], i, sl => pure_tr (some ()) fun s => by simp only [softGo]
  | g :: t, i, sl => by
    cases h1 : (Nat.testBit f.before i || apart g f) with
    | true => exact (softGo_tr f t (i + 1) sl.tail).congr fun s => by simp only [softGo, h1]
    | false => cases h2 : apartS g f with
      | false => exact none_tr fun s => by simp only [softGo, h1, h2]
      | true =>
        refine (Tr.obind (softOne_tr (P := P) sl.head?) (g := fun _ s => match softGo P f (i + 1) t sl.tail s with | some s' => some ((), s') | none => none) fun _ => softGo_tr f t (i + 1) sl.tail).congr fun s => ?_
        simp only [Det.obind, softGo, h1, h2]
        cases softOne P sl.head? s <;> rfl
noncomputable def drawNext (call : Call) (all : List Oper) (o : Oper) (rest : List Oper) (done : List Foot) (sl : List Soft) (l : Tmps) (a : Value × Nat × Nat) (s : St) : Option (Tmps × St) :=
  drawGo P (footOf all o done a.2.1 a.2.2) done sl (drawD P call all rest (done ++ [footOf all o done a.2.1 a.2.2]) (sl ++ [softOf all o l a.1])) (putD l o.dst a.1) s
theorem drawD_tr {call : Call} (hc : ∀ f args, Tr (call f args)) (all : List Oper) : ∀ (ops : List Oper) (done : List Foot) (sl : List Soft) (l : Tmps), Tr (drawD P call all ops done sl l)
  | [], _, _, l => pure_tr (some l) fun _ => rfl
  | o :: rest, done, sl, l => by
    cases he : edgesOk done.length o.after.toList with
    | false => exact none_tr fun s => by rw [drawD_cons]; simp only [he]
    | true =>
      refine (Tr.obind (Tr.solo (wantRun_tr (f := opD P call o) (fun l => wantedD all l o) l (opD_tr hc o l))) (g := drawNext (P := P) call all o rest done sl l) (fun a => ?_)).congr fun s => ?_
      · refine (Tr.obind (softGo_tr (P := P) (footOf all o done a.2.1 a.2.2) done 0 sl) (g := fun _ => drawD P call all rest (done ++ [footOf all o done a.2.1 a.2.2]) (sl ++ [softOf all o l a.1]) (putD l o.dst a.1)) fun _ => drawD_tr hc all rest _ _ _).congr fun s => ?_
        simp only [drawNext, drawGo, Det.obind]
        cases softGo P (footOf all o done a.2.1 a.2.2) 0 done sl s <;> rfl
      · rw [drawD_cons]
        simp only [he]
        unfold drawStep osolo Det.obind
        cases wantRun (opD P call o) (fun l => wantedD all l o) l (solo s) <;> rfl
def TrC (f : CodeF) : Prop := ∀ l, Tr (fun s => asc (f l s))
theorem ofTS_tr {f : St → Option (Tmps × St)} (hf : Tr f) : Tr (fun s => asc (ofTS (f s))) :=
  (hf.omap (fun l => (Ex.normal, l))).congr fun s => by unfold asc ofTS Det.omap; cases f s <;> rfl
noncomputable def seqNext (g : CodeF) (a : Ex × Tmps) (s : St) : Option ((Ex × Tmps) × St) := match a.1 with
  | .normal => asc (g a.2 s)
  | e => some ((e, a.2), s)
theorem cSeq_tr {f g : CodeF} (hf : TrC f) (hg : TrC g) : TrC (cSeq f g) := by
  intro l
  refine (Tr.obind (hf l) (g := seqNext g) (fun a => ?_)).congr fun s => ?_
  · obtain ⟨e, l1⟩ := a
    cases e with
    | normal => exact hg l1
    | exit i => exact pure_tr (some (Ex.exit i, l1)) fun _ => rfl
    | ret => exact pure_tr (some (Ex.ret, l1)) fun _ => rfl
  · unfold cSeq andThen
    cases f l s with
    | none => rfl
    | some x => obtain ⟨e, l1, s1⟩ := x; cases e <;> rfl
theorem cLoop_tr {f : CodeF} (hf : TrC f) : ∀ k, TrC (cLoop k f)
  | 0 => fun _ => none_tr fun _ => rfl
  | k + 1 => cSeq_tr hf (cLoop_tr hf k)
noncomputable def exOf (id : Nat) (a : Ex × Tmps) : Ex × Tmps := match a.1 with
  | .exit i => (match Nat.beq i id with | true => Ex.normal | false => Ex.exit i, a.2)
  | e => (e, a.2)
theorem cBlock_tr {f : CodeF} (hf : TrC f) (id : Nat) : TrC (cBlock id f) := by
  intro l
  refine ((hf l).omap (exOf id)).congr fun s => ?_
  unfold cBlock unblock
  cases f l s with
  | none => rfl
  | some x =>
    obtain ⟨e, l1, s1⟩ := x
    cases e with
    | exit i =>
      show asc (match Nat.beq i id with | true => some (Ex.normal, l1, s1) | false => some (Ex.exit i, l1, s1)) = some (exOf id (Ex.exit i, l1), s1)
      unfold exOf
      cases hb : Nat.beq i id <;> simp only [hb] <;> rfl
    | _ => rfl
theorem cCond_tr {f g : CodeF} (hf : TrC f) (hg : TrC g) (c : Operand) : TrC (cCond c f g) := by
  intro l
  cases hv : evalO l c with
  | bool b => cases b with
    | true => exact (hf l).congr fun s => by simp only [cCond, hv]
    | false => exact (hg l).congr fun s => by simp only [cCond, hv]
  | _ => exact none_tr fun s => by simp only [cCond, hv]; rfl
theorem codeD_tr {call : Call} (hc : ∀ f args, Tr (call f args)) (k : Nat) (c : Code) : TrC (codeD P call k c) := by
  induction c with
  | skip => exact fun l => pure_tr (some (Ex.normal, l)) fun _ => rfl
  | region id ops draw =>
    cases draw with
    | true => exact fun l => ofTS_tr (drawD_tr hc ops.toList ops.toList [] [] l)
    | false => exact fun l => ofTS_tr (opsD_tr hc ops.toList ops.toList l)
  | seq a b ha hb => exact cSeq_tr ha hb
  | cond c a b ha hb => exact cCond_tr ha hb c
  | block id a ha => exact cBlock_tr ha id
  | loop a ha => exact cLoop_tr ha k
  | exit id => exact fun l => pure_tr (some (Ex.exit id, l)) fun _ => rfl
  | ret => exact fun l => pure_tr (some (Ex.ret, l)) fun _ => rfl
  | _ => exact fun l => none_tr fun _ => rfl
end Go.Det
end

section
/- A part of an evaluator of closed runs and of its soundness. -/
namespace Go.Det
variable {P : Program}
theorem resD_nil (l : Tmps) (s : St) : resD P l s [] = some ([], s) := rfl
theorem resD_tmp (l : Tmps) (s : St) (t : Tmp) (rest : List ResultVar) : resD P l s (.tmp t :: rest) = match resD P l s rest with | some (vs, s) => some (lget l t :: vs, s) | none => none := rfl
theorem resD_cell (l : Tmps) (s : St) (a : Tmp) (t : TypeId) (rest : List ResultVar) : resD P l s (.cell a t :: rest) = match loadD P s t (lget l a) with
    | some (v, s) => (match resD P l s rest with | some (vs, s) => some (v :: vs, s) | none => none)
    | none => none := rfl
theorem resD_tr (l : Tmps) : ∀ rs, Tr (fun s => resD P l s rs)
  | [] => pure_tr (some []) fun _ => rfl
  | .tmp t :: rest => ((resD_tr l rest).omap (fun vs => lget l t :: vs)).congr fun s => by
      rw [resD_tmp]; unfold omap; cases resD P l s rest <;> rfl
  | .cell a t :: rest => (Tr.obind (loadD_tr t (lget l a)) (fun v => (resD_tr l rest).omap (fun vs => v :: vs))).congr fun s => by
      rw [resD_cell]; unfold obind omap
      cases loadD P s t (lget l a) with
      | none => rfl
      | some x => obtain ⟨v, s1⟩ := x; simp only; cases resD P l s1 rest <;> rfl
noncomputable def noWr (s : St) : St := { h := s.h, next := s.next, hi := s.hi, rd := s.rd, wr := 0 }
theorem Tr.gc {f : St → Option (Value × St)} (hf : Tr f) : Tr (fun s => match f (noWr s) with | some x => gcD s x.1 x.2 | none => none) := by
  intro s v s' h
  simp only at h
  split at h
  case h_2 => cases h
  rename_i x hx
  obtain ⟨v1, y⟩ := x
  simp only at h
  obtain ⟨g, k⟩ := hf _ _ _ hx
  unfold gcD at h
  cases hc : (flat v1 && (Nat.beq (Nat.mod y.wr (Nat.shiftLeft 1 s.next)) 0 && Nat.ble (Nat.lor y.rd y.wr + 1) (Nat.shiftLeft 1 y.next))) <;> rw [hc] at h <;> simp only [Option.some.injEq, Prod.mk.injEq] at h <;> obtain ⟨rfl, rfl⟩ := h
  · refine ⟨⟨g.next, g.hi, g.inv, g.rd, fun i q => bit_or.2 (.inl q), fun i q => g.frame i fun r => q (bit_or.2 (.inr r)), g.dom, g.keep, fun i q => ?_, g.oldr⟩, fun t hF hb hr hn => ?_⟩
    · rcases bit_or.1 q with r | r
      · exact .inl r
      · rcases g.oldw i r with r | r | r
        · exact absurd r bit_zero
        · exact .inr (.inl r)
        · exact .inr (.inr r)
    · obtain ⟨t', e, p⟩ := k (noWr t) ⟨hF.le, hF.get⟩ ⟨hb.next, hb.hi, hb.rd, rfl⟩ hr hn
      refine ⟨{ h := t'.h, next := t'.next, hi := t'.hi, rd := t'.rd, wr := Nat.lor t.wr t'.wr }, ?_, ⟨p.next, p.hi, p.rd, ?_, p.pt⟩⟩
      · simp only [e]
        unfold gcD
        have hc' : (flat v1 && (Nat.beq (Nat.mod t'.wr (Nat.shiftLeft 1 t.next)) 0 && Nat.ble (Nat.lor t'.rd t'.wr + 1) (Nat.shiftLeft 1 t'.next))) = false := by rw [p.rd, p.wr, p.next, hb.next]; exact hc
        rw [hc']
      · show Nat.lor t.wr t'.wr = Nat.lor s.wr y.wr; rw [hb.wr, p.wr]
  · refine ⟨⟨Nat.le_refl _, g.hi, fun q => Nat.le_trans q g.hi, fun i q => bit_or.2 (.inl q), fun i q => q, fun i _ => rfl, fun i q => .inl q, fun i q => q, fun i q => .inl q, fun i q => ?_⟩, fun t hF hb hr hn => ?_⟩
    · rcases bit_or.1 q with r | r
      · exact .inl r
      · obtain ⟨r1, r2⟩ := bit_mod.1 r
        rcases g.oldr i r2 with r | r | r
        · exact .inl r
        · exact .inr (.inl r)
        · exact absurd r1 (Nat.not_lt.2 r.1)
    · have hle : y.next ≤ y.hi := g.inv hF.le
      have hbd : ∀ i, bit y.rd i → i < y.next := fun i q => by
        rw [Bool.and_eq_true, Bool.and_eq_true] at hc
        exact bit_lt (Nat.le_of_ble_eq_true hc.2.2) (bit_or.2 (.inl q))
      obtain ⟨t', e, p⟩ := k (noWr t) ⟨hF.le, hF.get⟩ ⟨hb.next, hb.hi, hb.rd, rfl⟩ (fun i q => by
          rcases g.oldr i q with r | r | r
          · exact hr i (bit_or.2 (.inl r))
          · have : i < s.next := by
              rcases Nat.lt_or_ge i s.next with q2 | q2
              · exact q2
              · exact absurd (hF.get i q2 (Nat.lt_of_lt_of_le (hbd i q) hle)) r
            exact hr i (bit_or.2 (.inr (bit_mod.2 ⟨this, q⟩)))
          · exact (hn i r.1 (Nat.lt_of_lt_of_le r.2 hle)).trans (hF.get i r.1 (Nat.lt_of_lt_of_le r.2 hle)).symm) hn
      refine ⟨{ h := t.h, next := t.next, hi := t'.hi, rd := Nat.lor t.rd (Nat.mod t'.rd (Nat.shiftLeft 1 t.next)), wr := t.wr }, ?_, ⟨hb.next, p.hi, ?_, hb.wr, fun i => .inr ⟨rfl, rfl⟩⟩⟩
      · simp only [e]
        unfold gcD
        have hc' : (flat v1 && (Nat.beq (Nat.mod t'.wr (Nat.shiftLeft 1 t.next)) 0 && Nat.ble (Nat.lor t'.rd t'.wr + 1) (Nat.shiftLeft 1 t'.next))) = true := by rw [p.rd, p.wr, p.next, hb.next]; exact hc
        rw [hc']
      · show Nat.lor t.rd (Nat.mod t'.rd (Nat.shiftLeft 1 t.next)) = Nat.lor s.rd (Nat.mod y.rd (Nat.shiftLeft 1 s.next)); rw [hb.rd, p.rd, hb.next]
noncomputable def afterD (fn : Func) (a : Ex × Tmps) (s : St) : Option (Value × St) := match a.1 with
  | .exit _ => none
  | _ => omap (resD P a.2 s fn.results.toList) valOf
theorem afterD_tr (fn : Func) (a : Ex × Tmps) : Tr (afterD (P := P) fn a) := by
  obtain ⟨e, l⟩ := a
  cases e with
  | exit i => exact none_tr fun _ => rfl
  | normal => exact (resD_tr l _).omap valOf
  | ret => exact (resD_tr l _).omap valOf
theorem enterD_eq (run : Code → CodeF) (fn : Func) (c : Code) (args : List Value) (s : St) :
    enterD P run fn c args s = match Nat.ble args.length fn.ntmps with
      | true => (match obind (asc (run c (inTab args 8) (noWr s))) (afterD (P := P) fn) with | some x => gcD s x.1 x.2 | none => none)
      | false => none := by
  unfold enterD
  cases Nat.ble args.length fn.ntmps with
  | false => rfl
  | true =>
    simp only
    unfold endD endRes obind asc afterD omap noWr
    cases run c (inTab args 8) { h := s.h, next := s.next, hi := s.hi, rd := s.rd, wr := 0 } with
    | none => rfl
    | some x =>
      obtain ⟨e, l, s1⟩ := x
      cases e with
      | exit i => rfl
      | normal => simp only; cases resD P l s1 fn.results.toList <;> rfl
      | ret => simp only; cases resD P l s1 fn.results.toList <;> rfl
theorem enterD_tr {run : Code → CodeF} (fn : Func) (c : Code) (hr : TrC (run c)) (args : List Value) : Tr (enterD P run fn c args) := by
  cases hb : Nat.ble args.length fn.ntmps with
  | false => exact none_tr fun s => by rw [enterD_eq, hb]
  | true =>
    exact (Tr.gc (Tr.obind (hr (inTab args 8)) (afterD_tr (P := P) fn))).congr fun s => by rw [enterD_eq, hb]
abbrev Intr := FuncId → Option (List Value → St → Option (Value × St))
theorem callD_zero (intr : Intr) (n : Nat) (f : FuncId) (args : List Value) (s : St) : callD P intr n 0 f args s = none := rfl
theorem callD_succ (intr : Intr) (n k : Nat) (f : FuncId) : callD P intr n (k + 1) f = match intr f with
    | some g => g
    | none => bodyD P (codeD P (callD P intr n k) n) (nth P.funcs.toList f) := rfl
theorem callD_tr {intr : Intr} (hi : ∀ f g, intr f = some g → ∀ args, Tr (g args)) (n : Nat) : ∀ k f args, Tr (callD P intr n k f args)
  | 0, f, args => none_tr fun _ => rfl
  | k + 1, f, args => by
    rw [callD_succ]
    cases hf : intr f with
    | some g => exact hi f g hf args
    | none =>
      simp only
      unfold bodyD
      cases nth P.funcs.toList f with
      | none => exact none_tr fun _ => rfl
      | some fn =>
        simp only
        cases fn.body with
        | none => exact none_tr fun _ => rfl
        | some c => exact enterD_tr fn c (codeD_tr (callD_tr hi n k) n c) args
end Go.Det
end

section
/- A part of an evaluator of closed runs and of its soundness. -/
namespace Go.Det
variable {P : Program}
structure Fr (n : Nat) (φ : Ren) (l : Tmps) (a : Act) : Prop where
  size : a.tmps.size = n
  tmp : ∀ t, VR φ (lget l t) (a.tmps.getD t undef)
  defers : a.defers = []
noncomputable def okOperand (G : Nat) : Operand → Bool
  | .const v => flat v
  | .global g => Nat.ble (g + 1) G
  | _ => true
noncomputable def okOperands (G : Nat) : List Operand → Bool
  | [] => true
  | x :: t => okOperand G x && okOperands G t
noncomputable def okDst (n : Nat) : Option Tmp → Bool
  | some d => Nat.ble (d + 1) n
  | none => true
noncomputable def okOper (n G : Nat) (o : Oper) : Bool := okOperands G o.op.operands.toList && okDst n o.dst
theorem okOperands_mem {G : Nat} : ∀ {l : List Operand}, okOperands G l = true → ∀ x ∈ l, okOperand G x = true
  | [], _, x, hx => by cases hx
  | y :: t, h, x, hx => by
    simp only [okOperands, Bool.and_eq_true] at h
    rcases List.mem_cons.1 hx with rfl | hx
    · exact h.1
    · exact okOperands_mem h.2 x hx
theorem Fr.mono {n : Nat} {φ φ' : Ren} {l : Tmps} {a : Act} (h : Fr n φ l a) (k : Le φ φ') : Fr n φ' l a := ⟨h.size, fun t => (h.tmp t).mono k, h.defers⟩
theorem Fr.put {n : Nat} {φ : Ren} {l : Tmps} {a : Act} (h : Fr n φ l a) {dst : Option Tmp} {v v' : Value} (hd : okDst n dst = true) (hv : VR φ v v') : Fr n φ (putD l dst v) (a.put dst v') := by
  cases dst with
  | none => exact h
  | some d =>
    have hd : d < n := Nat.le_of_ble_eq_true hd
    refine ⟨by simp [Act.put, h.size], fun t => ?_, h.defers⟩
    show VR φ (lget (lset l d v) t) ((a.tmps.setIfInBounds d v').getD t undef)
    rw [lget_set]
    by_cases e : t = d
    · subst e
      have : (a.tmps.setIfInBounds t v').getD t undef = v' := by
        simp [Array.getD_eq_getD_getElem?, h.size, hd]
      rw [if_pos rfl, this]; exact hv
    · have : (a.tmps.setIfInBounds d v').getD t undef = a.tmps.getD t undef := by
        simp [Array.getD_eq_getD_getElem?, Array.getElem?_setIfInBounds_ne (Ne.symm e)]
      rw [if_neg e, this]; exact h.tmp t
theorem evalO_ok {n G : Nat} {φ : Ren} {l : Tmps} {a : Act} (hG : Glob G φ) (h : Fr n φ l a) {x : Operand} (hx : okOperand G x = true) : VR φ (evalO l x) (a.eval x) := by
  cases x with
  | tmp t => exact h.tmp t
  | const v => exact flat_self hx φ
  | global g =>
    obtain ⟨sz, e⟩ := hG g (Nat.le_of_ble_eq_true hx)
    exact .ptr g 0 g 0 sz e
  | func f => exact .func _ [] [] [] [] rfl (fun _ => .any _) rfl (fun _ => .any _)
theorem not_bool {φ : Ren} {v v' : Value} (h : VR φ v v') (h1 : ∀ vs, v ≠ .tuple vs) (h2 : ∀ b, v ≠ .bool b) : ∀ b, v' ≠ .bool b := by
  intro b e
  subst e
  cases h with
  | any => exact h1 _ rfl
  | bool => exact h2 _ rfl
theorem nth_getElem? {α : Type} : ∀ (l : List α) (n : Nat), nth l n = l[n]?
  | [], _ => rfl
  | _ :: _, 0 => rfl
  | _ :: t, n + 1 => by rw [nth, nth_getElem? t n]; rfl
theorem wanted_ok {n : Nat} {φ : Ren} {l : Tmps} {a : Act} {all : Array Oper} {o : Oper} {b : Bool} (hF : Fr n φ l a) (h : wantedD all.toList l o = some b) :
    Region.wanted o (yielded all a.tmps) = b := by
  unfold wantedD at h
  unfold Region.wanted
  cases hg : o.guard with
  | none => simp only [hg, Option.some.injEq] at h ⊢; exact h
  | some g =>
    obtain ⟨j, want⟩ := g
    simp only [hg] at h ⊢
    split at h
    case h_2 => cases h
    rename_i q hq
    rw [nth_getElem?, Array.getElem?_toList] at hq
    split at h
    case h_2 => cases h
    rename_i d hd
    have hv := hF.tmp d
    unfold yielded
    rw [hq]
    simp only [Option.bind_some, hd]
    rw [Array.getD_eq_getD_getElem?] at hv
    split at h
    · rename_i c hc
      rw [hc] at hv
      cases h
      have := bool_inv hv
      cases he : a.tmps[d]? with
      | none => rw [he] at this; simp [undef] at this
      | some v' => rw [he] at this; simp only [Option.getD_some] at this; subst this; cases c <;> cases want <;> rfl
    · cases h
    · rename_i h1 h2
      cases h
      have := not_bool hv (fun vs e => h2 vs e) (fun b e => h1 b e)
      cases he : a.tmps[d]? with
      | none => rfl
      | some v' =>
        rw [he] at this
        cases v' <;> first | rfl | exact absurd rfl (this _)
section
variable {w0 : World} {n G : Nat} {call : Call}
theorem opsD_ok (hcall : CallOk P w0 G call) (hT : ∀ f args, Tr (call f args)) (all : Array Oper) {Q : Exit → Act → World → Prop} : ∀ (rest : List Oper), (∀ o ∈ rest, okOper n G o = true) →
    ∀ (l : Tmps) (s : St) (l' : Tmps) (s' : St) (φ : Ren) (a : Act) (w : World), opsD P call all.toList rest l s = some (l', s') → HR φ s.h w0 w → Glob G φ → Fr n φ l a →
    (∀ id, s.next ≤ id → id < s'.hi → φ id = none) → Full s'.hi s →
    (∀ φ' a' w', Ext φ φ' s.next s'.next → HR φ' s'.h w0 w' → Fr n φ' l' a' → Q .normal a' w') → wpList P all Q rest a w
  | [], _, l, s, l', s', φ, a, w, h, H, _, hF, _, _, k => by
    rw [opsD_nil] at h
    cases h
    exact k φ a w (Ext.refl _ _ _) H hF
  | o :: rest, hok, l, s, l', s', φ, a, w, h, H, hG, hF, hf, hi, k => by
    rw [opsD_cons] at h
    unfold opsStep at h
    have hoo := hok o (by simp)
    unfold okOper at hoo
    rw [Bool.and_eq_true] at hoo
    have hrest : ∀ o ∈ rest, okOper n G o = true := fun o h => hok o (by simp [h])
    split at h
    case h_2 => cases h
    rename_i b hb
    have hw := wanted_ok hF hb
    unfold wpList
    cases b with
    | false =>
      simp only at h
      rw [if_neg (by rw [hw]; simp)]
      exact opsD_ok hcall hT all rest hrest _ _ _ _ φ _ w h H hG (hF.put hoo.2 .skip) hf hi k
    | true =>
      simp only at h
      rw [if_pos hw]
      left
      unfold nextOp at h
      split at h
      case h_2 => cases h
      rename_i x hx
      obtain ⟨v, s1⟩ := x
      simp only at h
      have g1 := (opD_tr (P := P) hT o l s v s1 hx).1
      have g2 := (opsD_tr (P := P) hT all.toList rest _ s1 l' s' h).1
      have hgv := opD_ok (ρ := a.eval) hcall hT hx H hG (fun x hx => evalO_ok hG hF (okOperands_mem hoo.1 x hx)) (fun id p q => hf id p (Nat.lt_of_lt_of_le q g2.hi)) (hi.mono g2.hi)
      refine hgv.wp fun φ' v' w' e hv H' => ?_
      refine opsD_ok hcall hT all rest hrest _ s1 l' s' φ' _ w' h H' (hG.mono e.le) ((hF.mono e.le).put hoo.2 hv) (fun id p q => ?_) (hi.step g1) fun φ2 a2 w2 e2 H2 F2 => ?_
      · cases hφ : φ' id with
        | none => rfl
        | some y =>
          rcases e.new id (by rw [hφ]; simp) with r | r
          · exact absurd (hf id (Nat.le_trans g1.next p) q) r
          · omega
      · exact k φ2 a2 w2 (e.trans e2 (Nat.le_refl _) g2.next g1.next (Nat.le_refl _)) H2 F2
end
end Go.Det
end

section
/- A part of an evaluator of closed runs and of its soundness. -/
namespace Go.Det
variable {P : Program}
theorem evalL_congr {l l' : Tmps} : ∀ {xs : List Operand}, (∀ x ∈ xs, evalO l x = evalO l' x) → evalL l xs = evalL l' xs
  | [], _ => rfl
  | x :: t, h => by rw [evalL, evalL, h x (by simp), evalL_congr fun y hy => h y (by simp [hy])]
theorem pairsO_congr {l l' : Tmps} : ∀ {xs : List (Nat × Operand)}, (∀ x ∈ xs, evalO l x.2 = evalO l' x.2) → pairsO l xs = pairsO l' xs
  | [], _ => rfl
  | (i, x) :: t, h => by rw [pairsO, pairsO, h (i, x) (by simp), pairsO_congr fun y hy => h y (by simp [hy])]
theorem evalOpt_congr {l l' : Tmps} {x : Option Operand} (h : ∀ y, x = some y → evalO l y = evalO l' y) : evalOpt l x = evalOpt l' x := by
  cases x with
  | none => rfl
  | some y => rw [evalOpt, evalOpt, h y rfl]
theorem opD_congr {call : Call} {o : Oper} {l l' : Tmps} (h : ∀ x ∈ o.op.operands.toList, evalO l x = evalO l' x) : opD P call o l = opD P call o l' := by
  unfold opD
  cases hop : o.op <;> rw [hop] at h <;> simp only [Op.operands] at h <;> simp only
  case move x => funext s; simp only [opMove, h x (by simp)]
  case assign x => funext s; simp only [opMove, h x (by simp)]
  case pick c a b => funext s; simp only [opPick, h c (by simp), h a (by simp), h b (by simp)]
  case alloc e => rfl
  case box e x => funext s; simp only [opBox, h x (by simp)]
  case build t ps => funext s; simp only [opBuild, pairsO_congr (xs := ps.toList) (l := l) (l' := l') fun x hx => h x.2 (by simp; exact ⟨x.1, by simpa using hx⟩)]
  case buildSlice t n ps => funext s; simp only [opBuildSlice, pairsO_congr (xs := ps.toList) (l := l) (l' := l') fun x hx => h x.2 (by simp; exact ⟨x.1, by simpa using hx⟩)]
  case load t a => funext s; simp only [opLoad, h a (by simp)]
  case store t a x => funext s; simp only [opStore, h a (by simp), h x (by simp)]
  case nilCheck x => funext s; simp only [opNilCheck, h x (by simp)]
  case binOp op t x y yt => funext s; simp only [opBin, h x (by simp), h y (by simp)]
  case unOp op xt x => funext s; simp only [opUn, h x (by simp)]
  case convert a b x => funext s; simp only [opConvert, h x (by simp)]
  case makeInterface t x => funext s; simp only [opMakeInterface, h x (by simp)]
  case makeFunc fn a b =>
    funext s
    simp only [opMakeFunc, evalL_congr (xs := a.toList) (l := l) (l' := l') (fun x hx => h x (by simp at hx ⊢; exact .inl hx)), evalL_congr (xs := b.toList) (l := l) (l' := l') (fun x hx => h x (by simp at hx ⊢; exact .inr hx))]
  case makeSlice t n c => funext s; simp only [opMakeSlice, h n (by simp), h c (by simp)]
  case slice t x lo hi mx =>
    funext s
    simp only [opSlice, h x (by simp), evalOpt_congr (l := l) (l' := l') (x := lo) (fun y hy => h y (by subst hy; simp)), evalOpt_congr (l := l) (l' := l') (x := hi) (fun y hy => h y (by subst hy; simp)),
      evalOpt_congr (l := l) (l' := l') (x := mx) (fun y hy => h y (by subst hy; simp))]
  case fieldAddr t x f => funext s; simp only [opFieldAddr, h x (by simp)]
  case field t x f => funext s; simp only [opField, h x (by simp)]
  case indexAddr t x i => funext s; simp only [opIndexAddr, h x (by simp), h i (by simp)]
  case index t x i => funext s; simp only [opIndex, h x (by simp), h i (by simp)]
  case extract t i => funext s; simp only [opExtract, h t (by simp)]
  case lookup t x k ok => funext s; simp only [opLookup, h x (by simp), h k (by simp)]
  case range t x => funext s; simp only [opRange, h x (by simp)]
  case next x str => funext s; simp only [opNext, h x (by simp)]
  case entry x => funext s; simp only [opEntry, h x (by simp)]
  case mapUpdate t x k v => funext s; simp only [opMapUpdate, h x (by simp), h k (by simp), h v (by simp)]
  case call c =>
    unfold opCall
    cases hcal : c.callee with
    | builtin b =>
      simp only at h ⊢
      funext s
      simp only [opBuiltin, evalL_congr (xs := c.args.toList) (l := l) (l' := l') (fun x hx => h x (by simp [Call.operands, hcal]; simpa using hx))]
    | value f =>
      simp only at h ⊢
      funext s
      simp only [opCallV, h f (by simp [Call.operands, hcal]), evalL_congr (xs := c.args.toList) (l := l) (l' := l') (fun x hx => h x (by simp [Call.operands, hcal]; right; simpa using hx))]
    | invoke r m => rfl
  all_goals rfl
theorem readsL_bit {l : List Operand} {t : Nat} (h : Operand.tmp t ∈ l) : bit (readsL l) t := by
  induction l with
  | nil => cases h
  | cons x r ih =>
    rw [readsL]
    rcases List.mem_cons.1 h with rfl | h
    · exact bit_or.2 (.inl (bit_one.2 rfl))
    · exact bit_or.2 (.inr (ih h))
theorem evalO_same {l l' : Tmps} {x : Operand} (h : ∀ t, x = .tmp t → lget l t = lget l' t) : evalO l x = evalO l' x := by
  cases x with
  | tmp t => exact h t rfl
  | _ => rfl
theorem wantRun_congr {call : Call} {all : List Oper} {o : Oper} {l l' : Tmps} (h : ∀ t, bit (readsT all o) t → lget l t = lget l' t) :
    wantedD all l o = wantedD all l' o ∧ wantRun (opD P call o) (fun l => wantedD all l o) l = wantRun (opD P call o) (fun l => wantedD all l o) l' := by
  have e : wantedD all l o = wantedD all l' o := by
    unfold wantedD
    cases hg : o.guard with
    | none => rfl
    | some g =>
      simp only
      cases hn : nth all g.1 with
      | none => rfl
      | some q =>
        simp only
        cases hd : q.dst with
        | none => rfl
        | some d =>
          simp only
          rw [h d (by unfold readsT; rw [hg]; simp only [hn, hd]; exact bit_or.2 (.inr (bit_one.2 rfl)))]
  refine ⟨e, ?_⟩
  funext s
  unfold wantRun
  simp only [e]
  rw [opD_congr fun x hx => evalO_same fun t ht => h t (by subst ht; exact bit_or.2 (.inl (readsL_bit hx)))]
def Last {α : Type} (W : Nat → Nat → Prop) (val : Nat → Nat → α) (v0 : Nat → α) (E : Nat → Prop) (x : Nat) (v : α) : Prop :=
  (∃ j, E j ∧ W j x ∧ (∀ k, E k → W k x → k ≤ j) ∧ v = val j x) ∨ ((∀ j, E j → ¬ W j x) ∧ v = v0 x)
theorem Last.unique {α : Type} {W : Nat → Nat → Prop} {val : Nat → Nat → α} {v0 : Nat → α} {E E' : Nat → Prop} {x : Nat} {v v' : α} (h : Last W val v0 E x v) (h' : Last W val v0 E' x v')
    (e : ∀ j, W j x → (E j ↔ E' j)) : v = v' := by
  rcases h with ⟨j, h1, h2, h3, rfl⟩ | ⟨h1, rfl⟩ <;> rcases h' with ⟨j', k1, k2, k3, rfl⟩ | ⟨k1, rfl⟩
  · have a := h3 j' ((e j' k2).2 k1) k2
    have b := k3 j ((e j h2).1 h1) h2
    obtain rfl : j = j' := by omega
    rfl
  · exact absurd h2 (k1 j ((e j h2).1 h1))
  · exact absurd k2 (h1 j' ((e j' k2).2 k1))
  · rfl
theorem Last.add {α : Type} {W : Nat → Nat → Prop} {val : Nat → Nat → α} {v0 : Nat → α} {E : Nat → Prop} {x i : Nat} (hw : W i x) (hl : ∀ k, E k → W k x → k ≤ i) :
    Last W val v0 (fun j => j = i ∨ E j) x (val i x) :=
  .inl ⟨i, .inl rfl, hw, fun k hk hkw => by rcases hk with rfl | hk; exact Nat.le_refl _; exact hl k hk hkw, rfl⟩
theorem Last.skip {α : Type} {W : Nat → Nat → Prop} {val : Nat → Nat → α} {v0 : Nat → α} {E : Nat → Prop} {x i : Nat} {v : α} (h : Last W val v0 E x v) (hw : ¬ W i x) :
    Last W val v0 (fun j => j = i ∨ E j) x v := by
  rcases h with ⟨j, h1, h2, h3, h4⟩ | ⟨h1, h4⟩
  · exact .inl ⟨j, .inr h1, h2, fun k hk hkw => by rcases hk with rfl | hk; exact absurd hkw hw; exact h3 k hk hkw, h4⟩
  · exact .inr ⟨fun j hj => by rcases hj with rfl | hj; exact hw; exact h1 j hj, h4⟩
theorem Last.iff {α : Type} {W : Nat → Nat → Prop} {val : Nat → Nat → α} {v0 : Nat → α} {E E' : Nat → Prop} {x : Nat} {v : α} (h : Last W val v0 E x v) (e : ∀ j, E j ↔ E' j) : Last W val v0 E' x v := by
  have : E = E' := funext fun j => propext (e j)
  rw [← this]; exact h
end Go.Det
end

section
/- A part of an evaluator of closed runs and of its soundness. -/
namespace Go.Det
variable {P : Program}
noncomputable def runO (P : Program) (call : Call) (all : List Oper) (o : Oper) : Tmps → St → Option (Value × St) := wantRun (opD P call o) (fun l => wantedD all l o)
theorem runO_tr {call : Call} (hT : ∀ f args, Tr (call f args)) (all : List Oper) (o : Oper) (l : Tmps) : Tr (runO P call all o l) :=
  wantRun_tr (f := opD P call o) (fun l => wantedD all l o) l (opD_tr hT o l)
structure Trace (P : Program) (call : Call) (all rest : List Oper) (done : List Foot) (sl : List Soft) (fs : List Foot) (ss : List Soft) (L : Nat → Tmps) (S X : Nat → St) (V : Nat → Value) : Prop where
  len : fs.length = rest.length
  slen : ss.length = rest.length
  run : ∀ i o, rest[i]? = some o → runO P call all o (L i) (solo (S i)) = some (V i, X i)
  nl : ∀ i o, rest[i]? = some o → L (i + 1) = putD (L i) o.dst (V i)
  ft : ∀ i o, rest[i]? = some o → ∃ f, fs[i]? = some f ∧ f = footOf all o (done ++ fs.take i) (X i).rd (X i).wr ∧ softGo P f 0 (done ++ fs.take i) (sl ++ ss.take i) (merge (S i) (X i)) = some (S (i + 1))
  so : ∀ i o, rest[i]? = some o → ss[i]? = some (softOf all o (L i) (V i))
  ed : ∀ i o, rest[i]? = some o → edgesOk (done.length + i) o.after.toList = true
theorem drawD_trace {call : Call} {all : List Oper} : ∀ (rest : List Oper) (done : List Foot) (sl : List Soft) (l : Tmps) (s : St) (l' : Tmps) (s' : St), drawD P call all rest done sl l s = some (l', s') →
    ∃ fs ss L S X V, Trace P call all rest done sl fs ss L S X V ∧ L 0 = l ∧ S 0 = s ∧ L rest.length = l' ∧ S rest.length = s'
  | [], done, sl, l, s, l', s', h => by
    rw [drawD_nil] at h
    cases h
    exact ⟨[], [], fun _ => l, fun _ => s, fun _ => s, fun _ => und, ⟨rfl, rfl, fun i o h => by simp at h, fun i o h => by simp at h, fun i o h => by simp at h, fun i o h => by simp at h, fun i o h => by simp at h⟩, rfl, rfl, rfl, rfl⟩
  | o :: rest, done, sl, l, s, l', s', h => by
    rw [drawD_cons] at h
    split at h
    case h_2 => cases h
    rename_i he
    unfold drawStep at h
    split at h
    case h_2 => cases h
    rename_i x hx
    obtain ⟨v, y⟩ := x
    simp only at h
    unfold drawGo at h
    split at h
    case h_2 => cases h
    rename_i s1 hap
    obtain ⟨fs, ss, L, S, X, V, T, e1, e2, e3, e4⟩ := drawD_trace rest _ _ _ _ _ _ h
    refine ⟨footOf all o done y.rd y.wr :: fs, softOf all o l v :: ss, fun i => match i with | 0 => l | i + 1 => L i, fun i => match i with | 0 => s | i + 1 => S i, fun i => match i with | 0 => y | i + 1 => X i,
      fun i => match i with | 0 => v | i + 1 => V i, ⟨by simp [T.len], by simp [T.slen], fun i q hq => ?_, fun i q hq => ?_, fun i q hq => ?_, fun i q hq => ?_, fun i q hq => ?_⟩, rfl, rfl, e3, e4⟩
    · cases i with
      | zero => simp only [List.getElem?_cons_zero, Option.some.injEq] at hq; subst hq; exact hx
      | succ i => exact T.run i q (by simpa using hq)
    · cases i with
      | zero => simp only [List.getElem?_cons_zero, Option.some.injEq] at hq; subst hq; exact e1
      | succ i => exact T.nl i q (by simpa using hq)
    · cases i with
      | zero =>
        simp only [List.getElem?_cons_zero, Option.some.injEq] at hq; subst hq
        refine ⟨_, rfl, by simp, ?_⟩
        simp only [List.take_zero, List.append_nil, Nat.zero_add]
        rw [e2]; exact hap
      | succ i =>
        obtain ⟨f, f1, f2, f3⟩ := T.ft i q (by simpa using hq)
        refine ⟨f, by simpa using f1, ?_, ?_⟩
        · rw [f2]; simp [footOf, List.append_assoc]
        · have := f3; simpa [footOf, List.append_assoc] using this
    · cases i with
      | zero => simp only [List.getElem?_cons_zero, Option.some.injEq] at hq; subst hq; rfl
      | succ i => simpa using T.so i q (by simpa using hq)
    · cases i with
      | zero => simp only [List.getElem?_cons_zero, Option.some.injEq] at hq; subst hq; simpa using he
      | succ i =>
        have := T.ed i q (by simpa using hq)
        simpa [Nat.add_assoc, Nat.add_comm 1 i] using this
theorem sameA_eq {a b : Option Addr} (h : sameA a b = true) : a = b := by
  unfold sameA at h
  split at h
  · rfl
  · rw [Bool.and_eq_true] at h
    rw [Nat.eq_of_beq_eq_true h.1, Nat.eq_of_beq_eq_true h.2]
  · cases h
theorem sameV_eq {a b : Value} (h : sameV a b = true) : a = b := by
  unfold sameV at h
  split at h
  · rw [sameA_eq h]
  · simp only [Bool.and_eq_true] at h
    rw [sameA_eq h.1, Nat.eq_of_beq_eq_true h.2.1, Nat.eq_of_beq_eq_true h.2.2]
  · split at h
    · rename_i r hr; exact (cellEq_iff hr).1 h
    · cases h
theorem softOne_some {x : Option Soft} {s s' : St} (h : softOne P x s = some s') : ∃ t a v, x = some (some (t, a, v)) ∧ loadD P s t a = some (v, s') := by
  unfold softOne at h
  split at h
  case h_2 => cases h
  split at h
  case h_2 => cases h
  rename_i z
  split at h
  case h_2 => cases h
  rename_i r hr
  split at h
  case h_2 => cases h
  rename_i hv
  cases h
  exact ⟨z.1, z.2.1, z.2.2, rfl, by rw [hr, sameV_eq hv]⟩
theorem loadD_same {s s' : St} {t : TypeId} {a v : Value} (h : loadD P s t a = some (v, s')) : ∃ id off, a = .pointer (some ⟨id, off, none⟩) ∧ s' = s.read id ∧ s.h.get id ≠ none ∧
    ∀ u : St, u.h.get id = s.h.get id → loadD P u t a = some (v, u.read id) := by
  unfold loadD at h
  split at h
  case h_2 => cases h
  rename_i id off
  split at h
  case h_2 => cases h
  rename_i cs e ro hg
  refine ⟨id, off, rfl, ?_⟩
  split at h
  · rename_i hb
    split at h
    case h_2 => cases h
    rename_i n hn
    split at h
    case h_2 => cases h
    rename_i r hr
    cases h
    refine ⟨rfl, by rw [hg]; simp, fun u hu => ?_⟩
    simp only [loadD, hu, hg, hb, hn, hr]
  · rename_i hb
    split at h
    case h_2 => cases h
    rename_i v1 t1 hd
    cases h
    refine ⟨rfl, by rw [hg]; simp, fun u hu => ?_⟩
    simp only [loadD, hu, hg, hb, hd]
  · cases h
theorem softGo_some {f : Foot} : ∀ {done : List Foot} {j : Nat} {sl : List Soft} {s s' : St}, softGo P f j done sl s = some s' →
    G1 s s' ∧ s'.h = s.h ∧ s'.next = s.next ∧ s'.hi = s.hi ∧ ∀ k g, done[k]? = some g → bit f.before (j + k) ∨ apart g f = true ∨ (apartS g f = true ∧ ∃ t a v, sl[k]? = some (some (t, a, v)) ∧ ∃ u u', u.h = s.h ∧ loadD P u t a = some (v, u'))
  | [], j, sl, s, s', h => by
    simp only [softGo, Option.some.injEq] at h
    subst h
    exact ⟨G1.refl _, rfl, rfl, rfl, fun k g hk => by simp at hk⟩
  | x :: t, j, sl, s, s', h => by
    have tl : ∀ k : Nat, sl.tail[k]? = sl[k + 1]? := fun k => by cases sl <;> simp
    unfold softGo at h
    split at h
    · rename_i h1
      obtain ⟨g1, g2, g3, g4, g5⟩ := softGo_some h
      refine ⟨g1, g2, g3, g4, fun k g hk => ?_⟩
      cases k with
      | zero =>
        simp only [List.getElem?_cons_zero, Option.some.injEq] at hk; subst hk
        rw [Bool.or_eq_true] at h1
        rcases h1 with h1 | h1
        · exact .inl h1
        · exact .inr (.inl h1)
      | succ k =>
        have := g5 k g (by simpa using hk)
        rwa [show j + 1 + k = j + (k + 1) by omega, tl] at this
    · rename_i h1
      split at h
      case h_2 => cases h
      rename_i h2
      split at h
      case h_2 => cases h
      rename_i s1 h3
      obtain ⟨ty, a, v, q1, q2⟩ := softOne_some h3
      obtain ⟨id, off, rfl, rfl, hne, _⟩ := loadD_same q2
      obtain ⟨g1, g2, g3, g4, g5⟩ := softGo_some h
      obtain ⟨b, hb⟩ := Option.ne_none_iff_exists'.1 hne
      refine ⟨(G1.read hb).trans g1, g2, g3, g4, fun k g hk => ?_⟩
      cases k with
      | zero =>
        simp only [List.getElem?_cons_zero, Option.some.injEq] at hk; subst hk
        refine .inr (.inr ⟨h2, ty, _, v, ?_, s, _, rfl, q2⟩)
        cases sl with
        | nil => simp at q1
        | cons y ys => simpa using q1
      | succ k =>
        have := g5 k g (by simpa using hk)
        rwa [show j + 1 + k = j + (k + 1) by omega, tl] at this
theorem softGo_apart {f : Foot} : ∀ {done : List Foot} {j : Nat} {sl : List Soft} {s : St}, apartAll f j done = true → softGo P f j done sl s = some s
  | [], _, _, _, _ => rfl
  | x :: t, j, sl, s, h => by
    simp only [apartAll, Bool.and_eq_true] at h
    simp only [softGo, h.1]
    exact softGo_apart h.2
theorem edgesOk_mem {i : Nat} : ∀ {es : List Edge}, edgesOk i es = true → ∀ e ∈ es, Region.binds .any e = true → e.on < i
  | [], _, e, he, _ => by cases he
  | x :: t, h, e, he, hb => by
    simp only [edgesOk, Bool.and_eq_true] at h
    rcases List.mem_cons.1 he with rfl | he
    · have h1 := h.1
      unfold Region.binds at hb
      cases hg : e.ground <;> rw [hg] at h1 hb <;> first | exact Nat.le_of_ble_eq_true h1 | (simp at hb)
    · exact edgesOk_mem h.2 e he hb
theorem beforeOf_bit {done : List Foot} {k : Nat} : ∀ {es : List Edge}, bit (beforeOf done es) k → ∃ e ∈ es, Region.binds .any e = true ∧ (k = e.on ∨ ∃ f, nth done e.on = some f ∧ bit f.before k)
  | [], h => absurd h bit_zero
  | x :: t, h => by
    rw [beforeOf] at h
    rcases bit_or.1 h with h | h
    · refine ⟨x, by simp, ?_⟩
      cases hg : x.ground <;> rw [hg] at h <;> simp only at h <;> first
        | exact absurd h bit_zero
        | (refine ⟨by unfold Region.binds; rw [hg], ?_⟩
           rcases bit_or.1 h with h | h
           · exact .inl (bit_one.1 h)
           · right
             split at h
             · rename_i f hf; exact ⟨f, hf, h⟩
             · exact absurd h bit_zero)
    · obtain ⟨e, he, r⟩ := beforeOf_bit h
      exact ⟨e, by simp [he], r⟩
theorem and_zero {a b i : Nat} (h : Nat.beq (Nat.land a b) 0 = true) (ha : bit a i) (hb : bit b i) : False := by
  have e : a &&& b = 0 := Nat.eq_of_beq_eq_true h
  have : Nat.testBit (a &&& b) i = true := by rw [Nat.testBit_and]; unfold bit at ha hb; rw [ha, hb]; rfl
  rw [e] at this
  simp at this
section
variable {call : Call} {all : List Oper} {fs : List Foot} {ss : List Soft} {L : Nat → Tmps} {S X : Nat → St} {V : Nat → Value}
def ftAt (fs : List Foot) (i : Nat) : Foot := (fs[i]?).getD ⟨0, 0, 0, 0, 0⟩
theorem Trace.foot (T : Trace P call all all [] [] fs ss L S X V) {i : Nat} {o : Oper} (ho : all[i]? = some o) :
    (ftAt fs i).rt = readsT all o ∧ (ftAt fs i).wt = writesT o ∧ (ftAt fs i).rd = (X i).rd ∧ (ftAt fs i).wr = (X i).wr := by
  obtain ⟨f, f1, f2, _⟩ := T.ft i o ho
  unfold ftAt
  rw [f1]
  subst f2
  exact ⟨rfl, rfl, rfl, rfl⟩
theorem Trace.edge (T : Trace P call all all [] [] fs ss L S X V) {i : Nat} {o : Oper} (ho : all[i]? = some o) {e : Edge} (he : e ∈ o.after.toList) (hb : Region.binds .any e = true) : e.on < i := by
  have := edgesOk_mem (T.ed i o ho) e he hb
  simpa using this
theorem Trace.before (T : Trace P call all all [] [] fs ss L S X V) {i : Nat} {o : Oper} (ho : all[i]? = some o) {k : Nat} (h : bit (ftAt fs i).before k) :
    ∃ e ∈ o.after.toList, Region.binds .any e = true ∧ (k = e.on ∨ bit (ftAt fs e.on).before k) := by
  obtain ⟨f, f1, f2, _⟩ := T.ft i o ho
  have e1 : ftAt fs i = f := by unfold ftAt; rw [f1]; rfl
  rw [e1, f2] at h
  obtain ⟨e, he, hb, r⟩ := beforeOf_bit (show bit (beforeOf ([] ++ fs.take i) o.after.toList) k from h)
  refine ⟨e, he, hb, ?_⟩
  rcases r with r | ⟨f, hf, hk⟩
  · exact .inl r
  · right
    rw [nth_getElem?, List.nil_append, List.getElem?_take] at hf
    split at hf
    · unfold ftAt; rw [hf]; exact hk
    · cases hf
def SoftAt (P : Program) (ss : List Soft) (X : Nat → St) (i j : Nat) : Prop := ∃ t a v, ss[i]? = some (some (t, a, v)) ∧ ∃ u u', u.h = (X j).h ∧ loadD P u t a = some (v, u')
theorem Trace.apart (T : Trace P call all all [] [] fs ss L S X V) {i j : Nat} (hij : i < j) (hj : j < all.length) :
    bit (ftAt fs j).before i ∨ Det.apart (ftAt fs i) (ftAt fs j) = true ∨ (apartS (ftAt fs i) (ftAt fs j) = true ∧ SoftAt P ss X i j) := by
  obtain ⟨o, ho⟩ : ∃ o, all[j]? = some o := ⟨all[j], List.getElem?_eq_getElem hj⟩
  obtain ⟨f, f1, _, f3⟩ := T.ft j o ho
  have hi : i < fs.length := by rw [T.len]; omega
  have := (softGo_some f3).2.2.2.2 i fs[i] (by rw [List.nil_append, List.getElem?_take, if_pos hij, List.getElem?_eq_getElem hi])
  have e1 : ftAt fs j = f := by unfold ftAt; rw [f1]; rfl
  have e2 : ftAt fs i = fs[i] := by unfold ftAt; rw [List.getElem?_eq_getElem hi]; rfl
  rw [e1, e2]
  rcases this with r | r | ⟨r1, t, a, v, r2, r3⟩
  · exact .inl (by simpa using r)
  · exact .inr (.inl r)
  · refine .inr (.inr ⟨r1, t, a, v, ?_, r3⟩)
    rw [List.nil_append, List.getElem?_take, if_pos hij] at r2
    exact r2
theorem apartS_of {a b : Foot} (h : Det.apart a b = true) : apartS a b = true := by
  simp only [Det.apart, Bool.and_eq_true] at h
  simp only [apartS, Bool.and_eq_true]
  exact ⟨h.1.1, h.1.2⟩
theorem Trace.apartS (T : Trace P call all all [] [] fs ss L S X V) {i j : Nat} (hij : i < j) (hj : j < all.length) : bit (ftAt fs j).before i ∨ Det.apartS (ftAt fs i) (ftAt fs j) = true := by
  rcases T.apart hij hj with r | r | r
  · exact .inl r
  · exact .inr (apartS_of r)
  · exact .inr r.1
theorem Trace.clashT (T : Trace P call all all [] [] fs ss L S X V) {i j t : Nat} (hij : i < j) (hj : j < all.length)
    (h : (bit (ftAt fs i).wt t ∧ (bit (ftAt fs j).rt t ∨ bit (ftAt fs j).wt t)) ∨ (bit (ftAt fs j).wt t ∧ bit (ftAt fs i).rt t)) : bit (ftAt fs j).before i := by
  rcases T.apartS hij hj with r | r
  · exact r
  · simp only [Det.apartS, Bool.and_eq_true] at r
    rcases h with ⟨a, b⟩ | ⟨a, b⟩
    · exact (and_zero r.1.1 a (bit_or.2 b)).elim
    · exact (and_zero r.1.2 a b).elim
theorem Trace.clashM (T : Trace P call all all [] [] fs ss L S X V) {i j t : Nat} (hij : i < j) (hj : j < all.length)
    (h : bit (ftAt fs i).wr t ∧ (bit (ftAt fs j).rd t ∨ bit (ftAt fs j).wr t)) : bit (ftAt fs j).before i := by
  rcases T.apartS hij hj with r | r
  · exact r
  · simp only [Det.apartS, Bool.and_eq_true] at r
    exact (and_zero r.2 h.1 (bit_or.2 h.2)).elim
theorem Trace.clashR (T : Trace P call all all [] [] fs ss L S X V) {i j t : Nat} (hij : i < j) (hj : j < all.length)
    (h : bit (ftAt fs j).wr t ∧ bit (ftAt fs i).rd t) : bit (ftAt fs j).before i ∨ SoftAt P ss X i j := by
  rcases T.apart hij hj with r | r | r
  · exact .inl r
  · simp only [Det.apart, Bool.and_eq_true] at r
    exact (and_zero r.2 h.1 h.2).elim
  · exact .inr r.2
def Closed (all : List Oper) (E : Nat → Prop) : Prop := ∀ j o e, E j → all[j]? = some o → e ∈ o.after.toList → Region.binds .any e = true → E e.on
theorem Trace.down (T : Trace P call all all [] [] fs ss L S X V) {E : Nat → Prop} (hE : Closed all E) (hin : ∀ j, E j → j < all.length) : ∀ j, E j → ∀ k, bit (ftAt fs j).before k → E k := by
  intro j
  induction j using Nat.strongRecOn with
  | _ j ih =>
    intro hj k hk
    obtain ⟨o, ho⟩ : ∃ o, all[j]? = some o := ⟨all[j]'(hin j hj), List.getElem?_eq_getElem (hin j hj)⟩
    obtain ⟨e, he, hb, r⟩ := T.before ho hk
    have h1 := hE j o e hj ho he hb
    rcases r with rfl | r
    · exact h1
    · exact ih e.on (T.edge ho he hb) h1 k r
theorem Trace.down1 (T : Trace P call all all [] [] fs ss L S X V) {E : Nat → Prop} (hE : Closed all E) (hin : ∀ j, E j → j < all.length) {i : Nat} {o : Oper} (ho : all[i]? = some o)
    (hi : ∀ e ∈ o.after.toList, Region.binds .any e = true → E e.on) (k : Nat) (hk : bit (ftAt fs i).before k) : E k := by
  obtain ⟨e, he, hb, r⟩ := T.before ho hk
  rcases r with rfl | r
  · exact hi e he hb
  · exact T.down hE hin _ (hi e he hb) k r
end
end Go.Det
end

section
/- A part of an evaluator of closed runs and of its soundness. -/
namespace Go.Det
variable {P : Program}
def WT (all : List Oper) (j t : Nat) : Prop := ∃ o, all[j]? = some o ∧ o.dst = some t
def WM (m : Nat) (X : Nat → St) (j id : Nat) : Prop := j < m ∧ bit (X j).wr id
structure Ctx (P : Program) (w0 : World) (n G : Nat) (call : Call) (ops : Array Oper) (fs : List Foot) (ss : List Soft) (L : Nat → Tmps) (S X : Nat → St) (V : Nat → Value) (φ0 : Ren) : Prop where
  hcall : CallOk P w0 G call
  hT : ∀ f args, Tr (call f args)
  T : Trace P call ops.toList ops.toList [] [] fs ss L S X V
  full : Full (S ops.toList.length).hi (S 0)
  fresh : ∀ id, (S 0).next ≤ id → id < (S ops.toList.length).hi → φ0 id = none
  glob : Glob G φ0
  ok : ∀ o ∈ ops.toList, okOper n G o = true
structure Done (w0 : World) (n : Nat) (ops : Array Oper) (L : Nat → Tmps) (S X : Nat → St) (V : Nat → Value) (φ0 : Ren) (E : Nat → Prop) (φ : Ren) (h : Heap) (l : Tmps) (a : Act) (w : World) : Prop where
  hr : HR φ h w0 w
  fr : Fr n φ l a
  tm : ∀ t, Last (WT ops.toList) (fun j _ => V j) (lget (L 0)) E t (lget l t)
  bl : ∀ id, Last (WM ops.toList.length X) (fun j id => (X j).h.get id) (S 0).h.get E id (h.get id)
  le : Le φ0 φ
  new : ∀ id, φ id ≠ none → φ0 id ≠ none ∨ ∃ j, E j ∧ (S j).next ≤ id ∧ id < (X j).next
  inside : ∀ j, E j → j < ops.toList.length
  closed : Closed ops.toList E
theorem opAt {all : List Oper} {j : Nat} (h : j < all.length) : ∃ o, all[j]? = some o := ⟨all[j], List.getElem?_eq_getElem h⟩
section
variable {w0 : World} {n G : Nat} {call : Call} {ops : Array Oper} {fs : List Foot} {ss : List Soft} {L : Nat → Tmps} {S X : Nat → St} {V : Nat → Value} {φ0 : Ren}
theorem Ctx.g (C : Ctx P w0 n G call ops fs ss L S X V φ0) {i : Nat} (hi : i < ops.toList.length) : G1 (solo (S i)) (X i) := by
  obtain ⟨o, ho⟩ := opAt hi
  exact (runO_tr C.hT ops.toList o (L i) _ _ _ (C.T.run i o ho)).1
theorem Ctx.g' (C : Ctx P w0 n G call ops fs ss L S X V φ0) {i : Nat} (hi : i < ops.toList.length) : G1 (S i) (S (i + 1)) := by
  obtain ⟨o, ho⟩ := opAt hi
  obtain ⟨f, _, _, f3⟩ := C.T.ft i o ho
  exact (C.g hi).solo.trans (softGo_some f3).1
theorem Ctx.snext (C : Ctx P w0 n G call ops fs ss L S X V φ0) {i : Nat} (hi : i < ops.toList.length) : (S (i + 1)).next = (X i).hi := by
  obtain ⟨o, ho⟩ := opAt hi
  obtain ⟨f, _, _, f3⟩ := C.T.ft i o ho
  rw [(softGo_some f3).2.2.1]; rfl
theorem Ctx.sheap (C : Ctx P w0 n G call ops fs ss L S X V φ0) {i : Nat} (hi : i < ops.toList.length) : (S (i + 1)).h = (X i).h := by
  obtain ⟨o, ho⟩ := opAt hi
  obtain ⟨f, _, _, f3⟩ := C.T.ft i o ho
  rw [(softGo_some f3).2.1]; rfl
theorem Ctx.gs (C : Ctx P w0 n G call ops fs ss L S X V φ0) {i : Nat} : ∀ {j : Nat}, i ≤ j → j ≤ ops.toList.length → G1 (S i) (S j) := by
  intro j hij
  induction hij with
  | refl => exact fun _ => G1.refl _
  | step hij ih => exact fun hj => (ih (Nat.le_of_succ_le hj)).trans (C.g' hj)
theorem Ctx.xnext (C : Ctx P w0 n G call ops fs ss L S X V φ0) {i : Nat} (hi : i < ops.toList.length) : (S i).next ≤ (X i).next ∧ (X i).next ≤ (X i).hi := ⟨(C.g hi).next, (C.g hi).inv (Nat.le_refl _)⟩
theorem Ctx.xhi (C : Ctx P w0 n G call ops fs ss L S X V φ0) {i j : Nat} (hij : i < j) (hj : j ≤ ops.toList.length) : (X i).hi ≤ (S j).next := by
  rw [← C.snext (Nat.lt_of_lt_of_le hij hj)]
  exact (C.gs hij hj).next
theorem Ctx.top (C : Ctx P w0 n G call ops fs ss L S X V φ0) {i : Nat} (hi : i < ops.toList.length) : (X i).hi ≤ (S ops.toList.length).hi :=
  Nat.le_trans (C.xhi hi (Nat.le_refl _)) ((C.gs (Nat.zero_le _) (Nat.le_refl _)).inv C.full.le)
theorem Ctx.fullAt (C : Ctx P w0 n G call ops fs ss L S X V φ0) {i : Nat} (hi : i ≤ ops.toList.length) : Full (S ops.toList.length).hi (S i) := C.full.step (C.gs (Nat.zero_le _) hi)
theorem Ctx.lastT (C : Ctx P w0 n G call ops fs ss L S X V φ0) (t : Nat) : ∀ i, i ≤ ops.toList.length → Last (WT ops.toList) (fun j _ => V j) (lget (L 0)) (fun j => j < i) t (lget (L i) t)
  | 0, _ => .inr ⟨fun j hj => absurd hj (Nat.not_lt_zero _), rfl⟩
  | i + 1, hi => by
    obtain ⟨o, ho⟩ := opAt hi
    have ih := C.lastT t i (Nat.le_of_succ_le hi)
    rw [C.T.nl i o ho]
    have hiff : ∀ j, (j = i ∨ j < i) ↔ j < i + 1 := fun j => by omega
    cases hd : o.dst with
    | none => exact (ih.skip (i := i) (fun ⟨o', h1, h2⟩ => by rw [ho] at h1; cases h1; rw [hd] at h2; cases h2)).iff hiff
    | some d =>
      show Last _ _ _ _ t (lget (lset (L i) d (V i)) t)
      rw [lget_set]
      by_cases e : t = d
      · rw [if_pos e]
        exact (Last.add (val := fun j _ => V j) (i := i) ⟨o, ho, by rw [hd, e]⟩ (fun k hk _ => Nat.le_of_lt hk)).iff hiff
      · rw [if_neg e]
        exact (ih.skip (i := i) (fun ⟨o', h1, h2⟩ => by rw [ho] at h1; cases h1; rw [hd] at h2; cases h2; exact e rfl)).iff hiff
theorem Ctx.lastM (C : Ctx P w0 n G call ops fs ss L S X V φ0) (id : Nat) : ∀ i, i ≤ ops.toList.length → Last (WM ops.toList.length X) (fun j id => (X j).h.get id) (S 0).h.get (fun j => j < i) id ((S i).h.get id)
  | 0, _ => .inr ⟨fun j hj => absurd hj (Nat.not_lt_zero _), rfl⟩
  | i + 1, hi => by
    have ih := C.lastM id i (Nat.le_of_succ_le hi)
    rw [C.sheap hi]
    have hiff : ∀ j, (j = i ∨ j < i) ↔ j < i + 1 := fun j => by omega
    by_cases hb : bit (X i).wr id
    · exact (Last.add (val := fun j id => (X j).h.get id) (i := i) ⟨hi, hb⟩ (fun k hk _ => Nat.le_of_lt hk)).iff hiff
    · have e : (X i).h.get id = (S i).h.get id := (C.g hi).frame id hb
      rw [e]
      exact (ih.skip (i := i) (fun h => hb h.2)).iff hiff
variable {E : Nat → Prop} {φ : Ren} {h : Heap} {l : Tmps} {a : Act} {w : World}
theorem WT.bit (C : Ctx P w0 n G call ops fs ss L S X V φ0) {j t : Nat} (hw : WT ops.toList j t) : j < ops.toList.length ∧ bit (ftAt fs j).wt t := by
  obtain ⟨o, h1, h2⟩ := hw
  refine ⟨(List.getElem?_eq_some_iff.1 h1).1, ?_⟩
  rw [(C.T.foot h1).2.1]
  unfold writesT
  rw [h2]
  exact bit_one.2 rfl
theorem WM.bit (C : Ctx P w0 n G call ops fs ss L S X V φ0) {j id : Nat} (hw : WM ops.toList.length X j id) : Det.bit (ftAt fs j).wr id := by
  obtain ⟨o, ho⟩ := opAt hw.1
  rw [(C.T.foot ho).2.2.2]; exact hw.2
structure Ready (ops : Array Oper) (E : Nat → Prop) (i : Nat) (o : Oper) : Prop where
  op : ops.toList[i]? = some o
  new : ¬ E i
  edges : ∀ e ∈ o.after.toList, Region.binds .any e = true → E e.on
theorem Ready.lt {i : Nat} {o : Oper} (R : Ready ops E i o) : i < ops.toList.length := (List.getElem?_eq_some_iff.1 R.op).1
theorem agreeT (C : Ctx P w0 n G call ops fs ss L S X V φ0) (D : Done w0 n ops L S X V φ0 E φ h l a w) {i : Nat} {o : Oper} (R : Ready ops E i o) {t : Nat} (ht : bit (ftAt fs i).rt t ∨ bit (ftAt fs i).wt t)
    (j : Nat) (hj : WT ops.toList j t) : E j ↔ j < i := by
  obtain ⟨jm, jb⟩ := WT.bit C hj
  rcases Nat.lt_trichotomy j i with q | q | q
  · exact ⟨fun _ => q, fun _ => C.T.down1 D.closed D.inside R.op R.edges j (C.T.clashT q R.lt (.inl ⟨jb, ht⟩))⟩
  · exact ⟨fun e => absurd (q ▸ e) R.new, fun e => absurd e (by omega)⟩
  · refine ⟨fun e => absurd (C.T.down D.closed D.inside j e i (C.T.clashT (t := t) q jm ?_)) R.new, fun e => absurd e (by omega)⟩
    rcases ht with ht | ht
    · exact .inr ⟨jb, ht⟩
    · exact .inl ⟨ht, .inr jb⟩
def Hard (P : Program) (ops : Array Oper) (ss : List Soft) (X : Nat → St) (i : Nat) : Prop := ∀ j, i < j → j < ops.toList.length → ¬ SoftAt P ss X i j
theorem earlyM (C : Ctx P w0 n G call ops fs ss L S X V φ0) (D : Done w0 n ops L S X V φ0 E φ h l a w) {i : Nat} {o : Oper} (R : Ready ops E i o) {id : Nat} (ht : bit (X i).rd id ∨ bit (X i).wr id)
    (j : Nat) (hj : WM ops.toList.length X j id) (q : j < i) : E j := by
  have jb := WM.bit C hj
  have ht : bit (ftAt fs i).rd id ∨ bit (ftAt fs i).wr id := by rw [(C.T.foot R.op).2.2.1, (C.T.foot R.op).2.2.2]; exact ht
  exact C.T.down1 D.closed D.inside R.op R.edges j (C.T.clashM q R.lt ⟨jb, ht⟩)
theorem agreeM (C : Ctx P w0 n G call ops fs ss L S X V φ0) (D : Done w0 n ops L S X V φ0 E φ h l a w) {i : Nat} {o : Oper} (R : Ready ops E i o) {id : Nat} (ht : (Hard P ops ss X i ∧ bit (X i).rd id) ∨ bit (X i).wr id)
    (j : Nat) (hj : WM ops.toList.length X j id) : E j ↔ j < i := by
  have jb := WM.bit C hj
  rcases Nat.lt_trichotomy j i with q | q | q
  · exact ⟨fun _ => q, fun _ => earlyM C D R (ht.imp And.right (fun q => q)) j hj q⟩
  · exact ⟨fun e => absurd (q ▸ e) R.new, fun e => absurd e (by omega)⟩
  · refine ⟨fun e => absurd (C.T.down D.closed D.inside j e i ?_) R.new, fun e => absurd e (by omega)⟩
    rcases ht with ⟨hh, ht⟩ | ht
    · rcases C.T.clashR (t := id) q hj.1 ⟨jb, by rw [(C.T.foot R.op).2.2.1]; exact ht⟩ with r | r
      · exact r
      · exact absurd r (hh j q hj.1)
    · exact C.T.clashM (t := id) q hj.1 ⟨by rw [(C.T.foot R.op).2.2.2]; exact ht, .inr jb⟩
theorem sameT (C : Ctx P w0 n G call ops fs ss L S X V φ0) (D : Done w0 n ops L S X V φ0 E φ h l a w) {i : Nat} {o : Oper} (R : Ready ops E i o) (t : Nat) (ht : bit (readsT ops.toList o) t) : lget l t = lget (L i) t :=
  (D.tm t).unique (C.lastT t i (Nat.le_of_lt R.lt)) (agreeT C D R (.inl (by rw [(C.T.foot R.op).1]; exact ht)))
theorem sameM (C : Ctx P w0 n G call ops fs ss L S X V φ0) (D : Done w0 n ops L S X V φ0 E φ h l a w) {i : Nat} {o : Oper} (R : Ready ops E i o) (id : Nat) (ht : (Hard P ops ss X i ∧ bit (X i).rd id) ∨ bit (X i).wr id) : h.get id = (S i).h.get id :=
  (D.bl id).unique (C.lastM id i (Nat.le_of_lt R.lt)) (agreeM C D R ht)
theorem softly (C : Ctx P w0 n G call ops fs ss L S X V φ0) (D : Done w0 n ops L S X V φ0 E φ h l a w) {i : Nat} {o : Oper} (R : Ready ops E i o) {k : Nat} (_ : i < k) (_ : k < ops.toList.length) (hs : SoftAt P ss X i k) :
    ∀ u : St, u.h = h → ∃ id, runO P call ops.toList o (L i) u = some (V i, u.read id) ∧ X i = (solo (S i)).read id := by
  obtain ⟨t, ad, v, h1, u0, u0', h2, h3⟩ := hs
  have h4 := C.T.so i o R.op
  rw [h1] at h4
  have h4 := Option.some.inj h4
  unfold softOf at h4
  split at h4
  case h_2 => cases h4
  rename_i t' a' hop
  split at h4
  case h_2 => cases h4
  rename_i b hw
  split at h4
  case h_2 => cases h4
  cases h4
  have hro : ∀ u, runO P call ops.toList o (L i) u = loadD P u t (evalO (L i) a') := by
    intro u
    unfold runO wantRun
    simp only [hw]
    unfold opD
    rw [hop]
    rfl
  have hrun := C.T.run i o R.op
  rw [hro] at hrun
  obtain ⟨id, off, e1, e2, e3, e4⟩ := loadD_same hrun
  have hrd : bit (X i).rd id := by rw [e2]; exact rd_self
  intro u hu
  refine ⟨id, ?_, e2⟩
  rw [hro]
  have key : h.get id = (S i).h.get id ∨ ∃ j, i < j ∧ j < ops.toList.length ∧ SoftAt P ss X i j ∧ h.get id = (X j).h.get id := by
    rcases D.bl id with ⟨j, p1, p2, p3, p4⟩ | ⟨p1, p4⟩
    · rcases Nat.lt_trichotomy j i with q | q | q
      · left
        rw [p4]
        refine Last.unique (E := E) (E' := fun j => j < i) (.inl ⟨j, p1, p2, p3, rfl⟩ : Last (WM ops.toList.length X) (fun j id => (X j).h.get id) (S 0).h.get E id ((X j).h.get id)) ?_ ?_
        · exact C.lastM id i (Nat.le_of_lt R.lt)
        · exact fun j' hj' => ⟨fun e => Nat.lt_of_le_of_lt (p3 j' e hj') q, fun e => earlyM C D R (.inl hrd) j' hj' e⟩
      · exact absurd (q ▸ p1) R.new
      · right
        have hb : ¬ bit (ftAt fs j).before i := fun hb => R.new (C.T.down D.closed D.inside j p1 i hb)
        refine ⟨j, q, p2.1, ?_, p4⟩
        rcases C.T.clashR (t := id) q p2.1 ⟨WM.bit C p2, by rw [(C.T.foot R.op).2.2.1]; exact hrd⟩ with r | r
        · exact absurd r hb
        · exact r
    · left
      rw [p4]
      refine Last.unique (E := E) (E' := fun j => j < i) (.inr ⟨p1, rfl⟩ : Last (WM ops.toList.length X) (fun j id => (X j).h.get id) (S 0).h.get E id ((S 0).h.get id)) (C.lastM id i (Nat.le_of_lt R.lt)) ?_
      exact fun j' hj' => ⟨fun e => absurd hj' (p1 j' e), fun e => earlyM C D R (.inl hrd) j' hj' e⟩
  rcases key with q | ⟨j, q1, q2, ⟨t2, a2, v2, k1, u2, u2', k2, k3⟩, q3⟩
  · exact e4 u (by rw [hu]; exact q)
  · rw [h1] at k1; cases k1
    obtain ⟨id2, off2, f1, _, _, f4⟩ := loadD_same k3
    rw [e1] at f1; cases f1
    exact f4 u (by rw [hu, q3, k2])
theorem Ctx.chain (C : Ctx P w0 n G call ops fs ss L S X V φ0) {i id : Nat} (hid : id < (X i).hi) : ∀ {j : Nat}, i + 1 ≤ j → j ≤ ops.toList.length → (S j).h.get id ≠ none → (S (i + 1)).h.get id ≠ none := by
  intro j hij
  induction hij with
  | refl => exact fun _ h => h
  | @step k hij ih =>
    intro hj hn
    rcases (C.g' hj).dom id hn with r | r
    · exact ih (Nat.le_of_succ_le hj) r
    · exact absurd hid (Nat.not_lt.2 (Nat.le_trans (C.xhi hij (Nat.le_of_succ_le hj)) r.1))
theorem Ctx.zero (C : Ctx P w0 n G call ops fs ss L S X V φ0) {i : Nat} (hi : i ≤ ops.toList.length) : (S 0).next ≤ (S i).next := (C.gs (Nat.zero_le _) hi).next
theorem unborn (C : Ctx P w0 n G call ops fs ss L S X V φ0) (D : Done w0 n ops L S X V φ0 E φ h l a w) {i : Nat} {o : Oper} (R : Ready ops E i o) (id : Nat) (h1 : (S i).next ≤ id) (h2 : id < (X i).hi) : h.get id = none := by
  have ht := Nat.lt_of_lt_of_le h2 (C.top R.lt)
  have e : h.get id = (S 0).h.get id := (D.bl id).unique (E' := fun _ => False) (.inr ⟨fun _ => False.elim, rfl⟩) fun j hj => by
    refine ⟨fun hE => ?_, False.elim⟩
    have hne : j ≠ i := fun q => R.new (q ▸ hE)
    have gj := C.g hj.1
    have hx := C.xnext hj.1
    rcases gj.oldw id hj.2 with r | ⟨r1, r2⟩ | r
    · exact bit_zero r
    · have hlt : id < (S j).next := by
        rcases Nat.lt_or_ge id (S j).next with q | q
        · exact q
        · exact absurd ((C.fullAt (Nat.le_of_lt hj.1)).get id q ht) r2
      have hij : i < j := by
        rcases Nat.lt_or_ge i j with q | q
        · exact q
        · have := (C.gs q (Nat.le_of_lt R.lt)).next
          omega
      have hn := C.chain h2 hij (Nat.le_of_lt hj.1) r2
      rw [C.sheap R.lt] at hn
      have hw : bit (X i).wr id := Classical.byContradiction fun hb => hn (((C.g R.lt).frame id hb).trans ((C.fullAt (Nat.le_of_lt R.lt)).get id h1 ht))
      obtain ⟨oj, hoj⟩ := opAt hj.1
      have hb := C.T.clashM (t := id) hij hj.1 ⟨by rw [(C.T.foot R.op).2.2.2]; exact hw, .inl (by rw [(C.T.foot hoj).2.2.1]; exact r1)⟩
      exact R.new (C.T.down D.closed D.inside j hE i hb)
    · have r1 : (S j).next ≤ id := r.1
      rcases Nat.lt_or_gt_of_ne hne with q | q
      · have := C.xhi q (Nat.le_of_lt R.lt)
        omega
      · have := C.xhi q (Nat.le_of_lt hj.1)
        omega
  rw [e]
  exact C.full.get id (Nat.le_trans (C.zero (Nat.le_of_lt R.lt)) h1) ht
theorem freshAt (C : Ctx P w0 n G call ops fs ss L S X V φ0) (D : Done w0 n ops L S X V φ0 E φ h l a w) {i : Nat} {o : Oper} (R : Ready ops E i o) (id : Nat) (h1 : (S i).next ≤ id) (h2 : id < (X i).hi) : φ id = none := by
  cases hφ : φ id with
  | none => rfl
  | some y =>
    exfalso
    rcases D.new id (by rw [hφ]; simp) with r | ⟨j, hE, r1, r2⟩
    · exact r (C.fresh id (Nat.le_trans (C.zero (Nat.le_of_lt R.lt)) h1) (Nat.lt_of_lt_of_le h2 (C.top R.lt)))
    · have hne : j ≠ i := fun q => R.new (q ▸ hE)
      have hjm := D.inside j hE
      have hx := C.xnext hjm
      rcases Nat.lt_or_gt_of_ne hne with q | q
      · have := C.xhi q (Nat.le_of_lt R.lt)
        omega
      · have := C.xhi q (Nat.le_of_lt hjm)
        omega
noncomputable def mix (h : Heap) (s : St) : St := { h := h, next := s.next, hi := s.next, rd := 0, wr := 0 }
theorem Done.next (C : Ctx P w0 n G call ops fs ss L S X V φ0) (D : Done w0 n ops L S X V φ0 E φ h l a w) {i : Nat} {o : Oper} (R : Ready ops E i o) {t' : St} {φ' : Ren} {a' : Act} {w' : World}
    (g : G1 (mix h (S i)) t') (p : PW (solo (S i)) (mix h (S i)) (X i) t') (hx : Ext φ φ' (S i).next t'.next) (hr : HR φ' t'.h w0 w') (hf : Fr n φ' (putD l o.dst (V i)) a') :
    Done w0 n ops L S X V φ0 (fun j => j = i ∨ E j) φ' t'.h (putD l o.dst (V i)) a' w' := by
  refine ⟨hr, hf, fun t => ?_, fun id => ?_, D.le.trans hx.le, fun id hid => ?_, fun j hj => ?_, fun j q e hj hq he hb => ?_⟩
  · cases hd : o.dst with
    | none => exact (D.tm t).skip (i := i) (fun ⟨o', h1, h2⟩ => by rw [R.op] at h1; cases h1; rw [hd] at h2; cases h2)
    | some d =>
      show Last _ _ _ _ t (lget (lset l d (V i)) t)
      rw [lget_set]
      by_cases e : t = d
      · rw [if_pos e]
        have hwt : WT ops.toList i t := ⟨o, R.op, by rw [hd, e]⟩
        exact Last.add (val := fun j _ => V j) (i := i) hwt (fun k hk hkw => Nat.le_of_lt ((agreeT C D R (.inr (WT.bit C hwt).2) k hkw).1 hk))
      · rw [if_neg e]
        exact (D.tm t).skip (i := i) (fun ⟨o', h1, h2⟩ => by rw [R.op] at h1; cases h1; rw [hd] at h2; cases h2; exact e rfl)
  · by_cases hb : bit (X i).wr id
    · have e : t'.h.get id = (X i).h.get id := by
        rcases p.pt id with q | ⟨q1, q2⟩
        · exact q
        · rw [q1, q2]; exact sameM C D R id (.inr hb)
      rw [e]
      exact Last.add (val := fun j id => (X j).h.get id) (i := i) ⟨R.lt, hb⟩ (fun k hk hkw => Nat.le_of_lt ((agreeM C D R (.inr hb) k hkw).1 hk))
    · have e : t'.h.get id = h.get id := g.frame id (by rw [p.wr]; exact hb)
      rw [e]
      exact (D.bl id).skip (i := i) (fun q => hb q.2)
  · rcases hx.new id hid with r | r
    · rcases D.new id r with r | ⟨j, r1, r2⟩
      · exact .inl r
      · exact .inr ⟨j, .inr r1, r2⟩
    · exact .inr ⟨i, .inl rfl, by rw [p.next] at r; exact r⟩
  · rcases hj with rfl | hj
    · exact R.lt
    · exact D.inside j hj
  · rcases hj with rfl | hj
    · rw [R.op] at hq; cases hq; exact .inr (R.edges e he hb)
    · exact .inr (D.closed j q e hj hq he hb)
theorem Done.step (C : Ctx P w0 n G call ops fs ss L S X V φ0) (D : Done w0 n ops L S X V φ0 E φ h l a w) {i : Nat} {o : Oper} (R : Ready ops E i o) {Q : Exit → Act → World → Prop} {K : Act → World → Prop}
    (k : ∀ φ' h' l' a' w', Done w0 n ops L S X V φ0 (fun j => j = i ∨ E j) φ' h' l' a' w' → K a' w') : wpOp P ops Q i K a w := by
  have hop : ops[i]? = some o := by rw [← Array.getElem?_toList]; exact R.op
  have hok := C.ok o (List.mem_of_getElem? R.op)
  unfold okOper at hok
  rw [Bool.and_eq_true] at hok
  obtain ⟨hwc, hrc⟩ := wantRun_congr (P := P) (call := call) (all := ops.toList) (o := o) (l := l) (l' := L i) (sameT C D R)
  have hrun := C.T.run i o R.op
  have htr := runO_tr C.hT ops.toList o (L i) _ _ _ hrun
  obtain ⟨t', ht', p⟩ : ∃ t', runO P call ops.toList o (L i) (mix h (S i)) = some (V i, t') ∧ PW (solo (S i)) (mix h (S i)) (X i) t' := by
    by_cases hh : Hard P ops ss X i
    · exact htr.2 (mix h (S i)) ⟨Nat.le_refl _, fun id q1 q2 => (C.fullAt (Nat.le_of_lt R.lt)).get id q1 (Nat.lt_of_lt_of_le q2 (C.top R.lt))⟩ ⟨rfl, rfl, rfl, rfl⟩
        (fun id q => sameM C D R id (.inl ⟨hh, q⟩)) (fun id q1 q2 => unborn C D R id q1 q2)
    · obtain ⟨k, hk⟩ := Classical.not_forall.1 hh
      obtain ⟨k1, hk⟩ := Classical.not_forall.1 hk
      obtain ⟨k2, hk⟩ := Classical.not_forall.1 hk
      obtain ⟨id, e1, e2⟩ := softly C D R k1 k2 (Classical.not_not.1 hk) (mix h (S i)) rfl
      refine ⟨_, e1, ?_⟩
      rw [e2]
      exact PW.read (s := solo (S i)) (t := mix h (S i)) ⟨rfl, rfl, rfl, rfl⟩ id
  have g := (runO_tr C.hT ops.toList o (L i) _ _ _ ht').1
  have ht2 : runO P call ops.toList o l (mix h (S i)) = some (V i, t') := by unfold runO at ht' ⊢; rw [hrc]; exact ht'
  unfold wpOp
  rw [hop]
  simp only
  unfold runO wantRun at ht2
  cases hw : wantedD ops.toList l o with
  | none => simp [hw] at ht2
  | some b =>
    simp only [hw] at ht2
    have hwant := wanted_ok D.fr hw
    cases b with
    | false =>
      simp only [Option.some.injEq, Prod.mk.injEq] at ht2
      obtain ⟨e1, e2⟩ := ht2
      rw [if_neg (by rw [hwant]; simp)]
      refine k φ t'.h (putD l o.dst (V i)) _ _ (D.next C R g p (Ext.refl _ _ _) ?_ ?_)
      · rw [← e2]; exact D.hr
      · rw [← e1]; exact D.fr.put hok.2 .skip
    | true =>
      simp only at ht2
      rw [if_pos hwant]
      left
      have hgv := opD_ok (ρ := a.eval) C.hcall C.hT ht2 D.hr (C.glob.mono D.le) (fun x hx => evalO_ok (C.glob.mono D.le) D.fr (okOperands_mem hok.1 x hx))
        (fun id q1 q2 => freshAt C D R id q1 (by rw [p.hi] at q2; exact q2)) ⟨Nat.le_refl _, fun id q1 q2 => unborn C D R id q1 (by rw [p.hi] at q2; exact q2)⟩
      refine hgv.wp fun φ' v' w' e hv H' => ?_
      exact k φ' t'.h (putD l o.dst (V i)) _ _ (D.next C R g p e H' ((D.fr.mono e.le).put hok.2 hv))
end
end Go.Det
end

section
/- A part of an evaluator of closed runs and of its soundness. -/
namespace Go.Det
variable {P : Program}
def cnt (listed : Array Bool) : Nat → Nat
  | 0 => 0
  | k + 1 => cnt listed k + (if listed.getD k false = true then 1 else 0)
theorem cnt_le (listed : Array Bool) : ∀ k, cnt listed k ≤ k
  | 0 => Nat.le_refl _
  | k + 1 => by have := cnt_le listed k; unfold cnt; split <;> omega
theorem cnt_all {listed : Array Bool} : ∀ {k : Nat}, cnt listed k = k → ∀ j, j < k → listed.getD j false = true
  | 0, _, j, hj => by omega
  | k + 1, h, j, hj => by
    have h1 := cnt_le listed k
    unfold cnt at h
    split at h
    · rename_i hk
      by_cases e : j = k
      · rw [e]; exact hk
      · exact cnt_all (k := k) (by omega) j (by omega)
    · omega
theorem getD_set (listed : Array Bool) (i j : Nat) (hi : i < listed.size) : (listed.setIfInBounds i true).getD j false = if j = i then true else listed.getD j false := by
  by_cases e : j = i
  · subst e; simp [Array.getD_eq_getD_getElem?, hi]
  · simp [Array.getD_eq_getD_getElem?, Array.getElem?_setIfInBounds_ne (Ne.symm e), e]
theorem cnt_set {listed : Array Bool} {i : Nat} (hi : i < listed.size) (hn : listed.getD i false = false) : ∀ k, cnt (listed.setIfInBounds i true) k = cnt listed k + (if i < k then 1 else 0)
  | 0 => by simp [cnt]
  | k + 1 => by
    unfold cnt
    rw [cnt_set hi hn k, getD_set _ _ _ hi]
    by_cases e : k = i
    · subst e; rw [hn]; simp
    · rw [if_neg e]
      by_cases q : i < k
      · have q' : i < k + 1 := by omega
        simp only [q, q', if_true]; omega
      · have q' : ¬ i < k + 1 := by omega
        simp only [q, q', if_false]; omega
section
variable {w0 : World} {n G : Nat} {call : Call} {ops : Array Oper} {fs : List Foot} {ss : List Soft} {L : Nat → Tmps} {S X : Nat → St} {V : Nat → Value} {φ0 : Ren}
theorem ready_mem {listed : Array Bool} {i : Nat} (h : i ∈ Region.ready .any ops listed) (hs : listed.size = ops.size) : ∃ o, Ready ops (fun j => listed.getD j false = true) i o := by
  unfold Region.ready at h
  rw [List.mem_filter, List.mem_range] at h
  obtain ⟨hi, h⟩ := h
  rw [Bool.and_eq_true] at h
  obtain ⟨h1, h2⟩ := h
  have ho : ops[i]? = some ops[i] := Array.getElem?_eq_getElem hi
  refine ⟨ops[i], by rw [Array.getElem?_toList]; exact ho, ?_, ?_⟩
  · intro hl
    have e : listed.getD i true = listed.getD i false := by simp [Array.getD_eq_getD_getElem?, hs ▸ hi]
    rw [e, hl] at h1
    simp at h1
  · intro e he hb
    rw [ho] at h2
    simp only [Option.map_some, Option.getD_some, Array.all_eq_true'] at h2
    have := h2 e (by simpa using he)
    rw [hb] at this
    simpa using this
theorem ready_of {listed : Array Bool} {i : Nat} {o : Oper} (R : Ready ops (fun j => listed.getD j false = true) i o) (hs : listed.size = ops.size) : i ∈ Region.ready .any ops listed := by
  have hi : i < ops.size := by have := R.lt; simpa using this
  unfold Region.ready
  rw [List.mem_filter, List.mem_range]
  refine ⟨hi, ?_⟩
  have ho : ops[i]? = some o := by rw [← Array.getElem?_toList]; exact R.op
  rw [Bool.and_eq_true]
  refine ⟨?_, ?_⟩
  · have e : listed.getD i true = listed.getD i false := by simp [Array.getD_eq_getD_getElem?, hs ▸ hi]
    rw [e]
    cases hl : listed.getD i false
    · rfl
    · exact absurd hl R.new
  · rw [ho]
    simp only [Option.map_some, Option.getD_some, Array.all_eq_true']
    intro e he
    cases hb : Region.binds .any e with
    | false => rfl
    | true => rw [R.edges e (by simpa using he) hb]; rfl
theorem all_listed (C : Ctx P w0 n G call ops fs ss L S X V φ0) {listed : Array Bool} (hs : listed.size = ops.size) (hr : Region.ready .any ops listed = []) : ∀ j, j < ops.toList.length → listed.getD j false = true := by
  intro j
  induction j using Nat.strongRecOn with
  | _ j ih =>
    intro hj
    obtain ⟨o, ho⟩ := opAt hj
    refine Classical.byContradiction fun hn => ?_
    have := ready_of (ops := ops) (i := j) (o := o) ⟨ho, hn, fun e he hb => ih e.on (C.T.edge ho he hb) (Nat.lt_trans (C.T.edge ho he hb) hj)⟩ hs
    rw [hr] at this
    cases this
theorem Ctx.final (C : Ctx P w0 n G call ops fs ss L S X V φ0) {E : Nat → Prop} {φ : Ren} {h : Heap} {l : Tmps} {a : Act} {w : World} (D : Done w0 n ops L S X V φ0 E φ h l a w)
    (hE : ∀ j, j < ops.toList.length → E j) : Ext φ0 φ (S 0).next (S ops.toList.length).next ∧ HR φ (S ops.toList.length).h w0 w ∧ Fr n φ (L ops.toList.length) a := by
  have hiff : ∀ j, E j ↔ j < ops.toList.length := fun j => ⟨D.inside j, hE j⟩
  refine ⟨⟨D.le, fun id hid => ?_⟩, D.hr.same (fun id cs t ro hg => ?_) (fun id es hg => ?_), ⟨D.fr.size, fun t => ?_, D.fr.defers⟩⟩
  · rcases D.new id hid with r | ⟨j, r1, r2, r3⟩
    · exact .inl r
    · right
      have hj := D.inside j r1
      have := C.xnext hj
      have := C.xhi hj (Nat.le_refl _)
      have := C.zero (Nat.le_of_lt hj)
      omega
  · rw [(D.bl id).unique (C.lastM id _ (Nat.le_refl _)) fun j _ => hiff j]; exact hg
  · rw [(D.bl id).unique (C.lastM id _ (Nat.le_refl _)) fun j _ => hiff j]; exact hg
  · rw [← (D.tm t).unique (C.lastT t _ (Nat.le_refl _)) fun j _ => hiff j]; exact D.fr.tmp t
theorem wpAny_ok (C : Ctx P w0 n G call ops fs ss L S X V φ0) {Q : Exit → Act → World → Prop}
    (hQ : ∀ φ a w, Ext φ0 φ (S 0).next (S ops.toList.length).next → HR φ (S ops.toList.length).h w0 w → Fr n φ (L ops.toList.length) a → Q .normal a w) :
    ∀ (fuel : Nat) (listed : Array Bool) (φ : Ren) (h : Heap) (l : Tmps) (a : Act) (w : World), listed.size = ops.size → ops.size ≤ cnt listed ops.size + fuel →
      Done w0 n ops L S X V φ0 (fun j => listed.getD j false = true) φ h l a w → wpAny P .any ops Q fuel listed a w
  | 0, listed, φ, h, l, a, w, hs, hc, D => by
    have hall : ∀ j, j < ops.toList.length → listed.getD j false = true := fun j hj => cnt_all (k := ops.size) (by have := cnt_le listed ops.size; omega) j (by simpa using hj)
    refine ⟨?_, ?_⟩
    · cases hr : Region.ready .any ops listed with
      | nil => rfl
      | cons i t =>
        obtain ⟨o, R⟩ := ready_mem (ops := ops) (i := i) (listed := listed) (by rw [hr]; simp) hs
        exact absurd (hall i R.lt) R.new
    · obtain ⟨e1, e2, e3⟩ := C.final D hall
      exact hQ φ a w e1 e2 e3
  | fuel + 1, listed, φ, h, l, a, w, hs, hc, D => by
    refine ⟨fun hr => ?_, fun i hi => ?_⟩
    · obtain ⟨e1, e2, e3⟩ := C.final D (all_listed C hs hr)
      exact hQ φ a w e1 e2 e3
    · obtain ⟨o, R⟩ := ready_mem hi hs
      have him : i < ops.size := by have := R.lt; simpa using this
      have hil : i < listed.size := hs ▸ him
      refine Done.step C D R fun φ' h' l' a' w' D' => ?_
      refine wpAny_ok C hQ fuel _ φ' h' l' a' w' (by simpa using hs) ?_ ?_
      · have hn : listed.getD i false = false := by
          cases hl : listed.getD i false
          · rfl
          · exact absurd hl R.new
        rw [cnt_set hil hn, if_pos him]; omega
      · have e : (fun j => j = i ∨ listed.getD j false = true) = (fun j => (listed.setIfInBounds i true).getD j false = true) := by
          funext j
          rw [getD_set _ _ _ hil]
          by_cases q : j = i
          · simp [q]
          · simp [q]
        rw [← e]; exact D'
theorem drawD_ok (hcall : CallOk P w0 G call) (hT : ∀ f args, Tr (call f args)) (hm : P.follows .mixedOrders = true) {ops : Array Oper} (hok : ∀ o ∈ ops.toList, okOper n G o = true) {Q : Exit → Act → World → Prop}
    {id : Nat} {l : Tmps} {s : St} {l' : Tmps} {s' : St} {φ : Ren} {a : Act} {w : World} (h : drawD P call ops.toList ops.toList [] [] l s = some (l', s')) (H : HR φ s.h w0 w) (hG : Glob G φ) (hF : Fr n φ l a)
    (hf : ∀ id, s.next ≤ id → id < s'.hi → φ id = none) (hi : Full s'.hi s)
    (k : ∀ φ' a' w', Ext φ φ' s.next s'.next → HR φ' s'.h w0 w' → Fr n φ' l' a' → Q .normal a' w') : (Code.region id ops true).wp P Q a w := by
  obtain ⟨fs, ss, L, S, X, V, T, e1, e2, e3, e4⟩ := drawD_trace _ _ _ _ _ _ _ h
  subst e1; subst e2; subst e3; subst e4
  have C : Ctx P w0 n G call ops fs ss L S X V φ := ⟨hcall, hT, T, hi, hf, hG, hok⟩
  refine wp_region_any hm (wpAny_ok C k ops.size _ φ (S 0).h (L 0) a _ (by simp) (by omega) ?_)
  have hno : ∀ j, ¬ ((Array.replicate ops.size false).getD j false = true) := by
    intro j
    by_cases hj : j < ops.size <;> simp [Array.getD_eq_getD_getElem?, hj]
  exact ⟨H.drawn _, hF, fun t => .inr ⟨fun j hj => absurd hj (hno j), rfl⟩, fun id => .inr ⟨fun j hj => absurd hj (hno j), rfl⟩, Le.refl _, fun id h => .inl h, fun j hj => absurd hj (hno j), fun j _ _ hj => absurd hj (hno j)⟩
end
end Go.Det
end

section
/- A part of an evaluator of closed runs and of its soundness. -/
namespace Go.Det
variable {P : Program}
noncomputable def okOpers (n G : Nat) : List Oper → Bool
  | [] => true
  | o :: t => okOper n G o && okOpers n G t
theorem okOpers_mem {n G : Nat} : ∀ {l : List Oper}, okOpers n G l = true → ∀ o ∈ l, okOper n G o = true
  | [], _, o, ho => by cases ho
  | x :: t, h, o, ho => by
    simp only [okOpers, Bool.and_eq_true] at h
    rcases List.mem_cons.1 ho with rfl | ho
    · exact h.1
    · exact okOpers_mem h.2 o ho
noncomputable def okCode (n G : Nat) : Code → Bool
  | .region _ ops _ => okOpers n G ops.toList
  | .seq a b => okCode n G a && okCode n G b
  | .cond c a b => okOperand G c && (okCode n G a && okCode n G b)
  | .block _ a => okCode n G a
  | .loop a => okCode n G a
  | _ => true
def Ex.out : Ex → Exit
  | .normal => .normal
  | .exit id => .exit id
  | .ret => .ret
theorem wp_rounds {c : Code} {Q : Exit → Act → World → Prop} (R : Nat → Act → World → Prop) (h0 : ∀ a w, R 0 a w → False)
    (hs : ∀ k a w, R (k + 1) a w → c.wp P (Exit.then (R k) Q) a w) {k : Nat} {a : Act} {w : World} (h : R k a w) : (Code.loop c).wp P Q a w := by
  intro b t cs
  have key : ∀ k a w, R k a w → ∃ e a' w', Q e a' w' ∧ Arrives P (lone (b.at a (.code c :: .inLoop c :: t)) cs w) b t cs e a' w' := by
    intro k
    induction k with
    | zero => exact fun a w h => (h0 a w h).elim
    | succ k ih =>
      intro a w h
      obtain ⟨e, a₁, w₁, hq, harr⟩ := hs k a w h b (.inLoop c :: t) cs
      cases e with
      | normal =>
        obtain ⟨e₂, a₂, w₂, hq₂, harr₂⟩ := ih a₁ w₁ hq
        exact ⟨e₂, a₂, w₂, hq₂, .of_steps (Steps.trans harr (.one step_inLoop)) harr₂⟩
      | exit id => exact ⟨_, a₁, w₁, hq, .pass (x := .inLoop c) rfl (fun _ _ => .inl (by simp)) harr⟩
      | goto l => exact ⟨_, a₁, w₁, hq, .pass (x := .inLoop c) rfl (fun _ _ => .inl (by simp)) harr⟩
      | ret => exact ⟨_, a₁, w₁, hq, .pass (x := .inLoop c) rfl (fun _ _ => .inl (by simp)) harr⟩
      | panic ch => exact ⟨_, a₁, w₁, hq, .pass (x := .inLoop c) rfl (fun _ _ => .inl (by simp)) harr⟩
      | outgrown => exact ⟨_, a₁, w₁, hq, .pass (x := .inLoop c) rfl (fun _ _ => .inl (by simp)) harr⟩
  obtain ⟨e, a', w', hq, harr⟩ := key k a w h
  exact ⟨e, a', w', hq, .of_steps (.one step_loop) harr⟩
section
variable {w0 : World} {n G : Nat}
structure Pre (w0 : World) (n G : Nat) (l : Tmps) (s s' : St) (φ : Ren) (a : Act) (w : World) : Prop where
  hr : HR φ s.h w0 w
  glob : Glob G φ
  fr : Fr n φ l a
  fresh : ∀ id, s.next ≤ id → id < s'.hi → φ id = none
  full : Full s'.hi s
theorem Pre.sub {l : Tmps} {s s' s1 : St} {φ : Ren} {a : Act} {w : World} (p : Pre w0 n G l s s' φ a w) (h : s1.hi ≤ s'.hi) : Pre w0 n G l s s1 φ a w :=
  ⟨p.hr, p.glob, p.fr, fun id q1 q2 => p.fresh id q1 (Nat.lt_of_lt_of_le q2 h), p.full.mono h⟩
theorem Pre.next {l l1 : Tmps} {s s' s1 : St} {φ φ1 : Ren} {a a1 : Act} {w w1 : World} (p : Pre w0 n G l s s' φ a w) (g : G1 s s1) (e : Ext φ φ1 s.next s1.next) (H : HR φ1 s1.h w0 w1) (F : Fr n φ1 l1 a1) :
    Pre w0 n G l1 s1 s' φ1 a1 w1 := by
  refine ⟨H, p.glob.mono e.le, F, fun id q1 q2 => ?_, p.full.step g⟩
  cases hφ : φ1 id with
  | none => rfl
  | some y =>
    rcases e.new id (by rw [hφ]; simp) with r | r
    · exact absurd (p.fresh id (Nat.le_trans g.next q1) q2) r
    · omega
def Post (w0 : World) (n : Nat) (φ : Ren) (s : St) (l' : Tmps) (s' : St) (φ' : Ren) (a' : Act) (w' : World) : Prop := Ext φ φ' s.next s'.next ∧ HR φ' s'.h w0 w' ∧ Fr n φ' l' a'
def Sound (P : Program) (w0 : World) (n G : Nat) (f : CodeF) (c : Code) : Prop :=
  ∀ l s e l' s' φ a w, f l s = some (e, l', s') → Pre w0 n G l s s' φ a w → ∀ Q : Exit → Act → World → Prop,
    (∀ φ' a' w', Post w0 n φ s l' s' φ' a' w' → Q e.out a' w') → c.wp P Q a w
theorem asc_some {r : Option (Ex × Tmps × St)} {e : Ex} {l : Tmps} {s : St} (h : r = some (e, l, s)) : asc r = some ((e, l), s) := by rw [h]; rfl
theorem TrC.g {f : CodeF} (h : TrC f) {l : Tmps} {s : St} {e : Ex} {l' : Tmps} {s' : St} (k : f l s = some (e, l', s')) : G1 s s' := (h l s (e, l') s' (asc_some k)).1
theorem cSeq_some {f g : CodeF} {l : Tmps} {s : St} {e : Ex} {l' : Tmps} {s' : St} (h : cSeq f g l s = some (e, l', s')) :
    (∃ l1 s1, f l s = some (.normal, l1, s1) ∧ g l1 s1 = some (e, l', s')) ∨ (f l s = some (e, l', s') ∧ ∀ R : Act → World → Prop, ∀ Q, Exit.then R Q e.out = Q e.out) := by
  unfold cSeq andThen at h
  cases hf : f l s with
  | none => rw [hf] at h; cases h
  | some x =>
    obtain ⟨e1, l1, s1⟩ := x
    rw [hf] at h
    cases e1 with
    | normal => exact .inl ⟨l1, s1, rfl, h⟩
    | exit id => simp only [Option.some.injEq, Prod.mk.injEq] at h; obtain ⟨rfl, rfl, rfl⟩ := h; exact .inr ⟨rfl, fun _ _ => rfl⟩
    | ret => simp only [Option.some.injEq, Prod.mk.injEq] at h; obtain ⟨rfl, rfl, rfl⟩ := h; exact .inr ⟨rfl, fun _ _ => rfl⟩
theorem seq_sound {f g : CodeF} {c d : Code} (hf : TrC f) (hg : TrC g) (sf : Sound P w0 n G f c) (sg : Sound P w0 n G g d) : Sound P w0 n G (cSeq f g) (.seq c d) := by
  intro l s e l' s' φ a w h p Q hQ
  refine wp_seq ?_
  rcases cSeq_some h with ⟨l1, s1, h1, h2⟩ | ⟨h1, h2⟩
  · have g1 := hf.g h1
    have g2 := hg.g h2
    refine sf l s _ l1 s1 φ a w h1 (p.sub g2.hi) _ fun φ1 a1 w1 q => ?_
    exact sg l1 s1 e l' s' φ1 a1 w1 h2 (p.next g1 q.1 q.2.1 q.2.2) Q fun φ2 a2 w2 q2 => hQ φ2 a2 w2 ⟨q.1.trans q2.1 (Nat.le_refl _) g2.next g1.next (Nat.le_refl _), q2.2⟩
  · refine sf l s e l' s' φ a w h1 p _ fun φ1 a1 w1 q => ?_
    rw [h2]; exact hQ φ1 a1 w1 q
theorem loop_sound {f : CodeF} {c : Code} (hf : TrC f) (sf : Sound P w0 n G f c) (k : Nat) : Sound P w0 n G (cLoop k f) (.loop c) := by
  intro l s e l' s' φ a w h p Q hQ
  refine wp_rounds (fun k a w => ∃ l s φ, cLoop k f l s = some (e, l', s') ∧ Pre w0 n G l s s' φ a w ∧ ∀ φ' a' w', Post w0 n φ s l' s' φ' a' w' → Q e.out a' w') ?_ ?_ (k := k) ⟨l, s, φ, h, p, hQ⟩
  · rintro a w ⟨l, s, φ, h, _⟩; cases h
  · rintro k a w ⟨l, s, φ, h, p, hQ⟩
    rcases cSeq_some (f := f) (g := cLoop k f) h with ⟨l1, s1, h1, h2⟩ | ⟨h1, h2⟩
    · have g1 := hf.g h1
      have g2 := (cLoop_tr hf k).g h2
      refine sf l s _ l1 s1 φ a w h1 (p.sub g2.hi) _ fun φ1 a1 w1 q => ?_
      exact ⟨l1, s1, φ1, h2, p.next g1 q.1 q.2.1 q.2.2, fun φ2 a2 w2 q2 => hQ φ2 a2 w2 ⟨q.1.trans q2.1 (Nat.le_refl _) g2.next g1.next (Nat.le_refl _), q2.2⟩⟩
    · refine sf l s e l' s' φ a w h1 p _ fun φ1 a1 w1 q => ?_
      rw [h2]; exact hQ φ1 a1 w1 q
theorem ofTS_some {r : Option (Tmps × St)} {e : Ex} {l : Tmps} {s : St} (h : ofTS r = some (e, l, s)) : e = .normal ∧ r = some (l, s) := by
  unfold ofTS at h
  split at h
  · rename_i x
    simp only [Option.some.injEq, Prod.mk.injEq] at h
    obtain ⟨rfl, rfl, rfl⟩ := h
    exact ⟨rfl, rfl⟩
  · cases h
theorem code_sound {call : Call} (hcall : CallOk P w0 G call) (hT : ∀ f args, Tr (call f args)) (hm : P.follows .mixedOrders = true) (k : Nat) (c : Code) (hok : okCode n G c = true) :
    Sound P w0 n G (codeD P call k c) c := by
  induction c with
  | skip =>
    intro l s e l' s' φ a w h p Q hQ
    cases h
    exact wp_skip (hQ φ a w ⟨Ext.refl _ _ _, p.hr, p.fr⟩)
  | region id ops draw =>
    have hops := okOpers_mem (l := ops.toList) hok
    clear hok
    intro l s e l' s' φ a w h p Q hQ
    cases draw with
    | true =>
      obtain ⟨rfl, h2⟩ := ofTS_some (r := drawD P call ops.toList ops.toList [] [] l s) h
      exact drawD_ok hcall hT hm hops h2 p.hr p.glob p.fr p.fresh p.full fun φ' a' w' q1 q2 q3 => hQ φ' a' w' ⟨q1, q2, q3⟩
    | false =>
      obtain ⟨rfl, h2⟩ := ofTS_some (r := opsD P call ops.toList ops.toList l s) h
      exact wp_region_list (opsD_ok hcall hT ops ops.toList hops l s l' s' φ a w h2 p.hr p.glob p.fr p.fresh p.full fun φ' a' w' q1 q2 q3 => hQ φ' a' w' ⟨q1, q2, q3⟩)
  | seq a b ha hb =>
    simp only [okCode, Bool.and_eq_true] at hok
    exact seq_sound (codeD_tr hT k a) (codeD_tr hT k b) (ha hok.1) (hb hok.2)
  | cond c a b ha hb =>
    simp only [okCode, Bool.and_eq_true] at hok
    intro l s e l' s' φ a' w h p Q hQ
    have hv := evalO_ok p.glob p.fr hok.1
    change cCond c (codeD P call k a) (codeD P call k b) l s = _ at h
    unfold cCond at h
    split at h
    case h_2 => cases h
    rename_i t ht
    rw [ht] at hv
    refine wp_cond (t := t) (bool_inv hv) ?_
    cases t with
    | true => exact ha hok.2.1 l s e l' s' φ a' w h p Q hQ
    | false => exact hb hok.2.2 l s e l' s' φ a' w h p Q hQ
  | block id c ih =>
    intro l s e l' s' φ a w h p Q hQ
    refine wp_block ?_
    change cBlock id (codeD P call k c) l s = _ at h
    unfold cBlock unblock at h
    cases hr : codeD P call k c l s with
    | none => rw [hr] at h; cases h
    | some x =>
      obtain ⟨e1, l1, s1⟩ := x
      rw [hr] at h
      cases e1 with
      | normal =>
        simp only [Option.some.injEq, Prod.mk.injEq] at h
        obtain ⟨rfl, rfl, rfl⟩ := h
        exact ih hok l s _ l1 s1 φ a w hr p _ hQ
      | ret =>
        simp only [Option.some.injEq, Prod.mk.injEq] at h
        obtain ⟨rfl, rfl, rfl⟩ := h
        exact ih hok l s _ l1 s1 φ a w hr p _ hQ
      | exit i =>
        simp only at h
        cases hb : Nat.beq i id with
        | true =>
          rw [hb] at h
          simp only [Option.some.injEq, Prod.mk.injEq] at h
          obtain ⟨rfl, rfl, rfl⟩ := h
          refine ih hok l s _ l1 s1 φ a w hr p _ fun φ' a' w' q => ?_
          show (if i = id then Q .normal a' w' else Q (.exit i) a' w')
          rw [if_pos (Nat.eq_of_beq_eq_true hb)]
          exact hQ φ' a' w' q
        | false =>
          rw [hb] at h
          simp only [Option.some.injEq, Prod.mk.injEq] at h
          obtain ⟨rfl, rfl, rfl⟩ := h
          refine ih hok l s _ l1 s1 φ a w hr p _ fun φ' a' w' q => ?_
          show (if i = id then Q .normal a' w' else Q (.exit i) a' w')
          rw [if_neg (Nat.ne_of_beq_eq_false hb)]
          exact hQ φ' a' w' q
  | loop c ih => exact loop_sound (codeD_tr hT k c) (ih hok) k
  | exit id =>
    intro l s e l' s' φ a w h p Q hQ
    cases h
    exact wp_exit (hQ φ a w ⟨Ext.refl _ _ _, p.hr, p.fr⟩)
  | ret =>
    intro l s e l' s' φ a w h p Q hQ
    cases h
    exact wp_ret (hQ φ a w ⟨Ext.refl _ _ _, p.hr, p.fr⟩)
  | _ => intro l s e l' s' φ a w h; cases h
end
end Go.Det
end

section
/- A part of an evaluator of closed runs and of its soundness. -/
namespace Go.Det
variable {P : Program}
section
variable {w0 : World} {n G : Nat}
def resOne (tmps : Array Value) : ResultVar → Sem Value
  | .tmp t => pure (tmps.getD t undef)
  | .cell a t => do loadVar t (← asAddr (tmps.getD a undef))
theorem loadD_run {s s' : St} {t : TypeId} {x x' v : Value} {φ : Ren} {w : World} (h : loadD P s t x = some (v, s')) (H : HR φ s.h w0 w) (hx : VR φ x x') :
    ∃ ad v', x' = .pointer (some ad) ∧ (loadVar t ad).run P w = .ok v' w ∧ VR φ v v' ∧ s'.h = s.h ∧ s'.next = s.next := by
  unfold loadD at h
  split at h
  case h_2 => cases h
  rename_i id off
  split at h
  case h_2 => cases h
  rename_i cs e ro hg
  obtain ⟨b, sh, sz, e1, hp⟩ := ptr_inv hx
  obtain ⟨b', sh', sz', c, fz, k⟩ := H.cells _ _ _ _ hg
  have := k.at_; rw [e1] at this; cases this
  split at h
  · rename_i hb
    split at h
    case h_2 => cases h
    rename_i n hn
    split at h
    case h_2 => cases h
    rename_i r hr
    simp only [Option.some.injEq, Prod.mk.injEq] at h
    obtain ⟨rfl, rfl⟩ := h
    rw [ldrop_eq] at hr
    obtain ⟨rfl, hle⟩ := ltake_some hr
    by_cases h0 : n = 0
    · subst h0
      refine ⟨_, .agg #[], hp, ?_, ?_, rfl, rfl⟩
      · simp [loadVar, isAggB_run hb, szOf_run hn, loadCells, loadCellsFrom]
      · rw [List.take_zero]; exact VR.agg_of (VRL.nil φ)
    · obtain ⟨r', hrun, hrel⟩ := loadCells_run (P := P) (n := n) (off := off) k (by simp at hle; omega)
      obtain ⟨r'⟩ := r'
      refine ⟨_, .agg ⟨r'⟩, hp, ?_, VR.agg_of hrel, rfl, rfl⟩
      simp [loadVar, isAggB_run hb, szOf_run hn, hrun]
  · rename_i hb
    split at h
    case h_2 => cases h
    rename_i v1 t1 hd
    simp only [Option.some.injEq, Prod.mk.injEq] at h
    obtain ⟨rfl, rfl⟩ := h
    rw [ldrop_eq] at hd
    have hlt : off < cs.length := by
      rcases Nat.lt_or_ge off cs.length with q | q
      · exact q
      · rw [List.drop_eq_nil_of_le q] at hd; cases hd
    have hv1 : cs.getD off und = v1 := by
      rw [List.getD_eq_getElem?_getD, show cs[off]? = (cs.drop off)[0]? by rw [List.getElem?_drop]; rfl, hd]; rfl
    have hc := k.cell off hlt
    rw [hv1] at hc
    have hcell := cell_at k.blk (sh + off) (by rw [k.size]; have := k.fit; omega)
    exact ⟨_, _, hp, by simp [loadVar, isAggB_run hb, hcell], hc, rfl, rfl⟩
  · cases h
theorem resD_ok {tmps : Array Value} {l : Tmps} : ∀ (rs : List ResultVar) {s : St} {vs : List Value} {s' : St} {φ : Ren} {w : World}, resD P l s rs = some (vs, s') → HR φ s.h w0 w → (∀ t, VR φ (lget l t) (tmps.getD t undef)) →
    ∃ vs', (rs.mapM (resOne tmps)).run P w = .ok vs' w ∧ VRL φ vs vs' ∧ s'.h = s.h ∧ s'.next = s.next
  | [], s, vs, s', φ, w, h, H, _ => by
    rw [resD_nil] at h
    cases h
    exact ⟨[], by simp, VRL.nil _, rfl, rfl⟩
  | .tmp t :: rest, s, vs, s', φ, w, h, H, hl => by
    rw [resD_tmp] at h
    split at h
    case h_2 => cases h
    rename_i vs1 s1 h1
    cases h
    obtain ⟨vs', r1, r3, r4, r5⟩ := resD_ok rest h1 H hl
    refine ⟨tmps.getD t undef :: vs', ?_, VRL.cons (hl t) r3, r4, r5⟩
    simp only [List.mapM_cons, resOne, pure_bind, Sem.run_bind, r1, Result.andThen_ok, Sem.run_pure]
  | .cell a t :: rest, s, vs, s', φ, w, h, H, hl => by
    rw [resD_cell] at h
    split at h
    case h_2 => cases h
    rename_i v s1 h1
    split at h
    case h_2 => cases h
    rename_i vs1 s2 h2
    cases h
    obtain ⟨ad, v', had, hr, hv, e1, e2⟩ := loadD_run h1 H (hl a)
    obtain ⟨vs', r1, r3, r4, r5⟩ := resD_ok rest h2 (by rw [e1]; exact H) hl
    refine ⟨v' :: vs', ?_, VRL.cons hv r3, r4.trans e1, r5.trans e2⟩
    simp only [List.mapM_cons, resOne, had, asAddr, pure_bind, Sem.run_bind, hr, r1, Result.andThen_ok, Sem.run_pure]
theorem results_run {fn : Func} {tmps : Array Value} {w w' : World} {vs : List Value} (h : (fn.results.toList.mapM (resOne tmps)).run P w = .ok vs w') :
    (results fn tmps).run P w = .ok (valOf vs) w' := by
  have e : results fn tmps = (do let vs ← fn.results.mapM (resOne tmps); pure (if h : vs.size = 1 then vs[0] else .tuple vs)) := by
    unfold results
    congr 1
  rw [e, Array.mapM_eq_mapM_toList]
  simp only [map_eq_pure_bind, bind_assoc, pure_bind, Sem.run_bind, h, Result.andThen_ok, Sem.run_pure]
  match vs with
  | [] => rfl
  | [v] => rfl
  | v :: u :: t => rfl
theorem valOf_ok {φ : Ren} {vs vs' : List Value} (h : VRL φ vs vs') : VR φ (valOf vs) (valOf vs') := by
  match vs, vs' with
  | [], [] => exact VR.tuple_of h
  | [v], [v'] => exact h.2 0
  | a :: b :: t, a' :: b' :: t' => exact VR.tuple_of h
  | [], _ :: _ => exact absurd h.1 (by simp)
  | _ :: _, [] => exact absurd h.1 (by simp)
  | [_], _ :: _ :: _ => exact absurd h.1 (by simp)
  | _ :: _ :: _, [_] => exact absurd h.1 (by simp)
theorem flat_inv {φ : Ren} {v v' : Value} (h : flat v = true) (k : VR φ v v') (hne : v ≠ und) : v' = v := by
  unfold flat at h
  split at h
  · cases k with
    | any => exact absurd rfl hne
    | tuple a a' e q => rw [flat2L_inv h ⟨e, q⟩]
  · exact flat2_inv h k
theorem flat_any {v v' : Value} {φ φ' : Ren} (h : flat v = true) (k : VR φ v v') : VR φ' v v' := by
  by_cases e : v = und
  · subst e; exact .any _
  · rw [flat_inv h k e]; exact flat_self h φ'
theorem gc_ok {s y s' : St} {v v1 v' : Value} {φ φ1 : Ren} {w w' : World} (h : gcD s v1 y = some (v, s')) (H : HR φ s.h w0 w) (g : G1 (noWr s) y) (hf : ∀ id, s.next ≤ id → id < s'.hi → φ id = none) (hle : s.next ≤ s.hi)
    (e : Ext φ φ1 s.next y.next) (hv : VR φ1 v1 v') (H1 : HR φ1 y.h w0 w') : ∃ φ', Ext φ φ' s.next s'.next ∧ VR φ' v v' ∧ HR φ' s'.h w0 w' := by
  unfold gcD at h
  cases hc : (flat v1 && (Nat.beq (Nat.mod y.wr (Nat.shiftLeft 1 s.next)) 0 && Nat.ble (Nat.lor y.rd y.wr + 1) (Nat.shiftLeft 1 y.next))) <;> rw [hc] at h <;> simp only [Option.some.injEq, Prod.mk.injEq] at h <;> obtain ⟨rfl, rfl⟩ := h
  · exact ⟨φ1, e, hv, H1⟩
  · simp only [Bool.and_eq_true] at hc
    have hk : ∀ id, φ id ≠ none → y.h.get id = s.h.get id := by
      intro id hne
      refine g.frame id fun hb => ?_
      have h1 : id < y.next := bit_lt (Nat.le_of_ble_eq_true hc.2.2) (bit_or.2 (.inr hb))
      rcases Nat.lt_or_ge id s.next with q | q
      · have h2 := bit_mod.2 ⟨q, hb⟩
        rw [Nat.eq_of_beq_eq_true hc.2.1] at h2
        exact bit_zero h2
      · exact hne (hf id q (Nat.lt_of_lt_of_le h1 (g.inv hle)))
    refine ⟨φ, Ext.refl _ _ _, flat_any hc.1 hv, H.forget H1 e.le (fun id cs t ro hg => ?_) fun id es hg => ?_⟩
    · obtain ⟨b, sh, sz, c, fz, k⟩ := H.cells _ _ _ _ hg
      rw [hk id (by rw [k.at_]; simp)]; exact hg
    · obtain ⟨b, sh, sz, O, k⟩ := H.obs _ _ hg
      rw [hk id (by rw [k.at_]; simp)]; exact hg
noncomputable def okFunc (G : Nat) (fn : Func) : Bool := match fn.body with
  | some c => okCode fn.ntmps G c && !(fn.name == "runtime.NumGoroutine")
  | none => true
def IntrTr (intr : Intr) : Prop := ∀ f g, intr f = some g → ∀ args, Tr (g args)
def IntrOk (P : Program) (w0 : World) (G : Nat) (intr : Intr) : Prop := ∀ f g, intr f = some g → ∀ args s v s', g args s = some (v, s') → ∀ φ w args', HR φ s.h w0 w → Glob G φ → VRL φ args args' → (∀ id, s.next ≤ id → id < s'.hi → φ id = none) → Full s'.hi s →
    Gives P w0 φ s.next s' v ((callFunc f ⟨args'⟩).run P w)
theorem lget_nil (t : Nat) : lget [] t = und := by
  show lgetR und (lgetR [] [] (t / 8)) (t % 8) = und
  rw [lgetR_nil, lgetR_nil]
theorem lgetR_getD (l : List Value) : ∀ t, lgetR und l t = l.getD t und := by
  induction l with
  | nil => intro t; rw [lgetR_nil]; simp
  | cons x r ih =>
    intro t
    cases t with
    | zero => rfl
    | succ t => rw [lgetR_succ, ih]; simp
theorem lget_cons (r : List Value) (rest : Tmps) (t : Nat) : lget (r :: rest) t = if t < 8 then r.getD t und else lget rest (t - 8) := by
  show lgetR und (lgetR [] (r :: rest) (t / 8)) (t % 8) = _
  by_cases h : t < 8
  · rw [if_pos h, show t / 8 = 0 by omega, show t % 8 = t by omega, lgetR_zero, lgetR_getD]
  · rw [if_neg h, show t / 8 = (t - 8) / 8 + 1 by omega, lgetR_succ, show t % 8 = (t - 8) % 8 by omega]; rfl
theorem inTab_get : ∀ (k : Nat) (args : List Value) (t : Nat), lget (inTab args k) t = und ∨ lget (inTab args k) t = args.getD t und
  | 0, args, t => .inl (by rw [inTab]; exact lget_nil t)
  | k + 1, args, t => by
    unfold inTab
    split
    · rename_i a b c d e f g h r
      rw [lget_cons]
      by_cases q : t < 8
      · rw [if_pos q]
        right
        match t, q with
        | 0, _ | 1, _ | 2, _ | 3, _ | 4, _ | 5, _ | 6, _ | 7, _ => rfl
      · rw [if_neg q]
        obtain ⟨u, rfl⟩ : ∃ u, t = u + 8 := ⟨t - 8, by omega⟩
        have := inTab_get k r u
        simpa using this
    · exact .inl (lget_nil t)
    · rw [lget_cons]
      by_cases q : t < 8
      · rw [if_pos q]; exact .inr rfl
      · rw [if_neg q]; exact .inl (lget_nil _)
theorem enter_frame {φ : Ren} {args : List Value} {args' : List Value} {m : Nat} (h : VRL φ args args') (hm : args.length ≤ m) :
    Fr m φ (inTab args 8) { tmps := (⟨args'⟩ : Array Value) ++ Array.replicate (m - (⟨args'⟩ : Array Value).size) undef, defers := [] } := by
  refine ⟨?_, fun t => ?_, rfl⟩
  · have := h.1
    simp
    omega
  · rcases inTab_get 8 args t with e | e
    · rw [e]; exact .any _
    · rw [e]
      by_cases q : t < args.length
      · have hq : t < args'.length := by rw [← h.1]; exact q
        have := h.2 t
        have e2 : ((⟨args'⟩ : Array Value) ++ Array.replicate (m - (⟨args'⟩ : Array Value).size) undef).getD t undef = args'.getD t und := by
          rw [Array.getD_eq_getD_getElem?, Array.getElem?_append_left (by simpa using hq), List.getD_eq_getElem?_getD]
          simp [hq]
        rw [e2]; exact this
      · rw [List.getD_eq_getElem?_getD, List.getElem?_eq_none (by omega)]
        exact .any _
theorem callFunc_run {f : FuncId} {fn : Func} {c : Code} (hf : P.funcs[f]? = some fn) (hb : fn.body = some c) (hn : (fn.name == "runtime.NumGoroutine") = false) (args : Array Value) (w : World) :
    (callFunc f args).run P w = .ok (.enter f args) w := by
  have hn' : ¬ fn.name = "runtime.NumGoroutine" := by intro e; rw [e] at hn; simp at hn
  unfold callFunc
  simp [hf, hb, hn']
theorem callD_ok {intr : Intr} (hm : P.follows .mixedOrders = true) (hok : ∀ f fn, intr f = none → nth P.funcs.toList f = some fn → okFunc G fn = true) (hit : IntrTr intr) (hi : IntrOk P w0 G intr) (n : Nat) :
    ∀ k, CallOk P w0 G (callD P intr n k)
  | 0 => fun f args s v s' h => by rw [callD_zero] at h; cases h
  | k + 1 => by
    intro f args s v s' h φ w args' H hG hA hf hF
    rw [callD_succ] at h
    cases hfi : intr f with
    | some g =>
      simp only [hfi] at h
      exact hi f g hfi args s v s' h φ w args' H hG hA hf hF
    | none =>
      simp only [hfi] at h
      unfold bodyD at h
      split at h
      case h_2 => cases h
      rename_i fn hfn
      split at h
      case h_2 => cases h
      rename_i c hc
      have hk := hok f fn hfi hfn
      unfold okFunc at hk
      rw [hc] at hk
      simp only [Bool.and_eq_true, Bool.not_eq_true'] at hk
      rw [nth_getElem?, Array.getElem?_toList] at hfn
      have hT := callD_tr (P := P) hit n k
      have hcall := callD_ok hm hok hit hi n k
      simp only [enterD_eq] at h
      split at h
      case h_2 => cases h
      rename_i hle
      have hle := Nat.le_of_ble_eq_true hle
      split at h
      case h_2 => cases h
      rename_i x hx
      obtain ⟨v1, y⟩ := x
      simp only at h
      unfold obind asc at hx
      cases hr : codeD P (callD P intr n k) n c (inTab args 8) (noWr s) with
      | none => rw [hr] at hx; cases hx
      | some z =>
        obtain ⟨e, l1, y1⟩ := z
        rw [hr] at hx
        simp only at hx
        have g1 := (codeD_tr hT n c).g hr
        have hhi : y.hi = s'.hi := by
          unfold gcD at h
          split at h <;> simp only [Option.some.injEq, Prod.mk.injEq] at h <;> obtain ⟨_, rfl⟩ := h <;> rfl
        have hres : omap (resD P l1 y1 fn.results.toList) valOf = some (v1, y) := by
          cases e with
          | normal => exact hx
          | ret => exact hx
          | exit i => cases hx
        unfold omap at hres
        split at hres
        case h_2 => cases hres
        rename_i q hq
        obtain ⟨vs, y2⟩ := q
        simp only [Option.some.injEq, Prod.mk.injEq] at hres
        obtain ⟨rfl, rfl⟩ := hres
        have g2 := (resD_tr (P := P) l1 fn.results.toList y1 vs y2 hq).1
        rw [callFunc_run hfn hc hk.2]
        show Calls P f ⟨args'⟩ w _
        refine calls_of_wp hfn hc ?_
        have hpre : Pre w0 fn.ntmps G (inTab args 8) (noWr s) y1 φ { tmps := (⟨args'⟩ : Array Value) ++ Array.replicate (fn.ntmps - (⟨args'⟩ : Array Value).size) undef, defers := [] } w :=
          ⟨H, hG, enter_frame hA hle, fun id q1 q2 => hf id q1 (by rw [← hhi]; exact Nat.lt_of_lt_of_le q2 g2.hi), ⟨hF.le, fun id q1 q2 => hF.get id q1 (by rw [← hhi]; exact Nat.lt_of_lt_of_le q2 g2.hi)⟩⟩
        refine code_sound hcall hT hm n c hk.1 _ _ _ _ _ φ _ w hr hpre _ fun φ1 a1 w1 po => ?_
        obtain ⟨e1, H1, F1⟩ := po
        obtain ⟨vs', r1, r3, r4, r5⟩ := resD_ok fn.results.toList hq H1 F1.tmp
        have hgc := gc_ok h H (g1.trans g2) hf hF.le (e1.mono (Nat.le_refl _) (Nat.le_of_eq r5.symm)) (valOf_ok r3) (by rw [r4]; exact H1)
        have hend : a1.defers = [] ∧ ∃ v2, (results fn a1.tmps).run P w1 = .ok v2 w1 ∧ ∃ v' φ', Ending.returned v2 = .returned v' ∧ Ext φ φ' s.next s'.next ∧ VR φ' v v' ∧ HR φ' s'.h w0 w1 := by
          obtain ⟨φ', q1, q2, q3⟩ := hgc
          exact ⟨F1.defers, valOf vs', results_run r1, valOf vs', φ', rfl, q1, q2, q3⟩
        cases e with
        | normal => exact hend
        | ret => exact hend
        | exit i => cases hx
end
end Go.Det
end

section
/- A part of an evaluator of closed runs and of its soundness. -/
namespace Go.Det
variable {P : Program}
noncomputable def mkIntr (mask : Nat) (ext : Intr) : Intr := fun f => match Nat.testBit mask f with
  | true => none
  | false => match ext f with
    | some g => some g
    | none => some fun _ _ => none
theorem mkIntr_none {mask : Nat} {ext : Intr} {f : FuncId} (h : mkIntr mask ext f = none) : Nat.testBit mask f = true := by
  unfold mkIntr at h
  split at h
  · assumption
  · split at h <;> cases h
theorem mkIntr_some {mask : Nat} {ext : Intr} {f : FuncId} {g} (h : mkIntr mask ext f = some g) : ext f = some g ∨ g = fun _ _ => none := by
  unfold mkIntr at h
  split at h
  · cases h
  · split at h
    · rename_i g' hg; cases h; exact .inl hg
    · cases h; exact .inr rfl
theorem mkIntr_tr {mask : Nat} {ext : Intr} (h : IntrTr ext) : IntrTr (mkIntr mask ext) := by
  intro f g hf args
  rcases mkIntr_some hf with h1 | rfl
  · exact h f g h1 args
  · exact none_tr fun _ => rfl
theorem mkIntr_ok {w0 : World} {G : Nat} {mask : Nat} {ext : Intr} (h : IntrOk P w0 G ext) : IntrOk P w0 G (mkIntr mask ext) := by
  intro f g hf
  rcases mkIntr_some hf with h1 | rfl
  · exact h f g h1
  · intro args s v s' e; cases e
noncomputable def okAt (P : Program) (G f : Nat) : Bool := match nth P.funcs.toList f with | some fn => okFunc G fn | none => true
noncomputable def okMask (P : Program) (G mask : Nat) : Nat → Bool
  | 0 => true
  | f + 1 => (match Nat.testBit mask f with | true => okAt P G f | false => true) && okMask P G mask f
theorem okMask_at {G mask : Nat} : ∀ {N : Nat}, okMask P G mask N = true → ∀ f, f < N → Nat.testBit mask f = true → okAt P G f = true
  | 0, _, f, hf, _ => by omega
  | N + 1, h, f, hf, hb => by
    simp only [okMask, Bool.and_eq_true] at h
    by_cases e : f = N
    · subst e; have := h.1; rw [hb] at this; exact this
    · exact okMask_at h.2 f (by omega) hb
theorem mask_lt {mask N f : Nat} (h : Nat.ble (mask + 1) (Nat.shiftLeft 1 N) = true) (hb : Nat.testBit mask f = true) : f < N := bit_lt (Nat.le_of_ble_eq_true h) hb
theorem ok_of_mask {G mask N : Nat} {ext : Intr} (h : (Nat.ble (mask + 1) (Nat.shiftLeft 1 N) && okMask P G mask N) = true) :
    ∀ f fn, mkIntr mask ext f = none → nth P.funcs.toList f = some fn → okFunc G fn = true := by
  intro f fn hf hn
  rw [Bool.and_eq_true] at h
  have hb := mkIntr_none hf
  have := okMask_at h.2 f (mask_lt h.1 hb) hb
  unfold okAt at this
  rw [hn] at this
  exact this
noncomputable def isTrue : Option (Value × St) → Bool
  | some x => match x.1 with | .bool b => b | _ => false
  | none => false
theorem isTrue_some {r : Option (Value × St)} (h : isTrue r = true) : ∃ s', r = some (.bool true, s') := by
  cases r with
  | none => cases h
  | some x =>
    obtain ⟨v, s⟩ := x
    cases v with
    | bool b => have h : b = true := h; subst h; exact ⟨s, rfl⟩
    | _ => cases h
structure Kept (W W' : World) : Prop where
  os : W'.os = W.os
  output : W'.output = W.output
  size : W.heap.size ≤ W'.heap.size
  old : ∀ b, b < W.heap.size → W'.heap[b]? = W.heap[b]?
theorem HR.kept {φ : Ren} {h : Heap} {W W' : World} (H : HR φ h W W') : Kept W W' := ⟨H.os, H.output, H.size, H.old⟩
noncomputable def birth (h : Heap) (k : Nat) : St := { h := h, next := k, hi := k, rd := 0, wr := 0 }
theorem run_call {G mask N n k : Nat} {ext : Intr} {f : FuncId} {fn : Func} {c : Code} {args args' : List Value} {h : Heap} {top : Nat} {W : World} {φ : Ren} {v : Value} {s' : St}
    (hm : P.follows .mixedOrders = true) (hok : (Nat.ble (mask + 1) (Nat.shiftLeft 1 N) && okMask P G mask N) = true) (hit : IntrTr ext) (hio : IntrOk P W G ext)
    (hf : P.funcs[f]? = some fn) (hb : fn.body = some c) (hn : (fn.name == "runtime.NumGoroutine") = false)
    (H : HR φ h W W) (hG : Glob G φ) (hA : VRL φ args args') (hφ : ∀ id, top ≤ id → φ id = none) (hF : ∀ id, top ≤ id → h.get id = none)
    (e : callD P (mkIntr mask ext) n k f args (birth h top) = some (v, s')) :
    Calls P f ⟨args'⟩ W fun e W' => ∃ v' φ', e = .returned v' ∧ Ext φ φ' top s'.next ∧ VR φ' v v' ∧ HR φ' s'.h W W' := by
  have := callD_ok (P := P) (w0 := W) (G := G) hm (ok_of_mask hok) (mkIntr_tr hit) (mkIntr_ok hio) n k f args _ v s' e φ W args' H hG hA (fun id q _ => hφ id q) ⟨Nat.le_refl _, fun id q _ => hF id q⟩
  rw [callFunc_run hf hb hn] at this
  exact this
theorem HR.empty (φ : Ren) (W : World) (hd : ∀ id b sh sz, φ id = some (b, sh, sz) → b < W.heap.size) : HR φ [] W W := by
  have hg : ∀ id, Heap.get [] id = none := by
    intro id
    show lgetR none (lgetR [] [] (id / 8)) (id % 8) = none
    rw [lgetR_nil, lgetR_nil]
  exact ⟨rfl, rfl, rfl, Nat.le_refl _, fun _ _ => rfl, hd, fun id cs e ro h => (by rw [hg] at h; cases h), fun i j ci ei cj ej ro bi si zi bj sj zj _ h => (by rw [hg] at h; cases h),
    fun id es h => (by rw [hg] at h; cases h), fun i j ei ej bi si zi bj sj zj _ h => (by rw [hg] at h; cases h)⟩
end Go.Det
end

section
/- A part of an evaluator of closed runs and of its soundness. -/
namespace Go.Det
variable {P : Program}
def glob (G : Nat) (W : World) : Ren := fun g => if g < G then some (g, 0, match W.heap[g]? with | some (.cells c _ _) => c.size | _ => 0) else none
theorem glob_glob (G : Nat) (W : World) : Glob G (glob G W) := fun g hg => ⟨_, by unfold glob; rw [if_pos hg]⟩
theorem glob_top (G : Nat) (W : World) {top : Nat} (h : G ≤ top) (id : Nat) (hid : top ≤ id) : glob G W id = none := by unfold glob; rw [if_neg (by omega)]
structure Laying (G : Nat) (W : World) (h : Heap) : Prop where
  hr : HR (glob G W) h W W
  ro : ∀ id cs e r, h.get id = some (.cells cs e r) → r = true
  nomp : ∀ id es, h.get id ≠ some (.ob es)
  top : ∀ id, G ≤ id → h.get id = none
theorem empty_get (id : Nat) : Heap.get [] id = none := by
  show lgetR none (lgetR [] [] (id / 8)) (id % 8) = none
  rw [lgetR_nil, lgetR_nil]
theorem Laying.empty {G : Nat} {W : World} (hG : G ≤ W.heap.size) : Laying G W [] :=
  ⟨HR.empty _ W (fun id b sh sz h => by
    unfold glob at h
    split at h
    · cases h; omega
    · cases h), fun id cs e r h => (by rw [empty_get] at h; cases h), fun id es h => (by rw [empty_get] at h; cases h), fun id _ => empty_get id⟩
theorem Laying.lay {G : Nat} {W : World} {h : Heap} (L : Laying G W h) {g : Nat} {c : Array Value} {t : TypeId} {fz : Nat × Nat} {cs : List Value} (hg : g < G) (hb : W.heap[g]? = some (.cells c t fz)) (hc : c.toList = cs) (hf : flatL cs = true) :
    Laying G W (h.set g (.cells cs (2 * t) true)) := by
  have hφ : glob G W g = some (g, 0, c.size) := by unfold glob; rw [if_pos hg, hb]
  have hone : ∀ id b sh sz, glob G W id = some (b, sh, sz) → b = id := by
    intro id b sh sz e
    unfold glob at e
    split at e
    · cases e; rfl
    · cases e
  have hv : VRL (glob G W) cs c.toList := by rw [hc]; exact flatL_self hf _
  have hnm : ∀ id es, (h.set g (.cells cs (2 * t) true)).get id ≠ some (.ob es) := by
    intro id es q
    rw [Heap.get_set] at q
    by_cases hi : id = g
    · rw [if_pos hi] at q; cases q
    · rw [if_neg hi] at q; exact L.nomp _ _ q
  refine ⟨⟨rfl, rfl, rfl, Nat.le_refl _, fun _ _ => rfl, L.hr.dom, fun id cs' e r q => ?_, fun i j ci ei cj ej r bi si zi bj sj zj hij gi gj ai aj => ?_, fun id es q => absurd q (hnm id es), fun i j ei ej bi si zi bj sj zj hij gi _ _ _ => absurd gi (hnm i ei)⟩, fun id cs' e r q => ?_, hnm, fun id hid => ?_⟩
  · rw [Heap.get_set] at q
    by_cases hi : id = g
    · subst hi; rw [if_pos rfl] at q; cases q
      refine ⟨id, 0, c.size, c, fz, hφ, by rw [half0]; exact hb, fun h => absurd h (even0 t), rfl, by rw [← hc]; simp, fun i _ => ?_, fun h => by cases h⟩
      have := hv.2 i
      rw [Nat.zero_add]
      simpa [List.getD_eq_getElem?_getD, Array.getD_eq_getD_getElem?] using this
    · rw [if_neg hi] at q; exact L.hr.cells _ _ _ _ q
  · rw [hone _ _ _ _ ai, hone _ _ _ _ aj]; exact hij
  · rw [Heap.get_set] at q
    by_cases hi : id = g
    · rw [if_pos hi] at q; cases q; rfl
    · rw [if_neg hi] at q; exact L.ro _ _ _ _ q
  · rw [Heap.get_set, if_neg (by omega)]; exact L.top id hid
theorem ints_of_trod {H : Type} {enc : TypeId × Value → H} {w : World} {base : Nat} {spare : Nat → Bool} {held : Bool} {fuel : Nat} {t e : TypeId} {n : Nat} {k : IntKind} {cs : List Value} {ns : List Int} {p : List MemPlace}
    (ht : P.underlying t = some (.array n e)) (he : P.underlying e = some (.int k)) (hc : P.cellsOf e = 1) (hct : P.cellsOf t = n)
    (h : DataW.trod enc P w base spare held fuel t cs = some (.agg (ns.map fun n => .lit (.int k n)), p)) : cs = ns.map (Value.int k) := by
  obtain ⟨xs, m, _, ex, hl, hn, hel⟩ := DataW.trod_array ht h
  simp only [Prod.mk.injEq, DataW.agg.injEq] at ex
  have hlen : ns.length = n := by rw [← hn]; have := congrArg List.length ex.1; simpa using this
  refine List.ext_getElem? fun i => ?_
  by_cases hi : i < n
  · have h1 := hel i hi
    rw [hc, Nat.mul_one] at h1
    have hx : xs[i]? = some xs[i] := List.getElem?_eq_getElem (by omega)
    rw [hx] at h1
    obtain ⟨a, ha, hb, _⟩ := DataW.trod_int he h1
    have hin : i < ns.length := by rw [hlen]; exact hi
    have e1 : (xs.map (·.1))[i]? = (ns.map fun n => DataW.lit (.int k n))[i]? := by rw [ex.1]
    rw [List.getElem?_map, hx, List.getElem?_map, List.getElem?_eq_getElem hin] at e1
    simp only [Option.map_some, hb, Option.some.injEq, DataW.lit.injEq, Lit.int.injEq, true_and] at e1
    have e2 : cs[i]? = ((cs.drop i).take 1)[0]? := by rw [List.getElem?_take_of_lt (by omega), List.getElem?_drop, Nat.add_zero]
    rw [e2, ha, List.getElem?_map, List.getElem?_eq_getElem hin, ← e1]
    rfl
  · rw [List.getElem?_eq_none (by rw [hl, hct]; omega), List.getElem?_eq_none (by simp; omega)]
theorem block_of_var {W : World} {n : String} {g : Nat} {cs : Array Value} (hg : P.globalNamed n = some g) (hv : W.var? P n = some cs) : ∃ t fz, W.heap[g]? = some (.cells cs t fz) := by
  unfold World.var? at hv
  rw [hg] at hv
  simp only [Option.bind_some] at hv
  split at hv
  · rename_i c t fz hb; cases hv; exact ⟨t, fz, hb⟩
  · cases hv
theorem block_lt {W : World} {g : Nat} {o} (h : W.heap[g]? = some o) : g < W.heap.size := by
  rcases Nat.lt_or_ge g W.heap.size with q | q
  · exact q
  · rw [Array.getElem?_eq_none q] at h; cases h
end Go.Det
end
