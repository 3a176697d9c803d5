/- A part of an evaluator of closed runs and of its soundness. -/
import Derived.Test.YtfnacgojmdbjmaaDoorPh2
import Derived.Lib.Bytealg
import Derived.Lib.Index
import Derived.Lib.MakeNoZero
namespace Go.Det
variable {P : Program}

/-! bytes of a string -/
noncomputable def idxB (c : Nat) : Nat → List UInt8 → Option Nat
  | _, [] => none
  | i, x :: t => match Nat.beq x.toNat c with | true => some i | false => idxB c (i + 1) t
noncomputable def cntB (c : Nat) : Nat → List UInt8 → Nat
  | n, [] => n
  | n, x :: t => match Nat.beq x.toNat c with | true => cntB c (n + 1) t | false => cntB c n t
noncomputable def preB : List UInt8 → List UInt8 → Bool
  | [], _ => true
  | _ :: _, [] => false
  | a :: s, b :: t => match Nat.beq a.toNat b.toNat with | true => preB s t | false => false
noncomputable def idxS (p : List UInt8) : Nat → List UInt8 → Option Nat
  | i, [] => match p with | [] => some i | _ :: _ => none
  | i, x :: t => match preB p (x :: t) with | true => some i | false => idxS p (i + 1) t
noncomputable def ofIdx : Option Nat → Value
  | some i => .int .i64 (i : Nat)
  | none => .int .i64 (-1)

theorem beq_u8 (x c : UInt8) : Nat.beq x.toNat c.toNat = (x == c) := by
  cases h : (x == c) with
  | true => have := eq_of_beq h; subst this; exact Nat.beq_refl _
  | false =>
    cases hb : Nat.beq x.toNat c.toNat with
    | false => rfl
    | true => have := UInt8.toNat_inj.1 (Nat.eq_of_beq_eq_true hb); subst this; simp at h

theorem idxB_eq (c : UInt8) : ∀ (i : Nat) (l : List UInt8), ofIdx (idxB c.toNat i l) = .int .i64 (if Lib.indexByte l c == -1 then -1 else Lib.indexByte l c + i)
  | i, [] => rfl
  | i, x :: t => by
    rw [idxB, beq_u8]
    unfold Lib.indexByte
    cases h : (x == c) with
    | true => simp [ofIdx]
    | false =>
      rw [idxB_eq c (i + 1) t]
      have := Lib.indexByte_ge t c
      by_cases e : Lib.indexByte t c = -1
      · simp [e]
      · have h1 : (Lib.indexByte t c == -1) = false := by simpa using e
        have h2 : ¬ (Lib.indexByte t c + 1 = -1) := by omega
        simp [h1, h2]
        omega

theorem cntB_eq (c : UInt8) : ∀ (n : Nat) (l : List UInt8), cntB c.toNat n l = n + l.count c
  | n, [] => by simp [cntB]
  | n, x :: t => by
    rw [cntB, beq_u8, List.count_cons]
    cases h : (x == c) with
    | true => simp only [cntB_eq c (n + 1) t]; simp; omega
    | false => simp only [cntB_eq c n t]; simp

theorem preB_eq : ∀ (p l : List UInt8), preB p l = p.isPrefixOf l
  | [], l => by simp [preB]
  | a :: s, [] => by simp [preB]
  | a :: s, b :: t => by
    rw [preB, beq_u8, List.isPrefixOf, preB_eq s t]
    cases (a == b) <;> rfl

theorem idxS_eq (p : List UInt8) : ∀ (i : Nat) (l : List UInt8), ofIdx (idxS p i l) = .int .i64 (if Lib.index l p == -1 then -1 else Lib.index l p + i)
  | i, [] => by
    cases p with
    | nil => simp [idxS, Lib.index, ofIdx]
    | cons a s => simp [idxS, Lib.index, ofIdx]
  | i, x :: t => by
    rw [idxS, preB_eq]
    unfold Lib.index
    cases h : p.isPrefixOf (x :: t) with
    | true => simp [ofIdx]
    | false =>
      rw [idxS_eq p (i + 1) t]
      have := Lib.index_ge t p
      by_cases e : Lib.index t p = -1
      · simp [e]
      · have h1 : (Lib.index t p == -1) = false := by simpa using e
        have h2 : ¬ (Lib.index t p + 1 = -1) := by omega
        simp [h1, h2]
        omega

noncomputable def indexByteH : List Value → Option Value
  | [.string b, .int .u8 c] => some (ofIdx (idxB (c.toNat % 256) 0 b.data.toList))
  | _ => none
noncomputable def countByteH : List Value → Option Value
  | [.string b, .int .u8 c] => some (.int .i64 (cntB (c.toNat % 256) 0 b.data.toList : Nat))
  | _ => none
noncomputable def indexH : List Value → Option Value
  | [.string b, .string c] => match Nat.ble (b.size + 1) 4294967281 with | true => some (ofIdx (idxS c.data.toList 0 b.data.toList)) | false => none
  | _ => none

theorem ofIdx_flat (r : Option Nat) : flat (ofIdx r) = true := by cases r <;> rfl
theorem toUInt8_mod (n : Nat) : n.toUInt8.toNat = n % 256 := by simp

theorem indexByte_ok {w0 : World} {G : Nat} {f : FuncId} (he : Entry P f Extern.BytealgIndexByte.indexByte) : OwnOk P w0 G f (pureD indexByteH) := by
  refine pureD_ok fun args v h => ?_
  unfold indexByteH at h
  split at h
  case h_2 => cases h
  rename_i b c
  cases h
  refine ⟨rfl, ofIdx_flat _, fun w => ?_⟩
  rw [he]
  have key := Lib.run_indexByteString (P := P) b c w
  have e := idxB_eq c.toNat.toUInt8 0 b.data.toList
  rw [toUInt8_mod] at e
  have e2 : (if Lib.indexByte b.data.toList c.toNat.toUInt8 == -1 then -1 else Lib.indexByte b.data.toList c.toNat.toUInt8 + ((0 : Nat) : Int)) = Lib.indexByte b.data.toList c.toNat.toUInt8 := by
    split
    · rename_i q; exact (eq_of_beq q).symm
    · simp
  rw [e2] at e
  rw [e]
  exact congrArg (fun r : Result Value => Result.andThen r fun v w' => Result.ok (Next.value v) w') key

theorem countByte_ok {w0 : World} {G : Nat} {f : FuncId} (he : Entry P f Extern.BytealgCount.count) : OwnOk P w0 G f (pureD countByteH) := by
  refine pureD_ok fun args v h => ?_
  unfold countByteH at h
  split at h
  case h_2 => cases h
  rename_i b c
  cases h
  refine ⟨rfl, rfl, fun w => ?_⟩
  rw [he]
  have key := Lib.run_countString (P := P) b c w
  have e := cntB_eq c.toNat.toUInt8 0 b.data.toList
  rw [toUInt8_mod, Nat.zero_add] at e
  rw [e]
  exact congrArg (fun r : Result Value => Result.andThen r fun v w' => Result.ok (Next.value v) w') key

/-- strings.Index and its like: what the library's contract says -/
theorem index_ok {w0 : World} {G : Nat} {f : FuncId} (he : ∀ (args : Array Value) (w : World), (callFunc f args).run P w = .ok (.enter f args) w) {g : Nat} (hold : g < w0.heap.size)
    (hc : ∀ (s sub : ByteArray) (w : World), w.heap[g]? = w0.heap[g]? → s.size < 4294967281 →
      Calls P f #[.string s, .string sub] w fun e w' => e = .returned (.int .i64 (Lib.index s.data.toList sub.data.toList)) ∧ w' = w) : OwnOk P w0 G f (pureD indexH) := by
  intro args s v s' e φ w args' H _ hA _ _
  unfold pureD indexH at e
  split at e
  case h_2 => cases e
  rename_i r hr
  cases e
  split at hr
  case h_2 => cases hr
  rename_i b c
  split at hr
  case h_2 => cases hr
  rename_i hs
  have hs := Nat.le_of_ble_eq_true hs
  cases hr
  have ha : flat2L [Value.string b, Value.string c] = true := rfl
  rw [flat2L_inv ha hA, he]
  refine (hc b c w (H.old g hold) hs).mono ?_
  rintro e w' ⟨rfl, rfl⟩
  have e := idxS_eq c.data.toList 0 b.data.toList
  have e2 : (if Lib.index b.data.toList c.data.toList == -1 then -1 else Lib.index b.data.toList c.data.toList + ((0 : Nat) : Int)) = Lib.index b.data.toList c.data.toList := by
    split
    · rename_i q; exact (eq_of_beq q).symm
    · simp
  rw [e2] at e
  exact ⟨_, φ, rfl, Ext.refl _ _ _, by rw [e]; exact .int _ _, H⟩

/-! what comes back as it came in -/
noncomputable def sameD : Own := fun args s => match args with | [x] => some (x, s) | _ => none
theorem sameD_tr : OwnTr sameD := fun args => by
  match args with
  | [] => exact none_tr fun _ => rfl
  | [x] => exact pure_tr (some x) fun _ => rfl
  | _ :: _ :: _ => exact none_tr fun _ => rfl
theorem same_ok {w0 : World} {G : Nat} {f : FuncId} (he : Entry P f Extern.AbiNoEscape.same) : OwnOk P w0 G f sameD := by
  intro args s v s' e φ w args' H _ hA _ _
  unfold sameD at e
  split at e
  case h_2 => cases e
  cases e
  obtain ⟨v', t', rfl, hv, ht⟩ := hA.head
  rw [ht.of_nil, he]
  exact ⟨φ, Ext.refl _ _ _, hv, H⟩

/-! bytes of whatever worth -/
noncomputable def rawD (elem : TypeId) : Own := fun args s => match args with
  | [.int .i64 n] => match decide (0 ≤ n) && Nat.ble n.toNat 1048576 with
    | true => some (.slice (some ⟨s.next, 0, none⟩) n.toNat (capU + 1), s.new (.cells (repeatL [und] n.toNat) (2 * elem) false))
    | false => none
  | _ => none
theorem repeatU_length (n : Nat) : (repeatL [und] n).length = n := by
  induction n with
  | zero => rfl
  | succ n ih => rw [repeatL, List.length_append, ih]; simp; omega
theorem repeatL_get (n i : Nat) : (repeatL [und] n).getD i und = und := by
  induction n generalizing i with
  | zero => rfl
  | succ n ih =>
    cases i with
    | zero => rfl
    | succ i => exact ih i
theorem rawD_tr (elem : TypeId) : OwnTr (rawD elem) := fun args => by
  refine new_tr (match args with
    | [.int .i64 n] => match decide (0 ≤ n) && Nat.ble n.toNat 1048576 with
      | true => some (Blk.cells (repeatL [und] n.toNat) (2 * elem) false, fun k => Value.slice (some ⟨k, 0, none⟩) n.toNat (capU + 1))
      | false => none
    | _ => none) fun s => ?_
  unfold rawD
  split
  · split <;> rfl
  · rfl

theorem raw_ok {w0 : World} {G : Nat} {f : FuncId} {ps : Array TypeId} {t elem : TypeId} (he : Entry P f (Extern.BytealgMakeNoZero.makeNoZero ps #[t])) (hu : P.underlying t = some (.slice elem)) : OwnOk P w0 G f (rawD elem) := by
  intro args s v s' e φ w args' H _ hA hf hF
  unfold rawD at e
  split at e
  case h_2 => cases e
  rename_i n
  split at e
  case h_2 => cases e
  rename_i hc
  cases e
  rw [Bool.and_eq_true] at hc
  have h0 := of_decide_eq_true hc.1
  have h1 := Nat.le_of_ble_eq_true hc.2
  have ha : flat2L [Value.int .i64 n] = true := rfl
  rw [flat2L_inv ha hA, he]
  obtain ⟨m, rfl⟩ := Int.eq_ofNat_of_zero_le h0
  obtain ⟨cs, hrun, hcs, _⟩ := Lib.run_makeNoZero w ps t elem hu m (Nat.le_trans (show m ≤ 1048576 from h1) (by decide))
  have hrun2 : ((Extern.BytealgMakeNoZero.makeNoZero ps #[t] ⟨[.int .i64 m]⟩).run P w) = _ := hrun
  rw [hrun2]
  have hnew : φ s.next = none := hf s.next (Nat.le_refl _) (by show s.next < Nat.max s.hi (s.next + 1); exact Nat.lt_of_lt_of_le (Nat.lt_succ_self _) (Nat.le_max_right _ _))
  refine ⟨upd φ s.next (w.heap.size, 0, cs.size), Ext.upd hnew _, ?_, ?_⟩
  · exact VR.sliceU (φ := upd φ s.next (w.heap.size, 0, cs.size)) s.next 0 w.heap.size 0 cs.size m cs.size 1 (upd_same _ _ _) (by decide) (by omega) hcs
  · refine H.adopt (w' := w.drew.drew.alloc (.cells cs elem)) hnew rfl rfl rfl (by show w.heap.size ≤ (w.heap.push _).size; rw [Array.size_push]; omega) (fun j hj hj2 => ?_) H.size (fz := (0, 0)) (c := cs) ?_ (fun _ => rfl) ?_ rfl ?_ (fun i hi => ?_) (fun _ o _ => by simp) (fun O q => by rw [Array.getElem?_eq_none (Nat.le_refl _)] at q; cases q)
    · show (w.heap.push _)[j]? = w.heap[j]?
      rw [Array.getElem?_push, if_neg (by omega)]
    · show (w.heap.push _)[w.heap.size]? = _
      rw [Array.getElem?_push, if_pos rfl, half0]
    · intro j cj ej rj bj sj zj g a
      have := H.dom _ _ _ _ a
      omega
    · rw [repeatU_length]; show 0 + m ≤ cs.size; omega
    · rw [repeatL_get]; exact .any _

end Go.Det
