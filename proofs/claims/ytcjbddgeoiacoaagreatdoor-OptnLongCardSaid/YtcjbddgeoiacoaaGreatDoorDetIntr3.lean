/- More entries of the library: two strings held against each other. -/
import Derived.Test.YtcjbddgeoiacoaaGreatDoorDetMemo
import Derived.Lib.BytesEntry
namespace Go.Det
variable {P : Program}

noncomputable def cmpB : List UInt8 → List UInt8 → Int
  | [], [] => 0
  | [], _ :: _ => -1
  | _ :: _, [] => 1
  | a :: s, b :: t => match Nat.ble (a.toNat + 1) b.toNat with
    | true => -1
    | false => match Nat.ble (b.toNat + 1) a.toNat with
      | true => 1
      | false => cmpB s t
theorem cmpB_eq : ∀ a b : List UInt8, cmpB a b = Lib.compareBytes a b
  | [], [] => by simp [cmpB, Lib.compareBytes]
  | [], _ :: _ => by simp [cmpB, Lib.compareBytes]
  | _ :: _, [] => by simp [cmpB, Lib.compareBytes]
  | a :: s, b :: t => by
    unfold cmpB Lib.compareBytes
    rw [cmpB_eq s t]
    by_cases h : a < b
    · have : Nat.ble (a.toNat + 1) b.toNat = true := Nat.ble_eq_true_of_le (UInt8.lt_iff_toNat_lt.1 h)
      simp only [this, if_pos h]
    · have h1 : Nat.ble (a.toNat + 1) b.toNat = false := by
        cases hb : Nat.ble (a.toNat + 1) b.toNat with
        | false => rfl
        | true => exact absurd (UInt8.lt_iff_toNat_lt.2 (Nat.le_of_ble_eq_true hb)) h
      simp only [h1, if_neg h]
      by_cases k : b < a
      · have : Nat.ble (b.toNat + 1) a.toNat = true := Nat.ble_eq_true_of_le (UInt8.lt_iff_toNat_lt.1 k)
        simp only [this, if_pos k]
      · have h2 : Nat.ble (b.toNat + 1) a.toNat = false := by
          cases hb : Nat.ble (b.toNat + 1) a.toNat with
          | false => rfl
          | true => exact absurd (UInt8.lt_iff_toNat_lt.2 (Nat.le_of_ble_eq_true hb)) k
        simp only [h2, if_neg k]
noncomputable def cmpH : List Value → Option Value
  | [.string a, .string b] => some (.int .i64 (cmpB a.data.toList b.data.toList))
  | _ => none
theorem cmp_ok {w0 : World} {G : Nat} {f : FuncId} (he : Entry P f Extern.BytealgCompare.compare) : OwnOk P w0 G f (pureD cmpH) := by
  refine pureD_ok fun args v h => ?_
  unfold cmpH at h
  split at h
  case h_2 => cases h
  rename_i a b
  cases h
  refine ⟨rfl, rfl, fun w => ?_⟩
  rw [he, cmpB_eq]
  have key := Lib.run_compareString (P := P) a b w
  exact congrArg (fun r : Result Value => Result.andThen r fun v w' => Result.ok (Next.value v) w') key

/-! the place of a byte in a slice -/
noncomputable def idxSlG (c : Int) (r : List Value × St) : Option (Value × St) :=
  match bytesL r.1 with
  | some bs => some (ofIdx (idxB (c.toNat % 256) 0 bs), r.2)
  | none => none
noncomputable def idxSlD : Own := fun args s => match args with
  | [.slice a n c, .int .u8 x] => match srcCells s 1 n (.slice a n c) with
    | some r => idxSlG x r
    | none => none
  | _ => none
theorem idxSlD_tr : OwnTr idxSlD := fun args => by
  by_cases h : ∃ a n c x, args = [.slice a n c, .int .u8 x]
  · obtain ⟨a, n, c, x, rfl⟩ := h
    refine (Tr.bind (srcCells_tr 1 n (.slice a n c)) (g := fun cs s => match bytesL cs with | some bs => some (ofIdx (idxB (x.toNat % 256) 0 bs), s) | none => none) fun cs => ?_).congr fun s => ?_
    · cases hb : bytesL cs with
      | none => exact none_tr fun s => rfl
      | some bs => exact pure_tr (some (ofIdx (idxB (x.toNat % 256) 0 bs))) fun s => rfl
    · simp only [idxSlD, idxSlG]
      cases srcCells s 1 n (.slice a n c) with
      | none => rfl
      | some r => rfl
  · refine none_tr fun s => ?_
    unfold idxSlD
    split
    · rename_i a n c x
      exact absurd ⟨a, n, c, x, rfl⟩ h
    · rfl
theorem idxB_lib (c : Int) (bs : List UInt8) : ofIdx (idxB (c.toNat % 256) 0 bs) = .int .i64 (Lib.indexByte bs c.toNat.toUInt8) := by
  have e := idxB_eq c.toNat.toUInt8 0 bs
  rw [toUInt8_mod] at e
  have e2 : (if Lib.indexByte bs c.toNat.toUInt8 == -1 then -1 else Lib.indexByte bs c.toNat.toUInt8 + ((0 : Nat) : Int)) = Lib.indexByte bs c.toNat.toUInt8 := by
    split
    · rename_i q; exact (eq_of_beq q).symm
    · simp
  rw [e, e2]
theorem idxSl_ok {w0 : World} {G : Nat} {f : FuncId} (he : Entry P f Extern.BytealgIndexByte.indexByte) : OwnOk P w0 G f idxSlD := by
  intro args s v s' e φ w args' H _ hA _ _
  unfold idxSlD at e
  split at e
  case h_2 => cases e
  rename_i a n c x
  obtain ⟨v1, t1, rfl, hv1, ht1⟩ := hA.head
  obtain ⟨v2, t2, rfl, hv2, ht2⟩ := ht1.head
  rw [ht2.of_nil, int_inv hv2, he]
  split at e
  case h_2 => cases e
  rename_i r hr
  unfold idxSlG at e
  split at e
  case h_2 => cases e
  rename_i bs hbs
  cases e
  obtain ⟨ns, e1, e2⟩ := bytesL_ok hbs
  obtain ⟨cs', _, _, hh, _, _⟩ := srcCells_ok (P := P) hr H hv1
  have fin : ∀ {y : Int}, (Extern.BytealgIndexByte.indexByte #[v1, .int .u8 x]).run P w = .ok (.int .i64 y) w → y = Lib.indexByte bs x.toNat.toUInt8 →
      Gives P w0 φ s.next r.2 (ofIdx (idxB (x.toNat % 256) 0 bs)) (((Extern.BytealgIndexByte.indexByte #[v1, .int .u8 x]).run P w).andThen fun v w' => .ok (.value v) w') := by
    intro y hy hk
    rw [hy, idxB_lib, hk]
    exact ⟨φ, Ext.refl _ _ _, .int _ _, by rw [hh]; exact H⟩
  unfold srcCells at hr
  split at hr
  · rename_i id off n' c' heq
    cases heq
    obtain ⟨b, sh, sz, c2, hat, rfl, _, _⟩ := slice_some hv1
    split at hr
    · rename_i h0
      cases hr
      have h0 : n = 0 := by have := Nat.eq_of_beq_eq_true h0; omega
      subst h0
      have : ns = [] := by cases ns with | nil => rfl | cons a t => simp at e1
      subst this
      refine fin (Lib.run_indexByteSlice (w := w) b (sh + off) 0 c2 [] rfl (fun i hi => absurd hi (Nat.not_lt_zero _)) x) ?_
      rw [e2]; rfl
    · split at hr
      case h_2 => cases hr
      rename_i cs el ro hg
      split at hr
      case h_2 => cases hr
      rename_i r' hr'
      cases hr
      rw [ldrop_eq] at hr'
      obtain ⟨rfl, hle⟩ := ltake_some hr'
      rw [Nat.mul_one] at hle e1
      obtain ⟨b', sh', sz', c3, fz, k⟩ := H.cells _ _ _ _ hg
      have := k.at_; rw [hat] at this; cases this
      have hl : ns.length = n := by
        have := congrArg List.length e1
        simp only [List.length_take, List.length_map] at this
        omega
      refine fin (Lib.run_indexByteSlice (w := w) b (sh + off) n c2 ns hl (fun i hi => ?_) x) ?_
      · have hi' : off + i < cs.length := by simp at hle; omega
        have q := k.cell (off + i) hi'
        have e3 : cs.getD (off + i) und = Value.int .u8 (ns.getD i 0) := by
          have : ((cs.drop off).take n)[i]? = (ns.map (Value.int .u8))[i]? := congrArg (fun l : List Value => l[i]?) e1
          rw [List.getElem?_take_of_lt hi, List.getElem?_drop, List.getElem?_map, List.getElem?_eq_getElem (l := ns) (i := i) (by omega)] at this
          rw [List.getD_eq_getElem?_getD, this, List.getD_eq_getElem?_getD, List.getElem?_eq_getElem (l := ns) (i := i) (by omega)]
          rfl
        rw [e3] at q
        have q2 := int_inv q
        have hs : sh + (off + i) < c3.size := by rw [k.size]; have := k.fit; omega
        rw [Nat.add_assoc, cell_at k.blk _ hs, q2]
      · rw [e2]; rfl
  · rename_i n' c' heq
    cases heq
    obtain rfl : v1 = .slice none n c := snil_inv hv1
    split at hr
    case isFalse => cases hr
    cases hr
    have : ns = [] := by cases ns with | nil => rfl | cons a t => simp at e1
    subst this
    refine fin (Lib.run_indexByteNil (w := w) n c x) ?_
    rw [e2]; rfl
  · simp at *
  · simp at *
  · cases hr

end Go.Det
