/- More entries of the library: two strings held against each other. -/
import Derived.Test.YtcjbddgeoiacoabGreatDoorDetMemo
namespace Go.Det
variable {P : Program}

noncomputable def cmpB : List UInt8 → List UInt8 → Int
  | [], [] => 0
  | [], _ :: _ => -1
  | _ :: _, [] => 1
  | a :: s, b :: t => match Nat.ble (a.toNat + 1) b.toNat with
    | true => -1
    | false => match Nat.ble (b.toNat + 1) a.toNat with
      | true => 1
      | false => cmpB s t
theorem cmpB_eq : ∀ a b : List UInt8, cmpB a b = Lib.compareBytes a b
  | [], [] => by simp [cmpB, Lib.compareBytes]
  | [], _ :: _ => by simp [cmpB, Lib.compareBytes]
  | _ :: _, [] => by simp [cmpB, Lib.compareBytes]
  | a :: s, b :: t => by
    unfold cmpB Lib.compareBytes
    rw [cmpB_eq s t]
    by_cases h : a < b
    · have : Nat.ble (a.toNat + 1) b.toNat = true := Nat.ble_eq_true_of_le (UInt8.lt_iff_toNat_lt.1 h)
      simp only [this, if_pos h]
    · have h1 : Nat.ble (a.toNat + 1) b.toNat = false := by
        cases hb : Nat.ble (a.toNat + 1) b.toNat with
        | false => rfl
        | true => exact absurd (UInt8.lt_iff_toNat_lt.2 (Nat.le_of_ble_eq_true hb)) h
      simp only [h1, if_neg h]
      by_cases k : b < a
      · have : Nat.ble (b.toNat + 1) a.toNat = true := Nat.ble_eq_true_of_le (UInt8.lt_iff_toNat_lt.1 k)
        simp only [this, if_pos k]
      · have h2 : Nat.ble (b.toNat + 1) a.toNat = false := by
          cases hb : Nat.ble (b.toNat + 1) a.toNat with
          | false => rfl
          | true => exact absurd (UInt8.lt_iff_toNat_lt.2 (Nat.le_of_ble_eq_true hb)) k
        simp only [h2, if_neg k]
noncomputable def cmpH : List Value → Option Value
  | [.string a, .string b] => some (.int .i64 (cmpB a.data.toList b.data.toList))
  | _ => none
theorem cmp_ok {w0 : World} {G : Nat} {f : FuncId} (he : Entry P f Extern.BytealgCompare.compare) : OwnOk P w0 G f (pureD cmpH) := by
  refine pureD_ok fun args v h => ?_
  unfold cmpH at h
  split at h
  case h_2 => cases h
  rename_i a b
  cases h
  refine ⟨rfl, rfl, fun w => ?_⟩
  rw [he, cmpB_eq]
  have key := Lib.run_compareString (P := P) a b w
  exact congrArg (fun r : Result Value => Result.andThen r fun v w' => Result.ok (Next.value v) w') key

end Go.Det
