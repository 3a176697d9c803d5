/- The contracts of the functions of 128 bits, kept by their bodies. -/
import Derived.Test.YtfnacgojmdbjmaaDoorPh7
namespace Go.Proofs.YtfnacgojmdbjmaaDoor
open Go.ChangeShapes Go.WideShapes Go.ChangeAt Go.RowKit Go.Det
set_option maxRecDepth 100000

theorem qe48 : Entry Tryd.prog 48 add64Entry := Entry.mk (fn := Tryd.f48) Tryd.func48 (by kernel_rfl) (by kernel_rfl) (by kernel_rfl) (by kernel_rfl)
theorem qe49 : Entry Tryd.prog 49 sub64Entry := Entry.mk (fn := Tryd.f49) Tryd.func49 (by kernel_rfl) (by kernel_rfl) (by kernel_rfl) (by kernel_rfl)

theorem v_true {p : Prop} (h : p) : Value.bool true = .bool (cdec p) := congrArg _ (cdec_true.2 h).symm
theorem v_false {p : Prop} (h : ¬ p) : Value.bool false = .bool (cdec p) := congrArg _ (cdec_false.2 h).symm
theorem v_iff {p q : Prop} (h : p ↔ q) : Value.bool (cdec p) = .bool (cdec q) := congrArg (fun p => Value.bool (cdec p)) (propext h)
theorem domQQ_iff {a b c d : Int} : domQQ (a, b, c, d) = true ↔ ((0 ≤ a ∧ a < 18446744073709551616) ∧ (0 ≤ b ∧ b < 18446744073709551616)) ∧ ((0 ≤ c ∧ c < 18446744073709551616) ∧ (0 ≤ d ∧ d < 18446744073709551616)) := by
  unfold domQQ
  rw [Bool.and_eq_true, inQ_iff, inQ_iff]
theorem domQ_iff {a b : Int} : domQ (a, b) = true ↔ ((0 ≤ a ∧ a < 18446744073709551616) ∧ (0 ≤ b ∧ b < 18446744073709551616)) := by
  unfold domQ
  rw [inQ_iff]

theorem w22 (a : Int × Int × Int × Int) (h : domQQ a = true) : codeW Tryd.prog (cwC []) (bodyOf Tryd.f22) (inTab (encQQ a) 8) (birth [] 64) (retW Tryd.prog Tryd.f22 fun v _ => v = .bool (cdec (qn a.1 a.2.1 < qn a.2.2.1 a.2.2.2))) := by
  obtain ⟨ah, al, bh, bl⟩ := a
  refine (vc22 ah al bh bl _).mpr ?_
  have h := domQQ_iff.1 h
  simp only [qn, M64]
  refine bifW_intro (fun h1 => ?_) (fun h1 => ?_)
  · rw [cdec_true] at h1
    exact v_true (by omega)
  · rw [cdec_false] at h1
    refine bifW_intro (fun h2 => ?_) (fun h2 => ?_)
    · rw [cdec_true] at h2
      exact v_iff (by omega)
    · rw [cdec_false] at h2
      exact v_false (by omega)

theorem quad_of {h l : Int} {n : Nat} (h1 : h = ((n / M64 : Nat) : Int)) (h2 : l = ((n % M64 : Nat) : Int)) : Value.agg #[.int .u64 h, .int .u64 l] = quadV n := by
  rw [h1, h2]; rfl

theorem inU_of {n : Int} (h : 0 ≤ n ∧ n < 18446744073709551616) : inU n = true := inU_iff.2 h

theorem w20 (a : Int × Int × Int × Int) (h : domQQ a = true) : codeW Tryd.prog (cwC []) (bodyOf Tryd.f20) (inTab (encQQ a) 8) (birth [] 64) (retW Tryd.prog Tryd.f20 fun v _ => v = quadV (qn a.1 a.2.1 &&& qn a.2.2.1 a.2.2.2)) := by
  obtain ⟨ah, al, bh, bl⟩ := a
  refine (vc20 ah al bh bl _).mpr ?_
  have h := domQQ_iff.1 h
  rw [andI_u64 (inU_of h.1.1) (inU_of h.2.1), andI_u64 (inU_of h.1.2) (inU_of h.2.2)]
  have h1 : al.toNat < M64 := by simp only [M64]; omega
  have h2 : bl.toNat < M64 := by simp only [M64]; omega
  have h3 : al.toNat &&& bl.toNat < M64 := Nat.lt_of_le_of_lt Nat.and_le_left h1
  show _ = quadV ((ah.toNat * M64 + al.toNat) &&& (bh.toNat * M64 + bl.toNat))
  rw [land_split h1 h2]
  simp only [M64] at *
  refine quad_of ?_ ?_ <;> (simp only [M64]; omega)

theorem w21 (a : Int × Int × Int × Int) (h : domQQ a = true) : codeW Tryd.prog (cwC []) (bodyOf Tryd.f21) (inTab (encQQ a) 8) (birth [] 64) (retW Tryd.prog Tryd.f21 fun v _ => v = quadV (qn a.1 a.2.1 ||| qn a.2.2.1 a.2.2.2)) := by
  obtain ⟨ah, al, bh, bl⟩ := a
  refine (vc21 ah al bh bl _).mpr ?_
  have h := domQQ_iff.1 h
  rw [orI_u64 (inU_of h.1.1) (inU_of h.2.1), orI_u64 (inU_of h.1.2) (inU_of h.2.2)]
  have h1 : al.toNat < M64 := by simp only [M64]; omega
  have h2 : bl.toNat < M64 := by simp only [M64]; omega
  have h3 : al.toNat ||| bl.toNat < M64 := lor_lt64 h1 h2
  show _ = quadV ((ah.toNat * M64 + al.toNat) ||| (bh.toNat * M64 + bl.toNat))
  rw [lor_split h1 h2]
  simp only [M64] at *
  refine quad_of ?_ ?_ <;> (simp only [M64]; omega)

theorem maxU : (if false = true then (-1 : Int) else if false = true then 2 ^ (64 - 1) - 1 else 2 ^ 64 - 1) = 18446744073709551615 := by decide

theorem w24 (a : Int × Int) (h : domQ a = true) : codeW Tryd.prog (cwC []) (bodyOf Tryd.f24) (inTab (encQ a) 8) (birth [] 64) (retW Tryd.prog Tryd.f24 fun v _ => v = quadV (M128 - 1 - qn a.1 a.2)) := by
  obtain ⟨ah, al⟩ := a
  refine (vc24 ah al _).mpr ?_
  have h := domQ_iff.1 h
  rw [maxU, notI_u64 (inU_of h.1), notI_u64 (inU_of h.2)]
  refine quad_of ?_ ?_ <;> (simp only [qn, M64, M128]; omega)

theorem w16 (a : Int × Int × Int × Int) (h : domQQ a = true) : codeW Tryd.prog (cwC L0) (bodyOf Tryd.f16) (inTab (encQQ a) 8) (birth [] 64) (retW Tryd.prog Tryd.f16 fun v _ => v = .tuple #[quadV (addN (qn a.1 a.2.1) (qn a.2.2.1 a.2.2.2)), .bool (cdec (qn a.1 a.2.1 + qn a.2.2.1 a.2.2.2 < M128))]) := by
  obtain ⟨ah, al, bh, bl⟩ := a
  refine (vc16 ah al bh bl _).mpr ?_
  have h := domQQ_iff.1 h
  refine ⟨rfl, Nat.ble_eq_true_of_le (by omega), bifW_intro (fun h1 => ?_) (fun h1 => ?_)⟩
  · rw [cdec_true] at h1
    have hge : ¬ qn ah al + qn bh bl < M128 := by simp only [qn, M64, M128]; omega
    have : addN (qn ah al) (qn bh bl) = 0 := by unfold addN; rw [if_neg hge]
    show _ = Value.tuple #[quadV (addN (qn ah al) (qn bh bl)), .bool (cdec (qn ah al + qn bh bl < M128))]
    rw [this, ← v_false hge]; rfl
  · rw [cdec_false] at h1
    have hlt : qn ah al + qn bh bl < M128 := by simp only [qn, M64, M128]; omega
    have : addN (qn ah al) (qn bh bl) = qn ah al + qn bh bl := by unfold addN; rw [if_pos hlt]
    show _ = Value.tuple #[quadV (addN (qn ah al) (qn bh bl)), .bool (cdec (qn ah al + qn bh bl < M128))]
    rw [this, ← v_true hlt]
    congr 3
    refine quad_of ?_ ?_ <;> (simp only [qn, M64]; omega)

theorem wrapU (x : Int) : IntKind.u64.wrap x = x % 18446744073709551616 := by
  unfold IntKind.wrap
  simp [IntKind.signed, IntKind.bits]

theorem w17 (a : Int × Int × Int × Int) (h : domQQ a = true) : codeW Tryd.prog (cwC L1) (bodyOf Tryd.f17) (inTab (encQQ a) 8) (birth [] 64) (retW Tryd.prog Tryd.f17 fun v _ => v = .tuple #[quadV (subN (qn a.1 a.2.1) (qn a.2.2.1 a.2.2.2)), .bool (cdec (qn a.2.2.1 a.2.2.2 ≤ qn a.1 a.2.1))]) := by
  obtain ⟨ah, al, bh, bl⟩ := a
  refine (vc17 ah al bh bl _).mpr ?_
  refine ⟨h, ?_⟩
  have h := domQQ_iff.1 h
  show bifW _ (_ = Value.tuple #[quadV (subN (qn ah al) (qn bh bl)), .bool (cdec (qn bh bl ≤ qn ah al))]) (true = true ∧ _ = Value.tuple #[quadV (subN (qn ah al) (qn bh bl)), .bool (cdec (qn bh bl ≤ qn ah al))])
  refine bifW_intro (fun h1 => ?_) (fun h1 => ⟨rfl, ?_⟩)
  · rw [cdec_true] at h1
    have e : subN (qn ah al) (qn bh bl) = 0 := if_pos h1
    rw [e, ← v_false (by omega)]; rfl
  · rw [cdec_false] at h1
    have e : subN (qn ah al) (qn bh bl) = qn ah al - qn bh bl := if_neg h1
    rw [e, ← v_true (by omega)]
    have hb : (borrowN al bl 0 : Int) = if bl.toNat ≤ al.toNat then 0 else 1 := by
      unfold borrowN
      show ((match Nat.ble (bl.toNat + 0) al.toNat with | true => 0 | false => 1 : Nat) : Int) = _
      cases hq : Nat.ble (bl.toNat + 0) al.toNat with
      | true => rw [if_pos (by have := Nat.le_of_ble_eq_true hq; omega)]; rfl
      | false => rw [if_neg (by intro q; have := Nat.ble_eq_true_of_le (show bl.toNat + 0 ≤ al.toNat by omega); rw [this] at hq; cases hq)]; rfl
    rw [hb, wrapU, wrapU]
    have hh : quadV (qn ah al - qn bh bl) = Value.agg #[.int .u64 (((ah - bh) % 18446744073709551616 - (if bl.toNat ≤ al.toNat then 0 else 1)) % 18446744073709551616), .int .u64 (((al.toNat + 18446744073709551616 - bl.toNat - Int.toNat 0) % 18446744073709551616 : Nat) : Int)] := by
      refine (quad_of ?_ ?_).symm
      · simp only [qn, M64] at *
        split <;> omega
      · simp only [qn, M64] at *
        omega
    rw [hh]

/-! what is finite is reckoned -/
theorem fin_high : (List.range 65).all (fun k => decide (Int.fdiv 18446744073709551615 (2 ^ k) = 18446744073709551615 - ((highN k : Nat) : Int))) = true := by decide +kernel
theorem fin_mask : (List.range 129).all (fun k => decide (maskN k / M64 = highN (min k 64) ∧ maskN k % M64 = highN (k - 64))) = true := by decide +kernel
theorem fin_bit : (List.range 128).all (fun k => decide (2 ^ k / M64 = (if k < 64 then 0 else 2 ^ (k - 64)) ∧ 2 ^ k % M64 = (if k < 64 then 2 ^ k else 0))) = true := by decide +kernel
theorem fin_at {p : Nat → Bool} {n : Nat} (h : (List.range n).all p = true) (k : Nat) (hk : k < n) : p k = true := List.all_eq_true.1 h k (List.mem_range.2 hk)

theorem w50 (n : Int) (_ : true = true) : codeW Tryd.prog (cwC []) (bodyOf Tryd.f50) (inTab (encI n) 8) (birth [] 64) (retW Tryd.prog Tryd.f50 fun v _ => v = .int .u64 (highN (clampN n 64) : Nat)) := by
  refine (vc50 n _).mpr ?_
  generalize hm : (if 64 < if 0 > n then 0 else n then (64 : Int) else if 0 > n then 0 else n) = m
  have h0 : 0 ≤ m ∧ m ≤ 64 ∧ m.toNat = clampN n 64 := by
    rw [← hm]
    unfold clampN
    split <;> split at * <;> omega
  refine ⟨h0.1, ?_⟩
  rw [maxU]
  have e : shrI IntKind.u64 18446744073709551615 m = 18446744073709551615 - ((highN (clampN n 64) : Nat) : Int) := by
    have := of_decide_eq_true (fin_at fin_high m.toNat (by omega))
    rw [← h0.2.2, ← this]
    unfold shrI
    rw [show min m.toNat IntKind.u64.bits = m.toNat by simp [IntKind.bits]; omega]
  have hr : highN (clampN n 64) ≤ 18446744073709551615 := by
    unfold highN
    have : 0 < 2 ^ (64 - clampN n 64) := Nat.pow_pos (by decide)
    simp only [M64]; omega
  rw [e, notI_u64 (inU_of (by omega))]
  congr 1
  omega

theorem w19 (n : Int) (h : domMask n = true) : codeW Tryd.prog (cwC L2) (bodyOf Tryd.f19) (inTab (encI n) 8) (birth [] 64) (retW Tryd.prog Tryd.f19 fun v _ => v = quadV (maskN (clampN n 128))) := by
  refine (vc19 n _).mpr ⟨rfl, rfl, ?_⟩
  have h := of_decide_eq_true h
  have hk : clampN n 128 ≤ 128 := by unfold clampN; omega
  have := of_decide_eq_true (fin_at fin_mask (clampN n 128) (by omega))
  refine quad_of ?_ ?_
  · rw [this.1]
    congr 2
    unfold clampN; omega
  · rw [this.2]
    congr 2
    have e : IntKind.i64.wrap ((if 128 < n then 128 else n) - 64) = (if 128 < n then 128 else n) - 64 := by
      rw [IntKind.wrap_i64]; split <;> omega
    rw [e]
    unfold clampN
    split <;> omega

theorem shl1 {n : Int} (h : 0 ≤ n ∧ n < 64) : shlI IntKind.u64 1 n = ((2 ^ n.toNat : Nat) : Int) := by
  unfold shlI
  rw [show min n.toNat IntKind.u64.bits = n.toNat by simp [IntKind.bits]; omega, wrapU, Int.one_mul]
  have : (2 : Nat) ^ n.toNat < 2 ^ 64 := Nat.pow_lt_pow_right (by decide) (by omega)
  have e : ((2 : Int) ^ n.toNat) = ((2 ^ n.toNat : Nat) : Int) := by simp
  rw [e]
  generalize (2 ^ n.toNat : Nat) = q at *
  have : q < 18446744073709551616 := this
  omega

theorem w23 (n : Int) (_ : true = true) : codeW Tryd.prog (cwC []) (bodyOf Tryd.f23) (inTab (encI n) 8) (birth [] 64) (retW Tryd.prog Tryd.f23 fun v _ => v = quadV (bitN n)) := by
  refine (vc23 n _).mpr ?_
  refine bifW_intro (fun h1 => ?_) (fun h1 => bifW_intro (fun h2 => ?_) (fun h2 => bifW_intro (fun h3 => ⟨?_, ?_⟩) (fun h3 => ⟨?_, ?_⟩)))
  · rw [cdec_true] at h1
    rw [show bitN n = 0 by unfold bitN; rw [if_neg (by omega)]]; rfl
  · rw [cdec_true] at h2
    rw [show bitN n = 0 by unfold bitN; rw [if_neg (by omega)]]; rfl
  · rw [cdec_false] at h1; omega
  · rw [cdec_false] at h1 h2
    rw [cdec_true] at h3
    have := of_decide_eq_true (fin_at fin_bit n.toNat (by omega))
    rw [if_pos (show n.toNat < 64 by omega), if_pos (show n.toNat < 64 by omega)] at this
    have e : bitN n = 2 ^ n.toNat := by unfold bitN; rw [if_pos (by omega)]
    refine quad_of ?_ ?_
    · rw [e, this.1]; rfl
    · rw [e, this.2, shl1 (by omega)]
  · rw [cdec_false] at h1 h2 h3
    rw [IntKind.wrap_i64]; omega
  · rw [cdec_false] at h1 h2 h3
    have hw : IntKind.i64.wrap (n - 64) = n - 64 := by rw [IntKind.wrap_i64]; omega
    have := of_decide_eq_true (fin_at fin_bit n.toNat (by omega))
    rw [if_neg (show ¬ n.toNat < 64 by omega), if_neg (show ¬ n.toNat < 64 by omega)] at this
    have e : bitN n = 2 ^ n.toNat := by unfold bitN; rw [if_pos (by omega)]
    refine quad_of ?_ ?_
    · rw [e, this.1, hw, shl1 (by omega), show (n - 64).toNat = n.toNat - 64 by omega]
    · rw [e, this.2]; rfl

end Go.Proofs.YtfnacgojmdbjmaaDoor
