/- Numbers of 128 bits in two halves, as natural numbers: sums, differences, bits. Plain. -/
import Derived.Test.YtfnacgojmdbjmaaGreatDoorRo11
namespace Go.Det

abbrev M64 : Nat := 18446744073709551616
abbrev M128 : Nat := 340282366920938463463374607431768211456
/-- the number of two halves -/
def qn (h l : Int) : Nat := h.toNat * M64 + l.toNat
def inU (n : Int) : Bool := decide (0 ≤ n ∧ n < 18446744073709551616)
def inQ (h l : Int) : Bool := inU h && inU l
/-- a number of 128 bits as a value -/
def quadV (n : Nat) : Value := .agg #[.int .u64 ((n / M64 : Nat) : Int), .int .u64 ((n % M64 : Nat) : Int)]

theorem inU_iff {n : Int} : inU n = true ↔ 0 ≤ n ∧ n < 18446744073709551616 := by simp [inU]
theorem inQ_iff {h l : Int} : inQ h l = true ↔ (0 ≤ h ∧ h < 18446744073709551616) ∧ (0 ≤ l ∧ l < 18446744073709551616) := by
  simp [inQ, inU_iff]
theorem qn_lt {h l : Int} (k : inQ h l = true) : qn h l < M128 := by
  rw [inQ_iff] at k
  unfold qn M64 M128
  omega
theorem qn_div {h l : Int} (k : inQ h l = true) : ((qn h l / M64 : Nat) : Int) = h := by
  rw [inQ_iff] at k
  unfold qn M64
  omega
theorem qn_mod {h l : Int} (k : inQ h l = true) : ((qn h l % M64 : Nat) : Int) = l := by
  rw [inQ_iff] at k
  unfold qn M64
  omega
theorem quadV_qn {h l : Int} (k : inQ h l = true) : quadV (qn h l) = .agg #[.int .u64 h, .int .u64 l] := by
  unfold quadV
  rw [qn_div k, qn_mod k]
theorem inQ_quad {n : Nat} (h : n < M128) : inQ ((n / M64 : Nat) : Int) ((n % M64 : Nat) : Int) = true := by
  rw [inQ_iff]
  unfold M64 M128 at *
  omega
theorem qn_quad (n : Nat) : qn ((n / M64 : Nat) : Int) ((n % M64 : Nat) : Int) = n := by
  unfold qn
  rw [Int.toNat_natCast, Int.toNat_natCast]
  exact Nat.div_add_mod' n M64
theorem quad_inj {m n : Nat} : (((m / M64 : Nat) : Int) == ((n / M64 : Nat) : Int) && (((m % M64 : Nat) : Int) == ((n % M64 : Nat) : Int) && true)) = decide (m = n) := by
  rw [Bool.eq_iff_iff]
  simp only [Bool.and_eq_true, beq_iff_eq, decide_eq_true_eq, and_true, M64]
  omega

/-! bits, half by half -/
theorem testBit_halves {h l : Nat} (k : l < M64) (j : Nat) : (h * M64 + l).testBit j = if j < 64 then l.testBit j else h.testBit (j - 64) := by
  have := Nat.testBit_two_pow_mul_add h (b := l) (i := 64) (by unfold M64 at k; omega) j
  rw [← this, Nat.mul_comm]
theorem land_split {h1 l1 h2 l2 : Nat} (a : l1 < M64) (b : l2 < M64) : (h1 * M64 + l1) &&& (h2 * M64 + l2) = (h1 &&& h2) * M64 + (l1 &&& l2) := by
  apply Nat.eq_of_testBit_eq
  intro j
  have c : l1 &&& l2 < M64 := Nat.lt_of_le_of_lt Nat.and_le_left a
  rw [Nat.testBit_and, testBit_halves a, testBit_halves b, testBit_halves c]
  split <;> rw [Nat.testBit_and]
theorem lor_lt64 {a b : Nat} (h : a < M64) (k : b < M64) : a ||| b < M64 := Nat.or_lt_two_pow (n := 64) h k
theorem lor_split {h1 l1 h2 l2 : Nat} (a : l1 < M64) (b : l2 < M64) : (h1 * M64 + l1) ||| (h2 * M64 + l2) = (h1 ||| h2) * M64 + (l1 ||| l2) := by
  apply Nat.eq_of_testBit_eq
  intro j
  rw [Nat.testBit_or, testBit_halves a, testBit_halves b, testBit_halves (lor_lt64 a b)]
  split <;> rw [Nat.testBit_or]

theorem ofInt_toNat {n : Int} (h : 0 ≤ n) (k : n < 18446744073709551616) : (BitVec.ofInt 64 n).toNat = n.toNat := by
  rw [BitVec.toNat_ofInt]
  omega
theorem wrap_u64 {n : Nat} (h : n < M64) : IntKind.u64.wrap (n : Int) = (n : Int) := by
  unfold M64 at h
  unfold IntKind.wrap
  simp [IntKind.signed, IntKind.bits]
  omega
theorem andI_u64 {a b : Int} (ha : inU a = true) (hb : inU b = true) : andI .u64 a b = ((a.toNat &&& b.toNat : Nat) : Int) := by
  rw [inU_iff] at ha hb
  unfold andI
  show IntKind.u64.wrap ((BitVec.ofInt 64 a &&& BitVec.ofInt 64 b).toNat : Int) = _
  rw [BitVec.toNat_and, ofInt_toNat ha.1 ha.2, ofInt_toNat hb.1 hb.2]
  exact wrap_u64 (Nat.lt_of_le_of_lt Nat.and_le_left (by unfold M64; omega))
theorem orI_u64 {a b : Int} (ha : inU a = true) (hb : inU b = true) : orI .u64 a b = ((a.toNat ||| b.toNat : Nat) : Int) := by
  rw [inU_iff] at ha hb
  unfold orI
  show IntKind.u64.wrap ((BitVec.ofInt 64 a ||| BitVec.ofInt 64 b).toNat : Int) = _
  rw [BitVec.toNat_or, ofInt_toNat ha.1 ha.2, ofInt_toNat hb.1 hb.2]
  exact wrap_u64 (lor_lt64 (by unfold M64; omega) (by unfold M64; omega))
theorem notI_u64 {a : Int} (ha : inU a = true) : IntKind.u64.wrap ((BitVec.ofInt 64 18446744073709551615 ^^^ BitVec.ofInt 64 a).toNat : Int) = 18446744073709551615 - a := by
  rw [inU_iff] at ha
  have e : BitVec.ofInt 64 18446744073709551615 = BitVec.allOnes 64 := by decide
  rw [e, BitVec.allOnes_xor, BitVec.toNat_not, ofInt_toNat ha.1 ha.2]
  rw [wrap_u64 (by unfold M64; omega)]
  omega

/-! what a law's conditions come to -/
theorem bifW_true (A B : Prop) : bifW true A B = A := rfl
theorem bifW_false (A B : Prop) : bifW false A B = B := rfl
theorem cdec_and (p q : Prop) : (cdec p && cdec q) = cdec (p ∧ q) := by
  rw [Bool.eq_iff_iff, Bool.and_eq_true, cdec_true, cdec_true, cdec_true]
theorem pair_eq (m n : Nat) : (cdec (((m / M64 : Nat) : Int) = ((n / M64 : Nat) : Int)) && (cdec (((m % M64 : Nat) : Int) = ((n % M64 : Nat) : Int)) && true)) = cdec (m = n) := by
  rw [Bool.and_true, cdec_and]
  congr 1
  refine propext ?_
  simp only [M64]
  omega
theorem pair_eq_zero (m : Nat) : (cdec (((m / M64 : Nat) : Int) = 0) && (cdec (((m % M64 : Nat) : Int) = 0) && true)) = cdec (m = 0) := by
  rw [Bool.and_true, cdec_and]
  congr 1
  refine propext ?_
  simp only [M64]
  omega
theorem pair_eq_raw {h l : Int} (k : inQ h l = true) (m : Nat) : (cdec (((m / M64 : Nat) : Int) = h) && (cdec (((m % M64 : Nat) : Int) = l) && true)) = cdec (m = qn h l) := by
  have := pair_eq m (qn h l)
  rw [qn_div k, qn_mod k] at this
  exact this
theorem land_not {a : Nat} (h : a < M128) : a &&& (M128 - 1 - a) = 0 := by
  apply Nat.eq_of_testBit_eq
  intro i
  have e : M128 - 1 - a = 2 ^ 128 - (a + 1) := by simp only [M128] at *; omega
  rw [e, Nat.testBit_and, Nat.testBit_two_pow_sub_succ (by simp only [M128] at h; omega), Nat.zero_testBit]
  cases a.testBit i <;> simp
theorem lor_land_self (a b : Nat) : (a &&& b) ||| a = a := by
  apply Nat.eq_of_testBit_eq
  intro i
  rw [Nat.testBit_or, Nat.testBit_and]
  cases a.testBit i <;> cases b.testBit i <;> rfl
theorem lor_lt128 {a b : Nat} (h : a < M128) (k : b < M128) : a ||| b < M128 := Nat.or_lt_two_pow (n := 128) h k
theorem land_lt128 {a : Nat} (h : a < M128) (b : Nat) : a &&& b < M128 := Nat.lt_of_le_of_lt Nat.and_le_left h

end Go.Det
