/- Texts of a proof, joined: words of the print (those that are named here) and printed functions. -/
import Derived.Test.YtfnacgojmdbjmaaDoorPh2
import Derived.Test.YtfnacgojmdbjmaaDoorPh3

section
/- Words of the print: those of them that this claim names; the others were left out by a program of this claim. -/
/- Numbers of 128 bits in two halves, as natural numbers: sums, differences, bits. Plain. -/
namespace Go.Det

abbrev M64 : Nat := 18446744073709551616
abbrev M128 : Nat := 340282366920938463463374607431768211456
/-- the number of two halves -/
def qn (h l : Int) : Nat := h.toNat * M64 + l.toNat
def inU (n : Int) : Bool := decide (0 ≤ n ∧ n < 18446744073709551616)
def inQ (h l : Int) : Bool := inU h && inU l
/-- a number of 128 bits as a value -/
def quadV (n : Nat) : Value := .agg #[.int .u64 ((n / M64 : Nat) : Int), .int .u64 ((n % M64 : Nat) : Int)]

theorem inU_iff {n : Int} : inU n = true ↔ 0 ≤ n ∧ n < 18446744073709551616 := by simp [inU]
theorem inQ_iff {h l : Int} : inQ h l = true ↔ (0 ≤ h ∧ h < 18446744073709551616) ∧ (0 ≤ l ∧ l < 18446744073709551616) := by
  simp [inQ, inU_iff]
theorem inQ_quad {n : Nat} (h : n < M128) : inQ ((n / M64 : Nat) : Int) ((n % M64 : Nat) : Int) = true := by
  rw [inQ_iff]
  unfold M64 M128 at *
  omega
theorem qn_quad (n : Nat) : qn ((n / M64 : Nat) : Int) ((n % M64 : Nat) : Int) = n := by
  unfold qn
  rw [Int.toNat_natCast, Int.toNat_natCast]
  exact Nat.div_add_mod' n M64
/-! bits, half by half -/
theorem testBit_halves {h l : Nat} (k : l < M64) (j : Nat) : (h * M64 + l).testBit j = if j < 64 then l.testBit j else h.testBit (j - 64) := by
  have := Nat.testBit_two_pow_mul_add h (b := l) (i := 64) (by unfold M64 at k; omega) j
  rw [← this, Nat.mul_comm]
theorem land_split {h1 l1 h2 l2 : Nat} (a : l1 < M64) (b : l2 < M64) : (h1 * M64 + l1) &&& (h2 * M64 + l2) = (h1 &&& h2) * M64 + (l1 &&& l2) := by
  apply Nat.eq_of_testBit_eq
  intro j
  have c : l1 &&& l2 < M64 := Nat.lt_of_le_of_lt Nat.and_le_left a
  rw [Nat.testBit_and, testBit_halves a, testBit_halves b, testBit_halves c]
  split <;> rw [Nat.testBit_and]
theorem lor_lt64 {a b : Nat} (h : a < M64) (k : b < M64) : a ||| b < M64 := Nat.or_lt_two_pow (n := 64) h k
theorem lor_split {h1 l1 h2 l2 : Nat} (a : l1 < M64) (b : l2 < M64) : (h1 * M64 + l1) ||| (h2 * M64 + l2) = (h1 ||| h2) * M64 + (l1 ||| l2) := by
  apply Nat.eq_of_testBit_eq
  intro j
  rw [Nat.testBit_or, testBit_halves a, testBit_halves b, testBit_halves (lor_lt64 a b)]
  split <;> rw [Nat.testBit_or]

theorem ofInt_toNat {n : Int} (h : 0 ≤ n) (k : n < 18446744073709551616) : (BitVec.ofInt 64 n).toNat = n.toNat := by
  rw [BitVec.toNat_ofInt]
  omega
theorem wrap_u64 {n : Nat} (h : n < M64) : IntKind.u64.wrap (n : Int) = (n : Int) := by
  unfold M64 at h
  unfold IntKind.wrap
  simp [IntKind.signed, IntKind.bits]
  omega
theorem andI_u64 {a b : Int} (ha : inU a = true) (hb : inU b = true) : andI .u64 a b = ((a.toNat &&& b.toNat : Nat) : Int) := by
  rw [inU_iff] at ha hb
  unfold andI
  show IntKind.u64.wrap ((BitVec.ofInt 64 a &&& BitVec.ofInt 64 b).toNat : Int) = _
  rw [BitVec.toNat_and, ofInt_toNat ha.1 ha.2, ofInt_toNat hb.1 hb.2]
  exact wrap_u64 (Nat.lt_of_le_of_lt Nat.and_le_left (by unfold M64; omega))
theorem orI_u64 {a b : Int} (ha : inU a = true) (hb : inU b = true) : orI .u64 a b = ((a.toNat ||| b.toNat : Nat) : Int) := by
  rw [inU_iff] at ha hb
  unfold orI
  show IntKind.u64.wrap ((BitVec.ofInt 64 a ||| BitVec.ofInt 64 b).toNat : Int) = _
  rw [BitVec.toNat_or, ofInt_toNat ha.1 ha.2, ofInt_toNat hb.1 hb.2]
  exact wrap_u64 (lor_lt64 (by unfold M64; omega) (by unfold M64; omega))
theorem notI_u64 {a : Int} (ha : inU a = true) : IntKind.u64.wrap ((BitVec.ofInt 64 18446744073709551615 ^^^ BitVec.ofInt 64 a).toNat : Int) = 18446744073709551615 - a := by
  rw [inU_iff] at ha
  have e : BitVec.ofInt 64 18446744073709551615 = BitVec.allOnes 64 := by decide
  rw [e, BitVec.allOnes_xor, BitVec.toNat_not, ofInt_toNat ha.1 ha.2]
  rw [wrap_u64 (by unfold M64; omega)]
  omega

/-! what a law's conditions come to -/
end Go.Det
end

section
/- Words of the print: those of them that this claim names; the others were left out by a program of this claim. -/
/- The contracts of the numbers of 128 bits. -/
namespace Go.Det

noncomputable def con48 : Con where
  own := pureD addH
  w := fun args s K => match args with
    | [.int .u64 x, .int .u64 y, .int .u64 c] => Nat.ble c.toNat 1 = true ∧ K (.tuple #[.int .u64 (((x.toNat + y.toNat + c.toNat) % 18446744073709551616 : Nat) : Int), .int .u64 (((x.toNat + y.toNat + c.toNat) / 18446744073709551616 : Nat) : Int)]) s
    | _ => False
  ok := by
    intro args s K h
    split at h
    · obtain ⟨h1, h2⟩ := h
      exact ⟨_, _, by simp only [pureD, addH, h1], h2, fun K' k => ⟨h1, k⟩⟩
    · exact h.elim
  mono := by
    intro args s K K' k h
    split at h
    · exact ⟨h.1, k _ _ h.2⟩
    · exact h.elim
def borrowN (x y c : Int) : Nat := match Nat.ble (y.toNat + c.toNat) x.toNat with | true => 0 | false => 1
noncomputable def con49 : Con where
  own := pureD subH
  w := fun args s K => match args with
    | [.int .u64 x, .int .u64 y, .int .u64 c] => Nat.ble c.toNat 1 = true ∧ K (.tuple #[.int .u64 (((x.toNat + 18446744073709551616 - y.toNat - c.toNat) % 18446744073709551616 : Nat) : Int), .int .u64 (borrowN x y c : Nat)]) s
    | _ => False
  ok := by
    intro args s K h
    split at h
    · obtain ⟨h1, h2⟩ := h
      refine ⟨_, _, ?_, h2, fun K' k => ⟨h1, k⟩⟩
      simp only [pureD, subH, h1, borrowN]
      rfl
    · exact h.elim
  mono := by
    intro args s K K' k h
    split at h
    · exact ⟨h.1, k _ _ h.2⟩
    · exact h.elim

def domQQ (x : Int × Int × Int × Int) : Bool := inQ x.1 x.2.1 && inQ x.2.2.1 x.2.2.2
def domQ (x : Int × Int) : Bool := inQ x.1 x.2
noncomputable def conLess : Con := Con.flat decQQ domQQ fun x => .bool (cdec (qn x.1 x.2.1 < qn x.2.2.1 x.2.2.2))
/-- a number between lo and hi -/
def clampN (n : Int) (hi : Nat) : Nat := min n.toNat hi
def highN (n : Nat) : Nat := M64 - 2 ^ (64 - n)
def maskN (n : Nat) : Nat := M128 - 2 ^ (128 - n)
noncomputable def conHigh : Con := Con.flat decI (fun _ => true) fun n => .int .u64 (highN (clampN n 64) : Nat)
def domMask (n : Int) : Bool := decide (-1000 ≤ n ∧ n ≤ 1000)
def bitN (n : Int) : Nat := if 0 ≤ n ∧ n ≤ 127 then 2 ^ n.toNat else 0
def addN (a b : Nat) : Nat := if a + b < M128 then a + b else 0
def subN (a b : Nat) : Nat := if a < b then 0 else a - b
end Go.Det
end

section
/- Words of the print: those of them that this claim names; the others were left out by a program of this claim. -/
/- The conditions of the functions of 128 bits, printed by a tool of one's own and checked by the kernel. -/
namespace Go.Proofs.YtfnacgojmdbjmaaDoor
open Go.Det
set_option maxRecDepth 100000
noncomputable def bodyOf (f : Func) : Code := match f.body with | some c => c | none => .skip
noncomputable def L0 : List (Nat × Con) := [(48, con48), (49, con49)]
noncomputable def L1 : List (Nat × Con) := (22, conLess) :: L0
noncomputable def L2 : List (Nat × Con) := (50, conHigh) :: L1
theorem vc22 (ah al bh bl : Int) (Q : Value → Prop) : codeW Tryd.prog (cwC []) (bodyOf Tryd.f22) (inTab (encQQ (ah, al, bh, bl)) 8) (birth [] 64) (retW Tryd.prog Tryd.f22 fun v _ => Q v) = (bifW (cdec (ah < bh)) (Q (Value.bool Bool.true)) (bifW (cdec (ah = bh)) (Q (Value.bool (cdec (al < bl)))) (Q (Value.bool Bool.false)))) := by kernel_rfl
theorem vc20 (ah al bh bl : Int) (Q : Value → Prop) : codeW Tryd.prog (cwC []) (bodyOf Tryd.f20) (inTab (encQQ (ah, al, bh, bl)) 8) (birth [] 64) (retW Tryd.prog Tryd.f20 fun v _ => Q v) = (Q (Value.agg #[Value.int IntKind.u64 (andI IntKind.u64 ah bh), Value.int IntKind.u64 (andI IntKind.u64 al bl)])) := by kernel_rfl
theorem vc21 (ah al bh bl : Int) (Q : Value → Prop) : codeW Tryd.prog (cwC []) (bodyOf Tryd.f21) (inTab (encQQ (ah, al, bh, bl)) 8) (birth [] 64) (retW Tryd.prog Tryd.f21 fun v _ => Q v) = (Q (Value.agg #[Value.int IntKind.u64 (orI IntKind.u64 ah bh), Value.int IntKind.u64 (orI IntKind.u64 al bl)])) := by kernel_rfl
theorem vc24 (ah al : Int) (Q : Value → Prop) : codeW Tryd.prog (cwC []) (bodyOf Tryd.f24) (inTab (encQ (ah, al)) 8) (birth [] 64) (retW Tryd.prog Tryd.f24 fun v _ => Q v) = (Q (Value.agg #[Value.int IntKind.u64 (IntKind.wrap IntKind.u64 (↑(BitVec.toNat (BitVec.ofInt 64 (if Bool.false = Bool.true then -1 else if Bool.false = Bool.true then 2 ^ (64 - 1) - 1 else 2 ^ 64 - 1) ^^^ BitVec.ofInt 64 ah)) : Int)), Value.int IntKind.u64 (IntKind.wrap IntKind.u64 (↑(BitVec.toNat (BitVec.ofInt 64 (if Bool.false = Bool.true then -1 else if Bool.false = Bool.true then 2 ^ (64 - 1) - 1 else 2 ^ 64 - 1) ^^^ BitVec.ofInt 64 al)) : Int))])) := by kernel_rfl
theorem vc50 (n : Int) (Q : Value → Prop) : codeW Tryd.prog (cwC []) (bodyOf Tryd.f50) (inTab (encI n) 8) (birth [] 64) (retW Tryd.prog Tryd.f50 fun v _ => Q v) = (((0 ≤ if 64 < if n < 0 then 0 else n then 64 else if n < 0 then 0 else n) ∧ Q (Value.int IntKind.u64 (IntKind.wrap IntKind.u64 (↑(BitVec.toNat (BitVec.ofInt 64 (if Bool.false = Bool.true then -1 else if Bool.false = Bool.true then 2 ^ (64 - 1) - 1 else 2 ^ 64 - 1) ^^^ BitVec.ofInt 64 (shrI IntKind.u64 18446744073709551615 (if 64 < if n < 0 then 0 else n then 64 else if n < 0 then 0 else n)))) : Int))))) := by kernel_rfl
theorem vc19 (n : Int) (Q : Value → Prop) : codeW Tryd.prog (cwC L2) (bodyOf Tryd.f19) (inTab (encI n) 8) (birth [] 64) (retW Tryd.prog Tryd.f19 fun v _ => Q v) = (((Bool.true = Bool.true) ∧ ((Bool.true = Bool.true) ∧ Q (Value.agg #[Value.int IntKind.u64 (↑(highN (clampN n 64)) : Int), Value.int IntKind.u64 (↑(highN (clampN (IntKind.wrap IntKind.i64 ((if 128 < n then 128 else n) - 64)) 64)) : Int)])))) := by kernel_rfl
theorem vc23 (n : Int) (Q : Value → Prop) : codeW Tryd.prog (cwC []) (bodyOf Tryd.f23) (inTab (encI n) 8) (birth [] 64) (retW Tryd.prog Tryd.f23 fun v _ => Q v) = (bifW (cdec (n < 0)) (Q (Value.agg #[Value.int IntKind.u64 0, Value.int IntKind.u64 0])) (bifW (cdec (127 < n)) (Q (Value.agg #[Value.int IntKind.u64 0, Value.int IntKind.u64 0])) (bifW (cdec (n < 64)) (((0 ≤ n) ∧ Q (Value.agg #[Value.int IntKind.u64 0, Value.int IntKind.u64 (shlI IntKind.u64 1 n)]))) (((0 ≤ IntKind.wrap IntKind.i64 (n - 64)) ∧ Q (Value.agg #[Value.int IntKind.u64 (shlI IntKind.u64 1 (IntKind.wrap IntKind.i64 (n - 64))), Value.int IntKind.u64 0])))))) := by kernel_rfl
theorem vc16 (ah al bh bl : Int) (Q : Value → Prop) : codeW Tryd.prog (cwC L0) (bodyOf Tryd.f16) (inTab (encQQ (ah, al, bh, bl)) 8) (birth [] 64) (retW Tryd.prog Tryd.f16 fun v _ => Q v) = (((Bool.true = Bool.true) ∧ ((Nat.ble (Int.toNat (↑((Int.toNat al + Int.toNat bl + Int.toNat 0) / 18446744073709551616) : Int)) 1 = Bool.true) ∧ bifW (cdec ((↑((Int.toNat ah + Int.toNat bh + Int.toNat (↑((Int.toNat al + Int.toNat bl + Int.toNat 0) / 18446744073709551616) : Int)) / 18446744073709551616) : Int) ≠ 0)) (Q (Value.tuple #[Value.agg #[Value.int IntKind.u64 0, Value.int IntKind.u64 0], Value.bool Bool.false])) (Q (Value.tuple #[Value.agg #[Value.int IntKind.u64 (↑((Int.toNat ah + Int.toNat bh + Int.toNat (↑((Int.toNat al + Int.toNat bl + Int.toNat 0) / 18446744073709551616) : Int)) % 18446744073709551616) : Int), Value.int IntKind.u64 (↑((Int.toNat al + Int.toNat bl + Int.toNat 0) % 18446744073709551616) : Int)], Value.bool Bool.true]))))) := by kernel_rfl
theorem vc17 (ah al bh bl : Int) (Q : Value → Prop) : codeW Tryd.prog (cwC L1) (bodyOf Tryd.f17) (inTab (encQQ (ah, al, bh, bl)) 8) (birth [] 64) (retW Tryd.prog Tryd.f17 fun v _ => Q v) = (((domQQ (ah, al, bh, bl) = Bool.true) ∧ bifW (cdec (qn ah al < qn bh bl)) (Q (Value.tuple #[Value.agg #[Value.int IntKind.u64 0, Value.int IntKind.u64 0], Value.bool Bool.false])) (((Bool.true = Bool.true) ∧ Q (Value.tuple #[Value.agg #[Value.int IntKind.u64 (IntKind.wrap IntKind.u64 (IntKind.wrap IntKind.u64 (ah - bh) - (↑(borrowN al bl 0) : Int))), Value.int IntKind.u64 (↑((Int.toNat al + 18446744073709551616 - Int.toNat bl - Int.toNat 0) % 18446744073709551616) : Int)], Value.bool Bool.true]))))) := by kernel_rfl
end Go.Proofs.YtfnacgojmdbjmaaDoor
end
