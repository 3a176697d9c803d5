/- PrefMasks: the condition under which the call returns true is met, whatever the numbers; no conditions. -/
import Derived.Test.YtfnacgojmdbjmaaDoorPj25
import Derived.Test.YtfnacgojmdbjmaaDoorPj26
namespace Go.Proofs.YtfnacgojmdbjmaaDoor
open Go.Det Go.RowKit Go.Proofs.YtfnacgojmdbjmaaDoor.PM Go.Proofs.YtfnacgojmdbjmaaDoorW.PrintWords Go.Proofs.YtfnacgojmdbjmaaDoor.Pure
set_option maxRecDepth 100000

theorem pm33 (n : Int) : ∃ N : Nat, N ≤ 32 ∧ Int.tmod (andI IntKind.i64 n 255) 33 = (N : Int) := by
  have h : 0 ≤ andI IntKind.i64 n 255 ∧ andI IntKind.i64 n 255 ≤ 255 := by
    unfold andI
    show 0 ≤ IntKind.i64.wrap ((BitVec.ofInt 64 n &&& BitVec.ofInt 64 255).toNat : Int) ∧ IntKind.i64.wrap ((BitVec.ofInt 64 n &&& BitVec.ofInt 64 255).toNat : Int) ≤ 255
    have h : (BitVec.ofInt 64 n &&& BitVec.ofInt 64 255).toNat ≤ 255 := by
      rw [BitVec.toNat_and]
      exact Nat.le_trans Nat.and_le_right (by decide)
    rw [IntKind.wrap_i64]
    omega
  rw [Int.tmod_eq_emod_of_nonneg h.1]
  exact ⟨(andI IntKind.i64 n 255 % 33).toNat, by omega, by omega⟩
theorem pm32 (a : Int) (h0 : 0 ≤ a) (h1 : a < 18446744073709551616) : ∃ A : Nat, A < 2 ^ 32 ∧ andI IntKind.u64 a 4294967295 = (A : Int) := by
  obtain ⟨A, rfl⟩ := Int.eq_ofNat_of_zero_le h0
  refine ⟨A &&& 4294967295, Nat.lt_of_le_of_lt Nat.and_le_right (by decide), ?_⟩
  rw [andI_eq, show (4294967295 : Int) = ((4294967295 : Nat) : Int) from rfl, Go.bits_and_u64_nat A 4294967295 (by omega) (by decide)]
theorem pm_not (B : Nat) (hB : B < 2 ^ 32) : IntKind.wrap IntKind.u64 (↑(BitVec.toNat (BitVec.ofInt 64 (if Bool.false = Bool.true then -1 else if Bool.false = Bool.true then 2 ^ (64 - 1) - 1 else 2 ^ 64 - 1) ^^^ BitVec.ofInt 64 (B : Int))) : Int) = ((2 ^ 64 - 1 - B : Nat) : Int) := by
  have e : BitVec.ofInt 64 (if Bool.false = Bool.true then -1 else if Bool.false = Bool.true then 2 ^ (64 - 1) - 1 else 2 ^ 64 - 1) = BitVec.allOnes 64 := by decide
  have e2 : (BitVec.ofInt 64 (B : Int)).toNat = B := by rw [BitVec.toNat_ofInt]; omega
  rw [e, BitVec.allOnes_xor, BitVec.toNat_not, e2, IntKind.wrap_u64]
  omega
theorem pm_low (B : Nat) (hB : B < 2 ^ 32) : andI IntKind.u64 ((2 ^ 64 - 1 - B : Nat) : Int) 4294967295 = ((2 ^ 32 - 1 - B : Nat) : Int) := by
  rw [andI_eq, show (4294967295 : Int) = ((4294967295 : Nat) : Int) from rfl, Go.bits_and_u64_nat _ 4294967295 (by omega) (by decide)]
  rw [show (4294967295 : Nat) = 2 ^ 32 - 1 from rfl, Nat.and_two_pow_sub_one_eq_mod]
  congr 1
  omega
theorem pm_gap (X : Nat) (hX : X < 2 ^ 32) : andI IntKind.u64 (X : Int) (IntKind.wrap IntKind.u64 ((X : Int) + 1)) = ((X &&& (X + 1) : Nat) : Int) := by
  have e : IntKind.wrap IntKind.u64 ((X : Int) + 1) = ((X + 1 : Nat) : Int) := by rw [IntKind.wrap_u64]; omega
  rw [e, andI_eq, Go.bits_and_u64_nat X (X + 1) (by omega) (by omega)]

/-- what the mask's gap is reckoned from -/
theorem pm_of (A B : Nat) (hA : A < 2 ^ 32) (hB : B < 2 ^ 32) : ∃ X : Nat, X < 2 ^ 32 ∧
    andI IntKind.u64 (IntKind.wrap IntKind.u64 (↑(BitVec.toNat (BitVec.ofInt 64 (if Bool.false = Bool.true then -1 else if Bool.false = Bool.true then 2 ^ (64 - 1) - 1 else 2 ^ 64 - 1) ^^^ BitVec.ofInt 64 (B : Int))) : Int)) 4294967295 = (X : Int) ∧
    ∃ x y z t, f41 4 0 (A : Int) 4 0 (B : Int) = some (x, y, z, t, decide (X &&& (X + 1) = 0)) := by
  refine ⟨2 ^ 32 - 1 - B, by omega, ?_, of_gap A B hA hB⟩
  rw [pm_not B hB, pm_low B hB]
theorem pm_eq (m : Nat) : (decide (m = 0) == cdec ((m : Int) = 0)) = true := by
  have : cdec ((m : Int) = 0) = decide (m = 0) := by rw [← cdec_eq]; congr 1; simp
  rw [this]; simp

theorem pm_w (a n b : Int) (ha : 0 ≤ a ∧ a < 18446744073709551616) (hb : 0 ≤ b ∧ b < 18446744073709551616) :
    codeW Tryd.prog (cwC LM) (bodyOf Tryd.f12) (inTab [.int .u64 a, .int .i64 n, .int .u64 b] 8) (birth [] 64) (retW Tryd.prog Tryd.f12 fun v _ => v = .bool true) := by
  refine (vc12 a n b _).mpr ⟨by decide, ?_⟩
  obtain ⟨N, hN, eN⟩ := pm33 n
  obtain ⟨A, hA, eA⟩ := pm32 a ha.1 ha.2
  obtain ⟨B, hB, eB⟩ := pm32 b hb.1 hb.2
  have g40 : f40 0 a 0 (N : Int) = some (4, 0, ((cut A N : Nat) : Int), (N : Int)) := pre4 A N hN a eA hA
  have g34 : f34 4 0 ((cut A N : Nat) : Int) (N : Int) = some (4, 0, ((mk N : Nat) : Int), true) := net4 299 N A hN hA
  have g41 : f41 4 0 (A : Int) 4 0 ((mk N : Nat) : Int) = some (4, 0, ((cut A N : Nat) : Int), (N : Int), true) := of_own A N hA hN
  have g41b : f41 4 0 (A : Int) 6 0 ((mk N : Nat) : Int) = some (0, 0, 0, 0, false) := of_six A N hA
  have g41c : f41 6 0 0 4 0 ((mk N : Nat) : Int) = some (0, 0, 0, 0, false) := of_none 4 0 _
  obtain ⟨X, hX, eX, x, y, z, t, g41e⟩ := pm_of A B hA hB
  obtain ⟨bb, hbb⟩ : ∃ bb : Bool, bb = decide (X &&& (X + 1) = 0) := ⟨_, rfl⟩
  obtain ⟨m, hm⟩ : ∃ m : Nat, m = X &&& (X + 1) := ⟨_, rfl⟩
  have hgap := pm_gap X hX
  rw [← hm] at hbb hgap
  rw [← hm, ← hbb] at g41e
  have g41d : f41 4 0 (A : Int) 4 0 (B : Int) = some (x, y, z, t, bb) := g41e
  have hpe : (bb == cdec ((m : Int) = 0)) = true := by rw [hbb]; exact pm_eq m
  have g42 : f42 4 0 ((cut A N : Nat) : Int) (N : Int) 4 0 (A : Int) = some true := has4 A N hN hA
  obtain ⟨C, hC⟩ : ∃ C : Int, C = ((cut A N : Nat) : Int) := ⟨_, rfl⟩
  obtain ⟨M, hM⟩ : ∃ M : Int, M = ((mk N : Nat) : Int) := ⟨_, rfl⟩
  obtain ⟨n', hn'⟩ : ∃ n' : Int, n' = (N : Int) := ⟨_, rfl⟩
  obtain ⟨A', hA'⟩ : ∃ A' : Int, A' = (A : Int) := ⟨_, rfl⟩
  obtain ⟨B', hB'⟩ : ∃ B' : Int, B' = (B : Int) := ⟨_, rfl⟩
  rw [← hC, ← hn'] at g40 g34
  rw [← hM] at g34 g41 g41b g41c
  rw [← hC, ← hn'] at g41 g42
  rw [← hA'] at g41 g41b g41d g42 eA
  rw [← hB'] at g41d eB eX
  rw [← hn'] at eN
  have h_d40 : d40 0 a 0 n' = true := by unfold d40; rw [g40]; rfl
  have h_r40a : r40a 0 a 0 n' = 4 := by unfold r40a; rw [g40]; rfl
  have h_r40b : r40b 0 a 0 n' = 0 := by unfold r40b; rw [g40]; rfl
  have h_r40c : r40c 0 a 0 n' = C := by unfold r40c; rw [g40]; rfl
  have h_r40d : r40d 0 a 0 n' = n' := by unfold r40d; rw [g40]; rfl
  have h_d34 : d34 4 0 C n' = true := by unfold d34; rw [g34]; rfl
  have h_r34a : r34a 4 0 C n' = 4 := by unfold r34a; rw [g34]; rfl
  have h_r34b : r34b 4 0 C n' = 0 := by unfold r34b; rw [g34]; rfl
  have h_r34c : r34c 4 0 C n' = M := by unfold r34c; rw [g34]; rfl
  have h_r34d : r34d 4 0 C n' = true := by unfold r34d; rw [g34]; rfl
  have h_d41 : d41 4 0 A' 4 0 M = true := by unfold d41; rw [g41]; rfl
  have h_r41a : r41a 4 0 A' 4 0 M = 4 := by unfold r41a; rw [g41]; rfl
  have h_r41b : r41b 4 0 A' 4 0 M = 0 := by unfold r41b; rw [g41]; rfl
  have h_r41c : r41c 4 0 A' 4 0 M = C := by unfold r41c; rw [g41]; rfl
  have h_r41d : r41d 4 0 A' 4 0 M = n' := by unfold r41d; rw [g41]; rfl
  have h_r41e : r41e 4 0 A' 4 0 M = true := by unfold r41e; rw [g41]; rfl
  have h_d41b : d41 4 0 A' 6 0 M = true := by unfold d41; rw [g41b]; rfl
  have h_r41eb : r41e 4 0 A' 6 0 M = false := by unfold r41e; rw [g41b]; rfl
  have h_d41c : d41 6 0 0 4 0 M = true := by unfold d41; rw [g41c]; rfl
  have h_r41ec : r41e 6 0 0 4 0 M = false := by unfold r41e; rw [g41c]; rfl
  have h_d41d : d41 4 0 A' 4 0 B' = true := by unfold d41; rw [g41d]; rfl
  have h_r41ed : r41e 4 0 A' 4 0 B' = bb := by unfold r41e; rw [g41d]; rfl
  have h_d42 : d42 4 0 C n' 4 0 A' = true := by unfold d42; rw [g42]; rfl
  have h_r42 : r42 4 0 C n' 4 0 A' = true := by unfold r42; rw [g42]; rfl
  simp only [eN, eA, eB, h_d40, h_r40a, h_r40b, h_r40c, h_r40d, h_d34, h_r34a, h_r34b, h_r34c, h_r34d, h_d41, h_r41a, h_r41b, h_r41c, h_r41d, h_r41e, h_d41b, h_r41eb, h_d41c, h_r41ec, h_d41d, h_r41ed, h_d42, h_r42, true_and, cdec_bool, eX, hgap, hpe, cTrue, Bool.and_true, Bool.not_false, bifW_true]

end Go.Proofs.YtfnacgojmdbjmaaDoor
