/- PrefMasks: the plain law: a netmask and an address are the prefix that has the address; a mask with a gap is none. No conditions. -/
import Derived.Test.YtfnacgojmdbjmaaDoorPj23
namespace Go.Proofs.YtfnacgojmdbjmaaDoor.Pure
open Go.RowKit Go.Proofs.YtfnacgojmdbjmaaDoor Go.Proofs.YtfnacgojmdbjmaaDoor.PM Go.Proofs.YtfnacgojmdbjmaaDoorW.PrintWords Go.Proofs.YtfnacgojmdbjmaaDoorW.PrintLast

/-! bits -/
theorem and_succ (x : Nat) : x &&& (x + 1) = 0 ↔ ∃ k, x + 1 = 2 ^ k := by
  induction x using Nat.strongRecOn with
  | _ x ih =>
    have hz : x &&& (x + 1) = 0 ↔ (x / 2 &&& (x + 1) / 2) = 0 := by
      have h1 : (x &&& (x + 1)) / 2 = (x / 2 &&& (x + 1) / 2) := Nat.and_div_two
      have h2 : (x &&& (x + 1)) % 2 = 0 := by
        have : (x &&& (x + 1)).testBit 0 = false := by
          rw [Nat.testBit_and, Nat.testBit_zero, Nat.testBit_zero]
          rcases Nat.mod_two_eq_zero_or_one x with h | h
          · simp [h]
          · have : (x + 1) % 2 = 0 := by omega
            simp [this]
        rw [Nat.testBit_zero] at this
        have := of_decide_eq_false this
        omega
      omega
    rw [hz]
    rcases Nat.mod_two_eq_zero_or_one x with h | h
    · have e1 : (x + 1) / 2 = x / 2 := by omega
      rw [e1, Nat.and_self]
      constructor
      · intro h0; exact ⟨0, by omega⟩
      · rintro ⟨k, hk⟩
        cases k with
        | zero => omega
        | succ k => rw [Nat.pow_succ] at hk; omega
    · have e1 : (x + 1) / 2 = x / 2 + 1 := by omega
      rw [e1, ih (x / 2) (by omega)]
      constructor
      · rintro ⟨k, hk⟩; exact ⟨k + 1, by rw [Nat.pow_succ]; omega⟩
      · rintro ⟨k, hk⟩
        cases k with
        | zero => omega
        | succ k => rw [Nat.pow_succ] at hk; exact ⟨k, by omega⟩

theorem and_high (a j m : Nat) : a &&& (2 ^ j * m) = 2 ^ j * ((a / 2 ^ j) &&& m) := by
  apply Nat.eq_of_testBit_eq
  intro i
  rw [Nat.testBit_and, Nat.testBit_two_pow_mul, Nat.testBit_two_pow_mul, Nat.testBit_and]
  by_cases h : i ≥ j
  · have : (a / 2 ^ j).testBit (i - j) = a.testBit i := by rw [Nat.testBit_div_two_pow]; congr 1; omega
    rw [this]
    simp [h]
  · simp [h]
theorem and_mask (a N j : Nat) (hj : j ≤ N) (ha : a < 2 ^ N) : a &&& (2 ^ N - 2 ^ j) = 2 ^ j * (a / 2 ^ j) := by
  have e : 2 ^ N - 2 ^ j = 2 ^ j * (2 ^ (N - j) - 1) := by
    rw [Nat.mul_sub, ← Nat.pow_add, Nat.mul_one]; congr 2; omega
  rw [e, and_high, Nat.and_two_pow_sub_one_eq_mod]
  congr 1
  refine Nat.mod_eq_of_lt (Nat.div_lt_of_lt_mul ?_)
  rw [← Nat.pow_add]
  rwa [show j + (N - j) = N by omega]
theorem and_low (a j : Nat) : (2 ^ j * a) &&& (2 ^ j - 1) = 0 := by
  rw [Nat.and_two_pow_sub_one_eq_mod]
  exact Nat.mul_mod_right _ _

/-! masks: closed -/
def mk (n : Nat) : Nat := 2 ^ 32 - 2 ^ (32 - n)
theorem fin_at {p : Nat → Bool} {n : Nat} (h : (List.range n).all p = true) (k : Nat) (hk : k < n) : p k = true := List.all_eq_true.1 h k (List.mem_range.2 hk)
theorem fin_mask4 : (List.range 33).all (fun n => decide (pref_mask.f 4 (n : Nat) = some (18446744073709551615, ((2 ^ 64 - 2 ^ (32 - n) : Nat) : Int)) ∧ quad_Not.f 18446744073709551615 ((2 ^ 64 - 2 ^ (32 - n) : Nat) : Int) = some (0, ((2 ^ (32 - n) - 1 : Nat) : Int)) ∧ quad_And.f 18446744073709551615 ((2 ^ 64 - 2 ^ (32 - n) : Nat) : Int) 0 4294967295 = some (0, ((mk n : Nat) : Int)))) = true := by decide +kernel
theorem fin_ref : (List.range 33).all (fun n => decide (gleberef1_Mask.f 300 (wrap64 ((wrap64 (128 - 32)) + (n : Nat))) = some (18446744073709551615, ((2 ^ 64 - 2 ^ (32 - n) : Nat) : Int)) ∧ gleberef1_And.f 18446744073709551615 ((2 ^ 64 - 2 ^ (32 - n) : Nat) : Int) 0 4294967295 = some (0, ((mk n : Nat) : Int)) ∧ Int.tmod (Go.bits .and .i64 (n : Nat) 255) 33 = (n : Nat))) = true := by decide +kernel
theorem ref96 : gleberef1_Mask.f 300 (wrap64 (128 - 32)) = some (18446744073709551615, 18446744069414584320) ∧ gleberef1_Not.f 18446744073709551615 18446744069414584320 = some (0, 4294967295) := by decide +kernel
theorem mk_inj {i j : Nat} (hi : i ≤ 32) (hj : j ≤ 32) (h : mk i = mk j) : i = j := by
  have key : (List.range 33).all (fun i => (List.range 33).all (fun j => decide (mk i = mk j → i = j))) = true := by decide +kernel
  exact of_decide_eq_true (fin_at (fin_at key i (by omega)) j (by omega)) h
theorem mk_lt (n : Nat) : mk n < 2 ^ 32 := by
  unfold mk
  have : 0 < 2 ^ (32 - n) := Nat.pow_pos (by decide)
  omega
theorem m_lt (n : Nat) : 2 ^ 64 - 2 ^ (32 - n) < 18446744073709551616 := by
  have : 0 < 2 ^ (32 - n) := Nat.pow_pos (by decide)
  omega
def cut (a n : Nat) : Nat := 2 ^ (32 - n) * (a / 2 ^ (32 - n))
theorem cut_le (a n : Nat) : cut a n ≤ a := Nat.mul_div_le _ _

theorem and64 {a n : Nat} (hn : n ≤ 32) (ha : a < 2 ^ 32) : Go.bits .and .u64 (a : Int) ((2 ^ 64 - 2 ^ (32 - n) : Nat) : Int) = ((cut a n : Nat) : Int) := by
  rw [Go.bits_and_u64_nat _ _ (by omega) (m_lt n), and_mask a 64 (32 - n) (by omega) (by omega)]
  rfl
theorem and32 {a n : Nat} (hn : n ≤ 32) (ha : a < 2 ^ 32) : Go.bits .and .u64 (a : Int) ((mk n : Nat) : Int) = ((cut a n : Nat) : Int) := by
  rw [Go.bits_and_u64_nat _ _ (by omega) (by have := mk_lt n; omega)]
  unfold mk
  rw [and_mask a 32 (32 - n) (by omega) (by omega)]
  rfl
theorem and00 (x : Int) : Go.bits .and .u64 0 x = 0 := by
  unfold Go.bits
  simp [IntKind.wrap, IntKind.signed]

theorem ok4 (k n a : Nat) (hn : n ≤ 32) (ha : a < 2 ^ 32) : pref_Ok.f (k + 1) 4 0 ((cut a n : Nat) : Int) n = some true := by
  have hc : cut a n < 4294967296 := by have := cut_le a n; omega
  obtain ⟨h1, h2, _⟩ := of_decide_eq_true (fin_at fin_mask4 n (by omega))
  have e1 : addr_Ok.f 4 0 ((cut a n : Nat) : Int) = some true := by
    unfold addr_Ok.f
    rw [if_neg (by decide), if_pos rfl, if_pos rfl]
    have : ((cut a n : Nat) : Int) < 4294967296 := by omega
    simp [this]
  have e2 : addr_Bits.f 4 = some 32 := by decide
  have e3 : Go.bits .and .u64 ((cut a n : Nat) : Int) ((2 ^ (32 - n) - 1 : Nat) : Int) = 0 := by
    have hp : 2 ^ (32 - n) ≤ 2 ^ 32 := Nat.pow_le_pow_right (by decide) (by omega)
    rw [Go.bits_and_u64_nat _ _ (by omega) (by omega)]
    unfold cut
    rw [and_low]
    rfl
  unfold pref_Ok.f
  rw [e1, Option.bind_some, if_pos rfl, if_neg (by omega), e2, Option.bind_some]
  have e4 : decide ((n : Int) > 32) = false := decide_eq_false (by omega)
  rw [e4]
  simp only [pref_Ok.j0]
  rw [if_neg (by decide), h1, Option.bind_some, h2, Option.bind_some]
  simp only [quad_And.f, Option.bind_some]
  rw [e3, and00]
  rfl

theorem net4 (k n a : Nat) (hn : n ≤ 32) (ha : a < 2 ^ 32) : pref_Netmask.f (k + 1) 4 0 ((cut a n : Nat) : Int) n = some (4, 0, ((mk n : Nat) : Int), true) := by
  obtain ⟨h1, _, h3⟩ := of_decide_eq_true (fin_at fin_mask4 n (by omega))
  unfold pref_Netmask.f
  rw [ok4 k n a hn ha, Option.bind_some, if_pos rfl]
  have : ((4 : Int) != 4) = false := by decide
  rw [this]
  simp only [pref_Netmask.j0]
  rw [if_neg (by decide), h1, Option.bind_some, h3, Option.bind_some]

theorem bits4 : addr_Bits.f 4 = some 32 := rfl
theorem t1 (k : Nat) (x a v h W : Int) : pref_Of.l0 (k + 1) x 4 0 a v h W = (addr_Bits.f 4).bind fun t158 => (if x ≤ t158 then ((pref_mask.f 4 x).bind fun bt159 => ((quad_And.f 0 a bt159.1 bt159.2).bind fun bt161 => ((pref_Netmask.f k 4 bt161.1 bt161.2 x).bind fun bt164 => (if bt164.2.2.2 = true then (if (bt164.1 == v && ((bt164.2.1 == h && (bt164.2.2.1 == W)))) = true then (some (4, bt161.1, bt161.2, x, true)) else (pref_Of.l0 k (wrap64 (x + 1)) 4 0 a v h W)) else (pref_Of.l0 k (wrap64 (x + 1)) 4 0 a v h W))))) else (some (0, 0, 0, 0, false))) := by
  rw [pref_Of.l0]
theorem t2 (k : Nat) (x a M1 M2 c m v h W : Int) (hx : x ≤ 32) (h1 : pref_mask.f 4 x = some (M1, M2)) (h2 : quad_And.f 0 a M1 M2 = some (0, c)) (h3 : pref_Netmask.f k 4 0 c x = some (4, 0, m, true)) :
    pref_Of.l0 (k + 1) x 4 0 a v h W = if (4 == v && (0 == h && (m == W))) = true then some (4, 0, c, x, true) else pref_Of.l0 k (wrap64 (x + 1)) 4 0 a v h W := by
  rw [t1, bits4, Option.bind_some, if_pos hx, h1, Option.bind_some]
  rw [h2, Option.bind_some, h3, Option.bind_some, if_pos rfl]
theorem of_step (k j a : Nat) (hj : j ≤ 32) (ha : a < 2 ^ 32) (v h W : Int) : pref_Of.l0 (k + 2) (j : Nat) 4 0 a v h W =
    if (4 == v && (0 == h && (((mk j : Nat) : Int) == W))) = true then some (4, 0, ((cut a j : Nat) : Int), (j : Int), true) else pref_Of.l0 (k + 1) ((j + 1 : Nat) : Int) 4 0 a v h W := by
  obtain ⟨h1, _, _⟩ := of_decide_eq_true (fin_at fin_mask4 j (by omega))
  have hw : wrap64 ((j : Int) + 1) = ((j + 1 : Nat) : Int) := by unfold wrap64; omega
  have h2 : quad_And.f 0 (a : Int) 18446744073709551615 ((2 ^ 64 - 2 ^ (32 - j) : Nat) : Int) = some (0, ((cut a j : Nat) : Int)) := by
    unfold quad_And.f
    rw [and64 hj ha, and00]
  rw [← hw]
  exact t2 (k + 1) _ _ _ _ _ _ v h W (by omega) h1 h2 (net4 k j a hj ha)
theorem of_end (k a : Nat) (v h W : Int) : pref_Of.l0 (k + 1) ((33 : Nat) : Int) 4 0 a v h W = some (0, 0, 0, 0, false) := by
  rw [t1, bits4, Option.bind_some, if_neg (by decide)]
theorem of_miss (a : Nat) (ha : a < 2 ^ 32) (v h W : Int) : ∀ (d j k : Nat), j + d = 33 → d < k → (∀ i, j ≤ i → i ≤ 32 → (4 == v && (0 == h && (((mk i : Nat) : Int) == W))) = false) → pref_Of.l0 k (j : Nat) 4 0 a v h W = some (0, 0, 0, 0, false) := by
  intro d
  induction d with
  | zero =>
    intro j k hj hk _
    obtain rfl : j = 33 := by omega
    obtain ⟨k, rfl⟩ : ∃ m, k = m + 1 := ⟨k - 1, by omega⟩
    exact of_end k a v h W
  | succ d ih =>
    intro j k hj hk hm
    obtain ⟨k, rfl⟩ : ∃ m, k = m + 2 := ⟨k - 2, by omega⟩
    rw [of_step k j a (by omega) ha v h W, hm j (Nat.le_refl _) (by omega), if_neg (by decide)]
    exact ih (j + 1) (k + 1) (by omega) (by omega) (fun i h1 h2 => hm i (by omega) h2)
theorem of_hit (a n : Nat) (ha : a < 2 ^ 32) (hn : n ≤ 32) : ∀ (d j k : Nat), j + d = n → d + 2 ≤ k → pref_Of.l0 k (j : Nat) 4 0 a 4 0 ((mk n : Nat) : Int) = some (4, 0, ((cut a n : Nat) : Int), (n : Int), true) := by
  intro d
  induction d with
  | zero =>
    intro j k hj hk
    obtain rfl : j = n := by omega
    obtain ⟨k, rfl⟩ : ∃ m, k = m + 2 := ⟨k - 2, by omega⟩
    rw [of_step k j a hn ha 4 0 _, if_pos (by simp)]
  | succ d ih =>
    intro j k hj hk
    obtain ⟨k, rfl⟩ : ∃ m, k = m + 2 := ⟨k - 2, by omega⟩
    have hne : ¬ mk j = mk n := fun e => by have := mk_inj (by omega) hn e; omega
    rw [of_step k j a (by omega) ha 4 0 _, if_neg (by simp; omega)]
    exact ih (j + 1) (k + 1) (by omega) (by omega)

theorem of4 (k a : Nat) (ha : a < 2 ^ 32) (v h W : Int) : pref_Of.f (k + 1) 4 0 a v h W = pref_Of.l0 k 0 4 0 a v h W := by
  have e1 : addr_Ok.f 4 0 (a : Int) = some true := by
    unfold addr_Ok.f
    rw [if_neg (by decide), if_pos rfl, if_pos rfl]
    have : (a : Int) < 4294967296 := by omega
    simp [this]
  unfold pref_Of.f
  rw [e1, Option.bind_some, if_pos rfl]
  have : ((4 : Int) != 4) = false := by decide
  rw [this]
  simp only [pref_Of.j0]
  rw [if_neg (by decide)]

/-! the law's own parts -/
theorem ref4 : gleberef1_Bits.f 4 = some 32 := rfl
theorem w33 : wrap64 (32 + 1) = 33 := by decide +kernel
theorem pre_t {A n V a1 a2 M1 M2 K1 K2 N1 N2 c1 c2 x y t r : Int} (h0 : glebelaw2_Addr.f 300 0 A 0 = some (V, a1, a2)) (hb : gleberef1_Bits.f V = some t) (hw : wrap64 (t + 1) = r) (hr : r ≠ 0)
    (hm : gleberef1_Mask.f 300 (wrap64 ((wrap64 (128 - t)) + (Int.tmod (Go.bits .and .i64 n 255) r))) = some (M1, M2)) (hk : gleberef1_Mask.f 300 (wrap64 (128 - t)) = some (K1, K2)) (hn : gleberef1_Not.f K1 K2 = some (N1, N2))
    (ha : gleberef1_And.f M1 M2 N1 N2 = some (c1, c2)) (hx : gleberef1_And.f a1 a2 c1 c2 = some (x, y)) : f40 0 A 0 n = some (V, x, y, Int.tmod (Go.bits .and .i64 n 255) r) := by
  unfold f40
  rw [h0, Option.bind_some]
  simp only [hb, Option.bind_some, hw, if_neg hr, hm, hk, hn, ha, hx]
theorem pre4 (a n : Nat) (hn : n ≤ 32) (A : Int) (hA : Go.bits .and .u64 A 4294967295 = (a : Int)) (ha : a < 2 ^ 32) : f40 0 A 0 n = some (4, 0, ((cut a n : Nat) : Int), (n : Int)) := by
  obtain ⟨h1, h2, h3⟩ := of_decide_eq_true (fin_at fin_ref n (by omega))
  have e1 : glebelaw2_Addr.f 300 0 A 0 = some (4, 0, (a : Int)) := by
    have z1 : IntKind.u64.wrap (wrap64 ((Go.bits .and .i64 (0 / 2) 3) * 8)) = 0 := by decide +kernel
    have z : shr .u64 (a : Int) 0 = (a : Int) := by unfold shr; simp
    unfold glebelaw2_Addr.f
    rw [if_pos (by decide +kernel), z1, if_pos (by decide), hA, z]
  have e5 : gleberef1_And.f 0 (a : Int) 0 ((mk n : Nat) : Int) = some (0, ((cut a n : Nat) : Int)) := by
    unfold gleberef1_And.f
    rw [and32 hn ha, and00]
  have k := pre_t (n := (n : Int)) e1 ref4 w33 (by decide) (M1 := 18446744073709551615) (M2 := ((2 ^ 64 - 2 ^ (32 - n) : Nat) : Int)) (by rw [h3]; exact h1) ref96.1 ref96.2 h2 e5
  rw [h3] at k
  exact k

theorem has4 (a n : Nat) (hn : n ≤ 32) (ha : a < 2 ^ 32) : f42 4 0 ((cut a n : Nat) : Int) n 4 0 (a : Int) = some true := by
  obtain ⟨h1, h2, _⟩ := of_decide_eq_true (fin_at fin_mask4 n (by omega))
  have e1 : addr_Ok.f 4 0 (a : Int) = some true := by
    unfold addr_Ok.f
    rw [if_neg (by decide), if_pos rfl, if_pos rfl]
    have : (a : Int) < 4294967296 := by omega
    simp [this]
  have e2 : quad_And.f 0 (a : Int) 18446744073709551615 ((2 ^ 64 - 2 ^ (32 - n) : Nat) : Int) = some (0, ((cut a n : Nat) : Int)) := by
    unfold quad_And.f
    rw [and64 hn ha, and00]
  unfold f42
  rw [ok4 299 n a hn ha]
  simp only [Option.bind_some, if_true, e1, h1, e2]
  simp

/-! a mask with a gap -/
theorem mk_gap (B : Nat) (hB : B < 2 ^ 32) : (∃ n, n ≤ 32 ∧ B = mk n) ↔ (2 ^ 32 - 1 - B) &&& (2 ^ 32 - 1 - B + 1) = 0 := by
  rw [and_succ]
  constructor
  · rintro ⟨n, hn, rfl⟩
    refine ⟨32 - n, ?_⟩
    unfold mk
    have h1 : 2 ^ (32 - n) ≤ 2 ^ 32 := Nat.pow_le_pow_right (by decide) (by omega)
    have h2 : 0 < 2 ^ (32 - n) := Nat.pow_pos (by decide)
    omega
  · rintro ⟨k, hk⟩
    have hk32 : k ≤ 32 := by
      rcases Nat.lt_or_ge 32 k with q | q
      · have : 2 ^ 33 ≤ 2 ^ k := Nat.pow_le_pow_right (by decide) q
        omega
      · exact q
    refine ⟨32 - k, by omega, ?_⟩
    unfold mk
    rw [show 32 - (32 - k) = k by omega]
    have : 2 ^ k ≤ 2 ^ 32 := Nat.pow_le_pow_right (by decide) hk32
    omega

/-! pref.Of at what the law asks -/
theorem of_six (a n : Nat) (ha : a < 2 ^ 32) : pref_Of.f 300 4 0 (a : Int) 6 0 ((mk n : Nat) : Int) = some (0, 0, 0, 0, false) := by
  rw [of4 299 a ha]
  exact of_miss a ha 6 0 _ 33 0 299 rfl (by decide) (fun i _ _ => rfl)
theorem of_own (a n : Nat) (ha : a < 2 ^ 32) (hn : n ≤ 32) : pref_Of.f 300 4 0 (a : Int) 4 0 ((mk n : Nat) : Int) = some (4, 0, ((cut a n : Nat) : Int), (n : Int), true) := by
  rw [of4 299 a ha]
  exact of_hit a n ha hn n 0 299 (by omega) (by omega)
theorem of_none (v h W : Int) : pref_Of.f 300 6 0 0 v h W = some (0, 0, 0, 0, false) := by
  have e1 : addr_Ok.f 6 0 0 = some true := rfl
  unfold pref_Of.f
  rw [e1, Option.bind_some, if_pos rfl]
  have : ((6 : Int) != 4) = true := by decide
  rw [this]
  simp only [pref_Of.j0, if_true]
theorem of_gap (a B : Nat) (ha : a < 2 ^ 32) (hB : B < 2 ^ 32) : ∃ x y z t, pref_Of.f 300 4 0 (a : Int) 4 0 (B : Int) = some (x, y, z, t, decide ((2 ^ 32 - 1 - B) &&& (2 ^ 32 - 1 - B + 1) = 0)) := by
  by_cases h : ∃ n, n ≤ 32 ∧ B = mk n
  · have hd := decide_eq_true ((mk_gap B hB).1 h)
    obtain ⟨n, hn, rfl⟩ := h
    rw [hd]
    exact ⟨_, _, _, _, of_own a n ha hn⟩
  · have hd : decide ((2 ^ 32 - 1 - B) &&& (2 ^ 32 - 1 - B + 1) = 0) = false := decide_eq_false fun q => h ((mk_gap B hB).2 q)
    rw [hd, of4 299 a ha]
    refine ⟨_, _, _, _, of_miss a ha 4 0 _ 33 0 299 rfl (by decide) (fun i _ hi => ?_)⟩
    have : ¬ mk i = B := fun q => h ⟨i, hi, q.symm⟩
    simp
    omega

end Go.Proofs.YtfnacgojmdbjmaaDoor.Pure
