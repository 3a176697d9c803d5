/- Plain facts of addresses, prefixes and ranges, over the functions as they are told. No conditions. -/
import Derived.Test.YtfnacgojmdbjmaaGreatDoorRo24
import Derived.Lib.TrailingZeros
namespace Go.Proofs.YtfnacgojmdbjmaaGreatDoor.PRD
open Go Go.RowKit Go.Proofs.YtfnacgojmdbjmaaGreatDoorW.PrintWords Go.Proofs.YtfnacgojmdbjmaaGreatDoorW.PrintLast Go.Proofs.YtfnacgojmdbjmaaGreatDoorW.PrintMore
open Go.Det (inQ inU M64 M128 qn addN highN clampN maskN inQ_quad qn_quad)

/-! halves -/
def H (q : Nat) : Int := ((q / M64 : Nat) : Int)
def L (q : Nat) : Int := ((q % M64 : Nat) : Int)
theorem m64 : M64 = 2 ^ 64 := rfl
theorem m128 : M128 = 2 ^ 128 := rfl
theorem HL_inj {a b : Nat} (h1 : H a = H b) (h2 : L a = L b) : a = b := by
  unfold H at h1; unfold L at h2
  have e1 : a / M64 = b / M64 := by exact_mod_cast h1
  have e2 : a % M64 = b % M64 := by exact_mod_cast h2
  rw [← Nat.div_add_mod a M64, ← Nat.div_add_mod b M64, e1, e2]
theorem HL_zero (r : Nat) : (H r == 0 && L r == 0) = decide (r = 0) := by
  rw [Bool.eq_iff_iff, Bool.and_eq_true, beq_iff_eq, beq_iff_eq, decide_eq_true_eq]
  constructor
  · rintro ⟨a, b⟩; exact HL_inj (b := 0) a b
  · rintro rfl; exact ⟨rfl, rfl⟩
theorem H_lt {q : Nat} (h : q < M128) : q / M64 < 18446744073709551616 := by
  have : M128 = M64 * M64 := by decide
  rw [this] at h
  exact Nat.div_lt_of_lt_mul h
theorem L_lt (q : Nat) : q % M64 < 18446744073709551616 := Nat.mod_lt _ (by decide)
theorem and_HL {a b : Nat} (ha : a < M128) (hb : b < M128) : Go.bits .and .u64 (H a) (H b) = H (a &&& b) ∧ Go.bits .and .u64 (L a) (L b) = L (a &&& b) := by
  unfold H L
  rw [Go.bits_and_u64_nat _ _ (H_lt ha) (H_lt hb), Go.bits_and_u64_nat _ _ (L_lt a) (L_lt b), m64, ← Nat.and_div_two_pow, ← Nat.and_mod_two_pow]
  exact ⟨rfl, rfl⟩
theorem or_HL {a b : Nat} (ha : a < M128) (hb : b < M128) : Go.bits .or .u64 (H a) (H b) = H (a ||| b) ∧ Go.bits .or .u64 (L a) (L b) = L (a ||| b) := by
  unfold H L
  rw [Go.bits_or_u64_nat _ _ (H_lt ha) (H_lt hb), Go.bits_or_u64_nat _ _ (L_lt a) (L_lt b), m64, ← Nat.or_div_two_pow, ← Nat.or_mod_two_pow]
  exact ⟨rfl, rfl⟩
theorem inHL {q : Nat} (h : q < M128) : inQ (H q) (L q) = true := inQ_quad h
theorem qnHL (q : Nat) : qn (H q) (L q) = q := qn_quad q
theorem qAnd {a b : Nat} (ha : a < M128) (hb : b < M128) : quad_And.f (H a) (L a) (H b) (L b) = some (H (a &&& b), L (a &&& b)) := by
  unfold quad_And.f; rw [(and_HL ha hb).1, (and_HL ha hb).2]
theorem rAnd {a b : Nat} (ha : a < M128) (hb : b < M128) : gleberef1_And.f (H a) (L a) (H b) (L b) = some (H (a &&& b), L (a &&& b)) := by
  unfold gleberef1_And.f; rw [(and_HL ha hb).1, (and_HL ha hb).2]
theorem qOr {a b : Nat} (ha : a < M128) (hb : b < M128) : quad_Or.f (H a) (L a) (H b) (L b) = some (H (a ||| b), L (a ||| b)) := by
  unfold quad_Or.f; rw [(or_HL ha hb).1, (or_HL ha hb).2]
theorem toI {x : Nat} (h : x < 18446744073709551616) : ((x : Nat) : Int) < 18446744073709551616 := by omega
theorem xor_HL {a : Nat} (ha : a < M128) : Go.bits .xor .u64 18446744073709551615 (H a) = H (M128 - 1 - a) ∧ Go.bits .xor .u64 18446744073709551615 (L a) = L (M128 - 1 - a) := by
  have hM : M64 = 18446744073709551616 := rfl
  have hM2 : M128 = 340282366920938463463374607431768211456 := by decide
  have x1 := H_lt ha
  have l1 := L_lt a
  have i1 : Go.Det.inU (H a) = true := Go.Det.inU_iff.2 ⟨Int.natCast_nonneg _, toI x1⟩
  have i2 : Go.Det.inU (L a) = true := Go.Det.inU_iff.2 ⟨Int.natCast_nonneg _, toI l1⟩
  have n1 : Go.bits .xor .u64 18446744073709551615 (H a) = 18446744073709551615 - H a := Go.Det.notI_u64 i1
  have n2 : Go.bits .xor .u64 18446744073709551615 (L a) = 18446744073709551615 - L a := Go.Det.notI_u64 i2
  rw [n1, n2]
  unfold H L
  have h1 := Nat.div_add_mod a M64
  generalize hx : a / M64 = x at *
  generalize hz : a % M64 = z at *
  rw [hM] at h1 ⊢
  rw [hM2] at ha ⊢
  constructor <;> omega
theorem qNot {a : Nat} (ha : a < M128) : quad_Not.f (H a) (L a) = some (H (M128 - 1 - a), L (M128 - 1 - a)) := by
  unfold quad_Not.f; rw [(xor_HL ha).1, (xor_HL ha).2]
theorem rNot {a : Nat} (ha : a < M128) : gleberef1_Not.f (H a) (L a) = some (H (M128 - 1 - a), L (M128 - 1 - a)) := by
  unfold gleberef1_Not.f; rw [(xor_HL ha).1, (xor_HL ha).2]

/-! masks: closed -/
theorem fin_at {p : Nat → Bool} {n : Nat} (h : (List.range n).all p = true) (k : Nat) (hk : k < n) : p k = true := List.all_eq_true.1 h k (List.mem_range.2 hk)
theorem fin_mask : (List.range 129).all (fun n => decide (quad_Mask.f (n : Nat) = some (H (maskN n), L (maskN n)) ∧ gleberef1_Mask.f 300 (n : Nat) = some (H (maskN n), L (maskN n)) ∧ maskN n < M128 ∧ M128 - 1 - maskN n = 2 ^ (128 - n) - 1)) = true := by decide +kernel
theorem mask_at {n : Nat} (h : n ≤ 128) : quad_Mask.f (n : Nat) = some (H (maskN n), L (maskN n)) ∧ gleberef1_Mask.f 300 (n : Nat) = some (H (maskN n), L (maskN n)) ∧ maskN n < M128 ∧ M128 - 1 - maskN n = 2 ^ (128 - n) - 1 :=
  of_decide_eq_true (fin_at fin_mask n (by omega))

/-- a kind of addresses, and how many bits it has -/
def Kd' (V : Int) (B : Nat) : Prop := (V = 4 ∧ B = 32) ∨ (V = 6 ∧ B = 128)
theorem Kd'.le {V : Int} {B : Nat} (h : Kd' V B) : B ≤ 128 := by rcases h with ⟨_, rfl⟩ | ⟨_, rfl⟩ <;> decide
theorem Kd'.bits {V : Int} {B : Nat} (h : Kd' V B) : addr_Bits.f V = some (B : Int) := by rcases h with ⟨rfl, rfl⟩ | ⟨rfl, rfl⟩ <;> rfl
theorem Kd'.rbits {V : Int} {B : Nat} (h : Kd' V B) : gleberef1_Bits.f V = some (B : Int) := by rcases h with ⟨rfl, rfl⟩ | ⟨rfl, rfl⟩ <;> rfl
theorem Kd'.pow {V : Int} {B : Nat} (h : Kd' V B) {q : Nat} (hq : q < 2 ^ B) : q < M128 := by rcases h with ⟨rfl, rfl⟩ | ⟨rfl, rfl⟩ <;> (rw [m128]; omega)
theorem w64 {n : Int} (h0 : -1000 ≤ n) (h1 : n ≤ 1000) : wrap64 n = n := by unfold wrap64; omega
theorem pMask {V : Int} {B n : Nat} (h : Kd' V B) (hn : n ≤ B) : pref_mask.f V (n : Int) = some (H (maskN (128 - B + n)), L (maskN (128 - B + n))) := by
  have hB := h.le
  unfold pref_mask.f
  rw [h.bits, Option.bind_some, w64 (n := 128 - (B : Int)) (by omega) (by omega), w64 (by omega) (by omega), show (128 - (B : Int) + (n : Int)) = ((128 - B + n : Nat) : Int) by omega, (mask_at (n := 128 - B + n) (by omega)).1, Option.bind_some]
theorem okA {V : Int} {B q : Nat} (h : Kd' V B) (hq : q < 2 ^ B) : addr_Ok.f V (H q) (L q) = some true := by
  rcases h with ⟨rfl, rfl⟩ | ⟨rfl, rfl⟩
  · unfold addr_Ok.f
    have h1 : q / M64 = 0 := Nat.div_eq_of_lt (by rw [m64]; omega)
    have h2 : q % M64 = q := Nat.mod_eq_of_lt (by rw [m64]; omega)
    have e1 : H q = 0 := by unfold H; rw [h1]; rfl
    have e2 : L q = (q : Int) := by unfold L; rw [h2]
    rw [if_neg (by decide), if_pos rfl, e1, if_pos rfl, e2]
    rw [decide_eq_true (show (q : Int) < 4294967296 by omega)]
  · rfl
theorem low_and (q j : Nat) : q &&& (2 ^ j - 1) = q % 2 ^ j := Nat.and_two_pow_sub_one_eq_mod q j

theorem pOk {V : Int} {B q n : Nat} (h : Kd' V B) (hq : q < 2 ^ B) (hn : n ≤ B) : pref_Ok.f V (H q) (L q) (n : Int) = some (decide (q % 2 ^ (B - n) = 0)) := by
  have hB := h.le
  have hq' := h.pow hq
  obtain ⟨_, _, hm, hm2⟩ := mask_at (n := 128 - B + n) (by omega)
  have hlt : M128 - 1 - maskN (128 - B + n) < M128 := by have : 0 < M128 := by decide
                                                         omega
  have e1 := qNot hm
  have e2 := qAnd hq' hlt
  rw [hm2, show 128 - (128 - B + n) = B - n by omega] at e1 e2
  rw [low_and] at e2
  generalize q % 2 ^ (B - n) = r at e2 ⊢
  generalize 2 ^ (B - n) - 1 = z at e1 e2
  unfold pref_Ok.f
  rw [okA h hq, Option.bind_some, if_pos rfl, if_neg (by omega), h.bits, Option.bind_some, if_neg (by omega), pMask h hn, Option.bind_some, e1, Option.bind_some, e2, Option.bind_some, HL_zero]

theorem or_low (q j : Nat) (h : q % 2 ^ j = 0) : q ||| (2 ^ j - 1) = q + (2 ^ j - 1) := by
  obtain ⟨m, rfl⟩ := Nat.dvd_of_mod_eq_zero h
  have : 2 ^ j - 1 < 2 ^ j := by have := Nat.pow_pos (n := j) (show 0 < 2 by decide); omega
  rw [← Nat.two_pow_add_eq_or_of_lt this]
theorem and_ones (i j : Nat) (h : i ≤ j) : (2 ^ i - 1) &&& (2 ^ j - 1) = 2 ^ i - 1 := by
  rw [Nat.and_two_pow_sub_one_eq_mod]
  have h1 := Nat.pow_pos (n := i) (show 0 < 2 by decide)
  have h2 : 2 ^ i ≤ 2 ^ j := Nat.pow_le_pow_right (by decide) h
  exact Nat.mod_eq_of_lt (by omega)
/-- the last address of a block does not reach beyond -/
theorem top_lt {B q j : Nat} (hj : j ≤ B) (hq : q < 2 ^ B) (h : q % 2 ^ j = 0) : q + (2 ^ j - 1) < 2 ^ B := by
  obtain ⟨m, rfl⟩ := Nat.dvd_of_mod_eq_zero h
  have e : 2 ^ B = 2 ^ j * 2 ^ (B - j) := by rw [← Nat.pow_add]; congr 1; omega
  have hp := Nat.pow_pos (n := j) (show 0 < 2 by decide)
  rw [e] at hq ⊢
  have hm : m < 2 ^ (B - j) := Nat.lt_of_mul_lt_mul_left hq
  have : 2 ^ j * (m + 1) ≤ 2 ^ j * 2 ^ (B - j) := Nat.mul_le_mul_left _ hm
  rw [Nat.mul_add] at this
  omega

theorem pLast {V : Int} {B q n : Nat} (h : Kd' V B) (hq : q < 2 ^ B) (hn : n ≤ B) (ha : q % 2 ^ (B - n) = 0) :
    pref_Last.f V (H q) (L q) (n : Int) = some (V, H (q + (2 ^ (B - n) - 1)), L (q + (2 ^ (B - n) - 1))) := by
  have hB := h.le
  have hq' := h.pow hq
  obtain ⟨_, _, hm, hm2⟩ := mask_at (n := 128 - B + n) (by omega)
  obtain ⟨hm3, _, hm4, hm5⟩ := mask_at (n := 128 - B) (by omega)
  have hlt : M128 - 1 - maskN (128 - B + n) < M128 := by have : 0 < M128 := by decide
                                                         omega
  have hlt2 : M128 - 1 - maskN (128 - B) < M128 := by have : 0 < M128 := by decide
                                                      omega
  have e1 := qNot hm
  have e2 := qNot hm4
  have e3 := qAnd hlt hlt2
  rw [hm2, show 128 - (128 - B + n) = B - n by omega] at e1 e3
  rw [hm5, show 128 - (128 - B) = B by omega] at e2 e3
  rw [and_ones _ _ (by omega)] at e3
  have hlt3 : 2 ^ (B - n) - 1 < M128 := by rw [hm2, show 128 - (128 - B + n) = B - n by omega] at hlt; exact hlt
  have e4 := qOr hq' hlt3
  rw [or_low _ _ ha] at e4
  have e0 := pOk h hq hn
  rw [decide_eq_true ha] at e0
  have w := w64 (n := 128 - (B : Int)) (by omega) (by omega)
  have hM : quad_Mask.f (128 - (B : Int)) = some (H (maskN (128 - B)), L (maskN (128 - B))) := by
    rw [show (128 - (B : Int)) = ((128 - B : Nat) : Int) by omega]; exact hm3
  generalize 2 ^ (B - n) - 1 = z at *
  generalize 2 ^ B - 1 = y at *
  unfold pref_Last.f
  rw [e0, Option.bind_some, if_pos rfl, h.bits, Option.bind_some, w, hM, Option.bind_some, pMask h hn, Option.bind_some, e1, Option.bind_some, e2, Option.bind_some, e3, Option.bind_some, e4, Option.bind_some]

/-! order, next -/
theorem less_at (V : Int) {a b : Nat} : addr_Less.f V (H a) (L a) V (H b) (L b) = some (decide (a < b)) := by
  have h1 := Nat.div_add_mod a M64
  have h2 := Nat.div_add_mod b M64
  have l1 := L_lt a
  have l2 := L_lt b
  have hM : M64 = 18446744073709551616 := rfl
  unfold addr_Less.f quad_Less.f H L
  rw [if_neg (by omega), if_pos rfl]
  generalize a / M64 = x at *
  generalize b / M64 = y at *
  generalize a % M64 = z at *
  generalize b % M64 = w at *
  rw [hM] at h1 h2
  by_cases c1 : (x : Int) < (y : Int)
  · rw [if_pos c1, Option.bind_some, decide_eq_true (by omega)]
  · rw [if_neg c1]
    by_cases c2 : (x : Int) = (y : Int)
    · rw [if_pos c2, Option.bind_some]
      congr 1
      rw [Bool.eq_iff_iff, decide_eq_true_eq, decide_eq_true_eq]
      omega
    · rw [if_neg c2, Option.bind_some, decide_eq_false (by omega)]

theorem or_eq_some {α : Type} {f : Nat → Option α} (h : ∀ k, LeO (f k) (f (k + 1))) {k0 : Nat} {r : α} (h0 : f k0 = some r) : ∀ k, k0 ≤ k → f k = some r := by
  intro k hk
  induction hk with
  | refl => exact h0
  | step _ ih => exact h _ _ ih
theorem rMask {k n : Nat} (hk : 300 ≤ k) (h : n ≤ 128) : gleberef1_Mask.f k (n : Nat) = some (H (maskN n), L (maskN n)) :=
  or_eq_some (f := fun k => gleberef1_Mask.f k (n : Nat)) (fun k => gleberef1_Mask.mono _ k) (mask_at h).2.1 k hk

/-! next -/
theorem bit0 (k : Nat) : quad_Bit.f (k + 1) 0 = some (0, 1) := by
  unfold quad_Bit.f
  rw [if_neg (by decide)]
  rfl
theorem okHL {V : Int} {B q : Nat} (h : Kd' V B) (hq : q < M128) : addr_Ok.f V (H q) (L q) = some (decide (q < 2 ^ B)) := by
  rcases h with ⟨rfl, rfl⟩ | ⟨rfl, rfl⟩
  · have h1 := Nat.div_add_mod q M64
    have l1 := L_lt q
    have hM : M64 = 18446744073709551616 := rfl
    unfold addr_Ok.f H L
    rw [if_neg (by decide), if_pos rfl]
    generalize q / M64 = x at *
    generalize q % M64 = z at *
    rw [hM] at h1
    by_cases c : (x : Int) = 0
    · rw [if_pos c]
      have e : ((z : Int) < 4294967296) ↔ q < 2 ^ 32 := by omega
      exact congrArg some (decide_eq_decide.2 e)
    · rw [if_neg c, decide_eq_false (by omega)]
  · unfold addr_Ok.f
    rw [if_pos rfl, decide_eq_true (show q < 2 ^ 128 by rw [← m128]; exact hq)]
theorem next_at {V : Int} {B q : Nat} (h : Kd' V B) (hq : q < 2 ^ B) : addr_Next.f V (H q) (L q) = if q + 1 < 2 ^ B then some (V, H (q + 1), L (q + 1), true) else some (0, 0, 0, false) := by
  have hq' := h.pow hq
  have h1 : inQ 0 1 = true := by decide
  have h2 : qn 0 1 = 1 := by decide
  unfold addr_Next.f quad_Add.f
  rw [bit0, Option.bind_some, if_pos (by rw [inHL hq', h1]; rfl), Option.bind_some, qnHL, h2]
  by_cases c : q + 1 < M128
  · have ea : addN q 1 = q + 1 := by unfold addN; rw [if_pos c]
    rw [if_pos (decide_eq_true c), okA h hq, Option.bind_some, if_pos rfl, ea]
    have e := okHL h c
    unfold H L at e
    rw [e, Option.bind_some]
    by_cases c2 : q + 1 < 2 ^ B
    · rw [if_pos (decide_eq_true c2), if_pos c2]; rfl
    · rw [if_neg (by simpa using c2), if_neg c2]
  · rw [if_neg (by simpa using c), if_neg (fun q2 => c (h.pow q2))]

/-! the widest block -/
theorem widest_l0 {V : Int} {B q hi : Nat} (h : Kd' V B) (hq : q < 2 ^ B) (hle : q ≤ hi) : ∀ (d n k : Nat), n + d = B → d + 2 ≤ k → q % 2 ^ d = 0 →
    ∃ m, n ≤ m ∧ m ≤ B ∧ q % 2 ^ (B - m) = 0 ∧ q + (2 ^ (B - m) - 1) ≤ hi ∧ (∀ i, n ≤ i → i < m → hi < q + (2 ^ (B - i) - 1)) ∧ rang_widest.l0 k (B : Int) (n : Int) V (H q) (L q) V (H hi) (L hi) = some (V, H q, L q, (m : Int)) := by
  intro d
  induction d with
  | zero =>
    intro n k hn hk _
    obtain ⟨k, rfl⟩ : ∃ m, k = m + 1 := ⟨k - 1, by omega⟩
    obtain rfl : n = B := by omega
    refine ⟨n, Nat.le_refl _, Nat.le_refl _, by rw [Nat.sub_self]; simp [Nat.mod_one], by rw [Nat.sub_self]; simpa using hle, fun i h1 h2 => by omega, ?_⟩
    rw [rang_widest.l0, if_neg (by omega)]
  | succ d ih =>
    intro n k hn hk ha
    obtain ⟨k, rfl⟩ : ∃ m, k = m + 2 := ⟨k - 2, by omega⟩
    have hB := h.le
    have hd : B - n = d + 1 := by omega
    have e1 := pOk (n := n) h hq (by omega)
    have e2 := pLast (n := n) h hq (by omega) (by rw [hd]; exact ha)
    rw [hd] at e1 e2
    rw [decide_eq_true ha] at e1
    have e3 := less_at V (a := hi) (b := q + (2 ^ (d + 1) - 1))
    have ha' : q % 2 ^ d = 0 := by
      have : 2 ^ (d + 1) = 2 ^ d * 2 := Nat.pow_succ _ _
      rw [this] at ha
      exact Nat.mod_eq_zero_of_dvd (Nat.dvd_trans (Nat.dvd_mul_right _ _) (Nat.dvd_of_mod_eq_zero ha))
    by_cases c : hi < q + (2 ^ (d + 1) - 1)
    · obtain ⟨m, m1, m2, m3, m4, m5, m6⟩ := ih (n + 1) (k + 1) (by omega) (by omega) ha'
      refine ⟨m, by omega, m2, m3, m4, fun i h1 h2 => ?_, ?_⟩
      · by_cases hi' : i = n
        · rw [hi', hd]; exact c
        · exact m5 i (by omega) h2
      · rw [rang_widest.l0, if_pos (by omega), e1, Option.bind_some, if_pos rfl, e2, Option.bind_some, e3, Option.bind_some, if_pos (decide_eq_true c), w64 (n := (n : Int) + 1) (by omega) (by omega)]
        exact m6
    · refine ⟨n, Nat.le_refl _, by omega, by rw [hd]; exact ha, by rw [hd]; omega, fun i h1 h2 => by omega, ?_⟩
      rw [rang_widest.l0, if_pos (by omega), e1, Option.bind_some, if_pos rfl, e2, Option.bind_some, e3, Option.bind_some, if_neg (by simpa using c)]

/-- how many zeros a number ends in -/
def lw (q : Nat) : Nat := if q % M64 = 0 then 64 + Lib.ctz 64 (q / M64) else Lib.ctz 64 (q % M64)
theorem ctz_le {x : Nat} (h : x < 18446744073709551616) : Lib.ctz 64 x ≤ 64 := by
  unfold Lib.ctz
  split
  · exact Nat.le_refl _
  · obtain ⟨m, _, h2⟩ := Lib.ctzFrom_spec 64 x (by omega) h
    omega
theorem ctz_iff {x j : Nat} (h : x < 18446744073709551616) (hj : j ≤ 64) : j ≤ Lib.ctz 64 x ↔ x % 2 ^ j = 0 := by
  unfold Lib.ctz
  split
  · rename_i h0
    rw [h0, Nat.zero_mod]
    exact ⟨fun _ => rfl, fun _ => hj⟩
  · obtain ⟨m, h1, h2⟩ := Lib.ctzFrom_spec 64 x (by omega) h
    generalize Lib.ctzFrom 64 x = t at *
    constructor
    · intro hle
      rw [h1]
      exact Nat.mod_eq_zero_of_dvd (Nat.dvd_trans (Nat.pow_dvd_pow 2 hle) (Nat.dvd_mul_right _ _))
    · intro hd
      rcases Nat.lt_or_ge t j with c | c
      · exfalso
        have d1 : 2 ^ (t + 1) ∣ x := Nat.dvd_trans (Nat.pow_dvd_pow 2 c) (Nat.dvd_of_mod_eq_zero hd)
        rw [h1, Nat.pow_succ] at d1
        have d2 : 2 ∣ 2 * m + 1 := Nat.dvd_of_mul_dvd_mul_left (Nat.pow_pos (by decide)) d1
        omega
      · exact c
theorem low_le {q : Nat} (hq : q < M128) : lw q ≤ 128 := by
  have h1 := ctz_le (H_lt hq)
  have h2 := ctz_le (L_lt q)
  unfold lw
  split <;> omega
theorem low_iff {q j : Nat} (hq : q < M128) (hj : j ≤ 128) : j ≤ lw q ↔ q % 2 ^ j = 0 := by
  have h1 := Nat.div_add_mod q M64
  unfold lw
  split
  · rename_i h0
    rw [h0, Nat.add_zero] at h1
    have hH := H_lt hq
    generalize q / M64 = x at *
    rw [m64] at h1
    rcases Nat.lt_or_ge j 65 with c | c
    · have : 2 ^ j ∣ q := by rw [← h1]; exact Nat.dvd_trans (Nat.pow_dvd_pow 2 (by omega)) (Nat.dvd_mul_right _ _)
      exact ⟨fun _ => Nat.mod_eq_zero_of_dvd this, fun _ => by omega⟩
    · obtain ⟨i, rfl⟩ : ∃ i, j = 64 + i := ⟨j - 64, by omega⟩
      have e := ctz_iff (j := i) hH (by omega)
      rw [← h1, Nat.pow_add, Nat.mul_mod_mul_left]
      rw [Nat.mul_eq_zero]
      constructor
      · intro hle; exact .inr (e.1 (by omega))
      · intro hz
        rcases hz with hz | hz
        · exact absurd hz (by decide)
        · have := e.2 hz; omega
  · rename_i h0
    have hL := L_lt q
    rcases Nat.lt_or_ge j 65 with c | c
    · rw [ctz_iff hL (by omega), m64, Nat.mod_mod_of_dvd _ (Nat.pow_dvd_pow 2 (by omega))]
    · constructor
      · intro hle
        have := ctz_le hL
        omega
      · intro hz
        exfalso
        apply h0
        rw [m64]
        exact Nat.mod_eq_zero_of_dvd (Nat.dvd_trans (Nat.pow_dvd_pow 2 (by omega)) (Nat.dvd_of_mod_eq_zero hz))
theorem low_of {q j : Nat} (hq : q < M128) (h : j ≤ lw q) : q % 2 ^ j = 0 := (low_iff hq (Nat.le_trans h (low_le hq))).1 h
theorem of_low {q j : Nat} (hq : q < M128) (h : q % 2 ^ j = 0) (hj : j ≤ 128) : j ≤ lw q := (low_iff hq hj).2 h
theorem low_at {q : Nat} (h : q < M128) : quad_Low.f (H q) (L q) = some ((lw q : Nat) : Int) := by
  have h1 := H_lt h
  have l1 := L_lt q
  unfold quad_Low.f lw bits_TrailingZeros64.f
  have t1 : (H q).toNat = q / M64 := by unfold H; exact Int.toNat_natCast _
  have t2 : (L q).toNat = q % M64 := by unfold L; exact Int.toNat_natCast _
  have c1 : 0 ≤ H q ∧ H q < 18446744073709551616 := ⟨Int.natCast_nonneg _, toI h1⟩
  have c2 : 0 ≤ L q ∧ L q < 18446744073709551616 := ⟨Int.natCast_nonneg _, toI l1⟩
  rw [if_pos c1, if_pos c2, t1, t2]
  have hc := ctz_le h1
  by_cases c : q % M64 = 0
  · have e : L q = 0 := by unfold L; rw [c]; rfl
    rw [if_pos e, if_pos c, Option.bind_some, w64 (by omega) (by omega)]
    exact congrArg some (by omega)
  · have e : ¬ L q = 0 := by unfold L; exact_mod_cast c
    rw [if_neg e, if_neg c, Option.bind_some]

/-- the widest block that begins there and is in the range: as wide as it can be -/
theorem widest_at {V : Int} {B q hi : Nat} (h : Kd' V B) (hq : q < 2 ^ B) (hle : q ≤ hi) {k : Nat} (hk : B + 2 ≤ k) :
    ∃ m, m ≤ B ∧ q % 2 ^ (B - m) = 0 ∧ q + (2 ^ (B - m) - 1) ≤ hi ∧ (∀ i, i < m → q % 2 ^ (B - i) = 0 → hi < q + (2 ^ (B - i) - 1)) ∧ rang_widest.f k V (H q) (L q) V (H hi) (L hi) = some (V, H q, L q, (m : Int)) := by
  have hB := h.le
  have hl := low_le (h.pow hq)
  have hmin : mn ((lw q : Nat) : Int) (B : Int) = ((min (lw q) B : Nat) : Int) := by unfold mn; split <;> omega
  obtain ⟨m, m1, m2, m3, m4, m5, m6⟩ := widest_l0 h hq hle (min (lw q) B) (B - min (lw q) B) k (by omega) (by omega) (low_of (h.pow hq) (by omega))
  refine ⟨m, m2, m3, m4, fun i hi' ha => ?_, ?_⟩
  · have := of_low (h.pow hq) ha (by omega)
    exact m5 i (by omega) hi'
  · unfold rang_widest.f
    rw [h.bits, Option.bind_some, low_at (h.pow hq), Option.bind_some, hmin, w64 (by omega) (by omega), show (B : Int) - ((min (lw q) B : Nat) : Int) = ((B - min (lw q) B : Nat) : Int) by omega]
    exact m6

/-! the prefixes of a range, one behind the other -/
def mkP (V : Int) (q n : Nat) : S30 := ⟨⟨V, ⟨H q, L q⟩⟩, (n : Int)⟩
inductive Chain (V : Int) (B hi : Nat) : Nat → List S30 → Prop
  | last (q n : Nat) : n ≤ B → q % 2 ^ (B - n) = 0 → q + (2 ^ (B - n) - 1) = hi → Chain V B hi q [mkP V q n]
  | step (q n : Nat) (t : List S30) : n ≤ B → q % 2 ^ (B - n) = 0 → q + (2 ^ (B - n) - 1) < hi → Chain V B hi (q + 2 ^ (B - n)) t → Chain V B hi q (mkP V q n :: t)

theorem cover_l0 {V : Int} {B hi : Nat} (h : Kd' V B) (hhi : hi < 2 ^ B) (a b c : Int) : ∀ (d q k : Nat) (out : List S30), hi - q ≤ d → q ≤ hi → d + B + 4 ≤ k → out.length + d + 1 < 4398046511104 →
    ∃ t, Chain V B hi q t ∧ rang_Cover.l0 k out a b c V (H hi) (L hi) V (H q) (L q) = some (out ++ t) := by
  intro d
  induction d using Nat.strongRecOn with
  | _ d ih =>
    intro q k out hd hle hk hlen
    obtain ⟨k, rfl⟩ : ∃ m, k = m + 2 := ⟨k - 2, by omega⟩
    have hq : q < 2 ^ B := Nat.lt_of_le_of_lt hle hhi
    obtain ⟨m, m1, m2, m3, _, m5⟩ := widest_at h hq hle (k := k + 1) (by omega)
    have e2 := pLast h hq m1 m2
    have hj := Nat.pow_pos (n := B - m) (show 0 < 2 by decide)
    have htop := top_lt (B := B) (j := B - m) (by omega) hq m2
    have e3 := next_at h htop
    have heq : q + (2 ^ (B - m) - 1) + 1 = q + 2 ^ (B - m) := by omega
    rw [heq] at e3
    have e4 := less_at V (a := hi) (b := q + 2 ^ (B - m))
    rw [rang_Cover.l0, m5, Option.bind_some, if_pos (by omega), Option.bind_some]
    simp only
    rw [e2, Option.bind_some]
    simp only
    rw [e3]
    by_cases c1 : q + (2 ^ (B - m) - 1) = hi
    · refine ⟨[mkP V q m], .last q m m1 m2 c1, ?_⟩
      by_cases c2 : q + 2 ^ (B - m) < 2 ^ B
      · rw [if_pos c2, Option.bind_some, if_pos rfl]
        simp only
        rw [e4, Option.bind_some, if_pos (decide_eq_true (by omega))]
        rfl
      · rw [if_neg c2, Option.bind_some, if_neg (by decide)]
        rfl
    · have c2 : q + 2 ^ (B - m) ≤ hi := by omega
      obtain ⟨t, t1, t2⟩ := ih (d - 1) (by omega) (q + 2 ^ (B - m)) (k + 1) (out ++ [mkP V q m]) (by omega) c2 (by omega) (by rw [List.length_append]; simp; omega)
      refine ⟨mkP V q m :: t, .step q m t m1 m2 (by omega) t1, ?_⟩
      rw [if_pos (Nat.lt_of_le_of_lt c2 hhi), Option.bind_some, if_pos rfl]
      simp only
      rw [e4, Option.bind_some, if_neg (by simpa using c2)]
      rw [List.append_assoc] at t2
      exact t2

theorem rangOk_at {V : Int} {B q hi : Nat} (h : Kd' V B) (hhi : hi < 2 ^ B) (hle : q ≤ hi) : rang_Ok.f V (H q) (L q) V (H hi) (L hi) = some true := by
  unfold rang_Ok.f
  rw [okA h (Nat.lt_of_le_of_lt hle hhi), Option.bind_some, if_pos rfl, okA h hhi, Option.bind_some, if_pos rfl, if_pos rfl, less_at, Option.bind_some, decide_eq_false (by omega)]
  rfl
theorem cover_at {V : Int} {B q hi k : Nat} (h : Kd' V B) (hhi : hi < 2 ^ B) (hle : q ≤ hi) (hw : hi - q < 4096) (hk : 5000 ≤ k) :
    ∃ t, Chain V B hi q t ∧ rang_Cover.f k V (H q) (L q) V (H hi) (L hi) = some t := by
  have hB := h.le
  obtain ⟨t, t1, t2⟩ := cover_l0 h hhi V (H q) (L q) (hi - q) q k [] (Nat.le_refl _) hle (by omega) (by simp; omega)
  refine ⟨t, t1, ?_⟩
  unfold rang_Cover.f
  rw [rangOk_at h hhi hle, Option.bind_some, if_pos rfl]
  exact t2
theorem cover_own {V : Int} {B q n k : Nat} (h : Kd' V B) (hq : q < 2 ^ B) (hn : n ≤ B) (ha : q % 2 ^ (B - n) = 0) (hk : 200 ≤ k) :
    rang_Cover.f k V (H q) (L q) V (H (q + (2 ^ (B - n) - 1))) (L (q + (2 ^ (B - n) - 1))) = some [mkP V q n] := by
  have hB := h.le
  have hhi := top_lt (B := B) (j := B - n) (by omega) hq ha
  obtain ⟨k, rfl⟩ : ∃ m, k = m + 2 := ⟨k - 2, by omega⟩
  obtain ⟨m, m1, m2, m3, m4, m5⟩ := widest_at h hq (Nat.le_add_right q (2 ^ (B - n) - 1)) (k := k + 1) (by omega)
  have hmn : m = n := by
    rcases Nat.lt_trichotomy m n with c | c | c
    · exfalso
      have : 2 ^ (B - n) < 2 ^ (B - m) := Nat.pow_lt_pow_right (by decide) (by omega)
      have := Nat.pow_pos (n := B - n) (show 0 < 2 by decide)
      omega
    · exact c
    · exfalso
      have := m4 n c ha
      omega
  subst hmn
  have e2 := pLast h hq m1 m2
  have hj := Nat.pow_pos (n := B - m) (show 0 < 2 by decide)
  have e3 := next_at h hhi
  have heq : q + (2 ^ (B - m) - 1) + 1 = q + 2 ^ (B - m) := by omega
  rw [heq] at e3
  have e4 := less_at V (a := q + (2 ^ (B - m) - 1)) (b := q + 2 ^ (B - m))
  unfold rang_Cover.f
  rw [rangOk_at h hhi (Nat.le_add_right _ _), Option.bind_some, if_pos rfl, rang_Cover.l0, m5, Option.bind_some, if_pos (by simp), Option.bind_some]
  simp only
  rw [e2, Option.bind_some]
  simp only
  rw [e3]
  by_cases c2 : q + 2 ^ (B - m) < 2 ^ B
  · rw [if_pos c2, Option.bind_some, if_pos rfl]
    simp only
    rw [e4, Option.bind_some, if_pos (decide_eq_true (by omega))]
    rfl
  · rw [if_neg c2, Option.bind_some, if_neg (by decide)]
    rfl

/-! how many addresses they have -/
def tot (B : Nat) : List S30 → Nat
  | [] => 0
  | p :: t => 2 ^ (B - p.f1.toNat) + tot B t
theorem tot_append (B : Nat) (a b : List S30) : tot B (a ++ b) = tot B a + tot B b := by
  induction a with
  | nil => simp [tot]
  | cons x t ih => simp only [List.cons_append, tot, ih]; omega
theorem chain_tot {V : Int} {B hi q : Nat} {t : List S30} (h : Chain V B hi q t) : q ≤ hi ∧ tot B t = hi - q + 1 := by
  induction h with
  | last q n h1 h2 h3 =>
    have := Nat.pow_pos (n := B - n) (show 0 < 2 by decide)
    simp only [tot, mkP, Int.toNat_natCast]
    omega
  | step q n t h1 h2 h3 _ ih =>
    have := Nat.pow_pos (n := B - n) (show 0 < 2 by decide)
    simp only [tot, mkP, Int.toNat_natCast]
    omega
theorem chain_mem {V : Int} {B hi q : Nat} {t : List S30} (h : Chain V B hi q t) : ∀ p ∈ t, ∃ n : Nat, p.f1 = (n : Int) ∧ n ≤ B := by
  induction h with
  | last q n h1 _ _ => intro p hp; rw [List.mem_singleton.1 hp]; exact ⟨n, rfl, h1⟩
  | step q n t h1 _ _ _ ih =>
    intro p hp
    rcases List.mem_cons.1 hp with rfl | hp
    · exact ⟨n, rfl, h1⟩
    · exact ih p hp
theorem len_tot (B : Nat) : ∀ t : List S30, t.length ≤ tot B t
  | [] => Nat.le_refl _
  | p :: t => by
    have := len_tot B t
    have := Nat.pow_pos (n := B - p.f1.toNat) (show 0 < 2 by decide)
    simp only [List.length_cons, tot]
    omega

theorem shl_at {j : Nat} (h : 2 ^ j ≤ 4096) : shl .i64 1 (j : Int) = ((2 ^ j : Nat) : Int) := by
  have hj : j ≤ 12 := by
    rcases Nat.lt_or_ge 12 j with c | c
    · have : 2 ^ 13 ≤ 2 ^ j := Nat.pow_le_pow_right (by decide) c
      omega
    · exact c
  have key : (List.range 13).all (fun j => decide (shl .i64 1 (j : Nat) = ((2 ^ j : Nat) : Int))) = true := by decide +kernel
  exact of_decide_eq_true (fin_at key j (by omega))

/-! the reference's own prefixes -/
theorem fin_all : [32, 128].all (fun B => (List.range (B + 1)).all (fun j => decide (maskN (128 - j) &&& (M128 - 1 - maskN (128 - B)) = 2 ^ B - 2 ^ j ∧ (M128 - 1 - (2 ^ B - 2 ^ j)) &&& (M128 - 1 - maskN (128 - B)) = 2 ^ j - 1 ∧ 2 ^ B - 2 ^ j < M128 ∧ M128 - 1 - (2 ^ B - 2 ^ j) < M128 ∧ M128 - 1 - maskN (128 - B) < M128 ∧ 2 ^ j - 1 < M128))) = true := by decide +kernel
theorem all_fin {V : Int} {B j : Nat} (h : Kd' V B) (hj : j ≤ B) : maskN (128 - j) &&& (M128 - 1 - maskN (128 - B)) = 2 ^ B - 2 ^ j ∧ (M128 - 1 - (2 ^ B - 2 ^ j)) &&& (M128 - 1 - maskN (128 - B)) = 2 ^ j - 1 ∧ 2 ^ B - 2 ^ j < M128 ∧ M128 - 1 - (2 ^ B - 2 ^ j) < M128 ∧ M128 - 1 - maskN (128 - B) < M128 ∧ 2 ^ j - 1 < M128 := by
  have hB : B ∈ [32, 128] := by rcases h with ⟨_, rfl⟩ | ⟨_, rfl⟩ <;> simp
  exact of_decide_eq_true (fin_at (List.all_eq_true.1 fin_all B hB) j (by omega))
theorem and_high (a j m : Nat) : a &&& (2 ^ j * m) = 2 ^ j * ((a / 2 ^ j) &&& m) := by
  apply Nat.eq_of_testBit_eq
  intro i
  rw [Nat.testBit_and, Nat.testBit_two_pow_mul, Nat.testBit_two_pow_mul, Nat.testBit_and]
  by_cases h : i ≥ j
  · have : (a / 2 ^ j).testBit (i - j) = a.testBit i := by rw [Nat.testBit_div_two_pow]; congr 1; omega
    rw [this]
    simp [h]
  · simp [h]
theorem and_mask (a N j : Nat) (hj : j ≤ N) (ha : a < 2 ^ N) : a &&& (2 ^ N - 2 ^ j) = 2 ^ j * (a / 2 ^ j) := by
  have e : 2 ^ N - 2 ^ j = 2 ^ j * (2 ^ (N - j) - 1) := by
    rw [Nat.mul_sub, ← Nat.pow_add, Nat.mul_one]; congr 2; omega
  rw [e, and_high, Nat.and_two_pow_sub_one_eq_mod]
  congr 1
  refine Nat.mod_eq_of_lt (Nat.div_lt_of_lt_mul ?_)
  rw [← Nat.pow_add]
  rwa [show j + (N - j) = N by omega]
theorem rMaskB {V : Int} {B n k : Nat} (h : Kd' V B) (hn : n ≤ B) (hk : 300 ≤ k) : gleberef1_Mask.f k (wrap64 (wrap64 (128 - (B : Int)) + (n : Int))) = some (H (maskN (128 - (B - n))), L (maskN (128 - (B - n)))) := by
  have hB := h.le
  rw [w64 (n := 128 - (B : Int)) (by omega) (by omega), w64 (by omega) (by omega), show (128 - (B : Int) + (n : Int)) = ((128 - (B - n) : Nat) : Int) by omega]
  exact rMask hk (by omega)
theorem rMask0 {V : Int} {B k : Nat} (h : Kd' V B) (hk : 300 ≤ k) : gleberef1_Mask.f k (wrap64 (128 - (B : Int))) = some (H (maskN (128 - B)), L (maskN (128 - B))) := by
  have hB := h.le
  rw [w64 (n := 128 - (B : Int)) (by omega) (by omega), show (128 - (B : Int)) = ((128 - B : Nat) : Int) by omega]
  exact rMask hk (by omega)
theorem mask_lt {n : Nat} (h : n ≤ 128) : maskN n < M128 := (mask_at h).2.2.1
theorem rAll {V : Int} {B n : Nat} (h : Kd' V B) (hn : n ≤ B) : gleberef1_all.f V (n : Int) = some (H (2 ^ B - 2 ^ (B - n)), L (2 ^ B - 2 ^ (B - n))) := by
  have hB := h.le
  obtain ⟨f1, _, _, _, f5, _⟩ := all_fin h (j := B - n) (by omega)
  have e2 := rAnd (mask_lt (n := 128 - (B - n)) (by omega)) f5
  rw [f1] at e2
  unfold gleberef1_all.f
  rw [h.rbits, Option.bind_some, rMaskB h hn (Nat.le_refl 300), Option.bind_some, Option.bind_some, rMask0 h (Nat.le_refl 300), Option.bind_some, rNot (mask_lt (by omega)), Option.bind_some, e2, Option.bind_some]
theorem rOk_eq (V a b : Int) : gleberef1_Ok.f V a b = addr_Ok.f V a b := rfl
theorem HL_beq (a b : Nat) : (H a == H b && L a == L b) = decide (a = b) := by
  rw [Bool.eq_iff_iff, Bool.and_eq_true, beq_iff_eq, beq_iff_eq, decide_eq_true_eq]
  constructor
  · rintro ⟨x, y⟩; exact HL_inj x y
  · rintro rfl; exact ⟨rfl, rfl⟩
theorem rOkP {V : Int} {B q n : Nat} (h : Kd' V B) (hq : q < 2 ^ B) (hn : n ≤ B) (ha : q % 2 ^ (B - n) = 0) : gleberef1_OkPrefix.f V (H q) (L q) (n : Int) = some true := by
  obtain ⟨_, _, f3, _, _, _⟩ := all_fin h (j := B - n) (by omega)
  have e2 := rAnd (h.pow hq) f3
  rw [and_mask q B (B - n) (by omega) hq, Nat.mul_div_cancel' (Nat.dvd_of_mod_eq_zero ha)] at e2
  have e1 := rAll h hn
  generalize 2 ^ B - 2 ^ (B - n) = c at *
  unfold gleberef1_OkPrefix.f
  rw [rOk_eq, okA h hq, Option.bind_some, if_pos rfl, if_pos (by omega), h.rbits, Option.bind_some, if_pos (by omega), e1, Option.bind_some, e2, Option.bind_some, HL_beq, decide_eq_true rfl]
theorem rLast {V : Int} {B q n : Nat} (h : Kd' V B) (hq : q < 2 ^ B) (hn : n ≤ B) (ha : q % 2 ^ (B - n) = 0) :
    gleberef1_Last.f V (H q) (L q) (n : Int) = some (V, H (q + (2 ^ (B - n) - 1)), L (q + (2 ^ (B - n) - 1))) := by
  have hB := h.le
  obtain ⟨_, f2, f3, f4, f5, f6⟩ := all_fin h (j := B - n) (by omega)
  have e1 := rAll h hn
  have e2 := rNot f3
  have e3 := rAnd f4 f5
  rw [f2] at e3
  have e4 := or_HL (h.pow hq) f6
  rw [or_low _ _ ha] at e4
  have e5 := rNot (mask_lt (n := 128 - B) (by omega))
  have e0 := rOkP h hq hn ha
  generalize 2 ^ (B - n) - 1 = z at *
  generalize 2 ^ B - 2 ^ (B - n) = c at *
  unfold gleberef1_Last.f
  rw [e0, Option.bind_some, if_pos rfl, e1, Option.bind_some, e2, Option.bind_some, h.rbits, Option.bind_some, rMask0 h (Nat.le_refl 300), Option.bind_some, e5, Option.bind_some, e3, Option.bind_some]
  simp only
  rw [e4.1, e4.2]

/-! addresses, prefixes and sums of numbers -/
theorem wrapu_pos (x : Int) : 0 ≤ IntKind.u64.wrap x := (wrap_within .u64 x).1
theorem addr_l0 (v : Int) : ∀ (d k : Nat) (h l : Int), d ≤ 8 → d < k → 0 ≤ h → h < 18446744073709551616 → 0 ≤ l → l < 18446744073709551616 →
    ∃ h' l', glebelaw2_Addr.l0 k v (8 - (d : Int)) h l = some (6, h', l') ∧ 0 ≤ h' ∧ h' < 18446744073709551616 ∧ 0 ≤ l' ∧ l' < 18446744073709551616 := by
  intro d
  induction d with
  | zero =>
    intro k h l _ hk h1 h2 h3 h4
    obtain ⟨k, rfl⟩ : ∃ m, k = m + 1 := ⟨k - 1, by omega⟩
    refine ⟨h, l, ?_, h1, h2, h3, h4⟩
    rw [glebelaw2_Addr.l0, if_neg (by omega)]
  | succ d ih =>
    intro k h l hd hk h1 h2 h3 h4
    obtain ⟨k, rfl⟩ : ∃ m, k = m + 1 := ⟨k - 1, by omega⟩
    have hx : ((8 : Int) - ((d + 1 : Nat) : Int)) < 8 := by omega
    have hw : wrap64 ((8 : Int) - ((d + 1 : Nat) : Int) + 1) = 8 - (d : Int) := by unfold wrap64; omega
    have b0 : ∀ op (x y : Int), 0 ≤ Go.bits op .u64 x y := fun op x y => bits_lo_u64 op x y
    have b1 : ∀ op (x y : Int), Go.bits op .u64 x y < 18446744073709551616 := fun op x y => by have := bits_hi_u64 op x y; omega
    rw [glebelaw2_Addr.l0, if_pos hx, if_pos (wrapu_pos _)]
    split
    · split
      · rw [if_pos (wrapu_pos _), hw]
        exact ih k _ l (by omega) (by omega) (b0 _ _ _) (b1 _ _ _) h3 h4
      · rw [if_pos (wrapu_pos _), hw]
        exact ih k h _ (by omega) (by omega) h1 h2 (b0 _ _ _) (b1 _ _ _)
    · rw [hw]
      exact ih k h l (by omega) (by omega) h1 h2 h3 h4
theorem and32_le (a : Int) (h0 : 0 ≤ a) (h1 : a < 18446744073709551616) : 0 ≤ Go.bits .and .u64 a 4294967295 ∧ Go.bits .and .u64 a 4294967295 ≤ 4294967295 := by
  obtain ⟨A, rfl⟩ := Int.eq_ofNat_of_zero_le h0
  rw [show (4294967295 : Int) = ((4294967295 : Nat) : Int) from rfl, Go.bits_and_u64_nat A 4294967295 (by omega) (by decide)]
  have : A &&& 4294967295 ≤ 4294967295 := Nat.and_le_right
  omega
theorem HL_of {h l : Int} (h0 : 0 ≤ h) (h1 : h < 18446744073709551616) (l0 : 0 ≤ l) (l1 : l < 18446744073709551616) : ∃ q, q < 2 ^ 128 ∧ H q = h ∧ L q = l := by
  obtain ⟨x, rfl⟩ := Int.eq_ofNat_of_zero_le h0
  obtain ⟨z, rfl⟩ := Int.eq_ofNat_of_zero_le l0
  have hM : M64 = 18446744073709551616 := rfl
  have d1 : (x * 18446744073709551616 + z) / 18446744073709551616 = x := by omega
  have d2 : (x * 18446744073709551616 + z) % 18446744073709551616 = z := by omega
  refine ⟨x * 18446744073709551616 + z, by omega, ?_, ?_⟩
  · unfold H; rw [hM, d1]
  · unfold L; rw [hM, d2]
theorem addr_at {k : Nat} (hk : 9 ≤ k) (v a b : Int) (ha : 0 ≤ a) (ha2 : a < 18446744073709551616) (hb : 0 ≤ b) (hb2 : b < 18446744073709551616) : ∃ V B q, Kd' V B ∧ q < 2 ^ B ∧ glebelaw2_Addr.f k v a b = some (V, H q, L q) := by
  unfold glebelaw2_Addr.f
  split
  · rw [if_pos (wrapu_pos _)]
    obtain ⟨h0, h1⟩ := and32_le a ha ha2
    have hr : 0 ≤ shr .u64 (Go.bits .and .u64 a 4294967295) (IntKind.u64.wrap (wrap64 (Go.bits .and .i64 (v / 2) 3 * 8))) ∧ shr .u64 (Go.bits .and .u64 a 4294967295) (IntKind.u64.wrap (wrap64 (Go.bits .and .i64 (v / 2) 3 * 8))) ≤ 4294967295 := by
      unfold shr
      have hp : (0 : Int) < 2 ^ min (IntKind.u64.wrap (wrap64 (Go.bits .and .i64 (v / 2) 3 * 8))).toNat IntKind.u64.bits := Int.pow_pos (by decide)
      refine ⟨Int.ediv_nonneg h0 (by omega), ?_⟩
      have := Int.ediv_le_self (2 ^ min (IntKind.u64.wrap (wrap64 (Go.bits .and .i64 (v / 2) 3 * 8))).toNat IntKind.u64.bits) h0
      omega
    obtain ⟨Q, hQ⟩ := Int.eq_ofNat_of_zero_le hr.1
    rw [hQ] at hr ⊢
    have d1 : Q / M64 = 0 := Nat.div_eq_of_lt (by rw [m64]; omega)
    have d2 : Q % M64 = Q := Nat.mod_eq_of_lt (by rw [m64]; omega)
    refine ⟨4, 32, Q, .inl ⟨rfl, rfl⟩, by omega, ?_⟩
    unfold H L
    rw [d1, d2]
    rfl
  · obtain ⟨h', l', e, q0, q1, q2, q3⟩ := addr_l0 v 8 k a b (by omega) (by omega) ha ha2 hb hb2
    obtain ⟨Q, hQ, e1, e2⟩ := HL_of q0 q1 q2 q3
    refine ⟨6, 128, Q, .inr ⟨rfl, rfl⟩, hQ, ?_⟩
    rw [e1, e2]
    exact e

theorem tmod_at (x : Int) {B : Nat} (hB : B ≤ 128) : ∃ n : Nat, n ≤ B ∧ Int.tmod (Go.bits .and .i64 x 255) ((B : Int) + 1) = (n : Int) := by
  have h : 0 ≤ Go.bits .and .i64 x 255 ∧ Go.bits .and .i64 x 255 ≤ 255 := by
    show 0 ≤ IntKind.i64.wrap ((BitVec.ofInt 64 x &&& BitVec.ofInt 64 255).toNat : Int) ∧ IntKind.i64.wrap ((BitVec.ofInt 64 x &&& BitVec.ofInt 64 255).toNat : Int) ≤ 255
    have h : (BitVec.ofInt 64 x &&& BitVec.ofInt 64 255).toNat ≤ 255 := by
      rw [BitVec.toNat_and]
      exact Nat.le_trans Nat.and_le_right (by decide)
    rw [IntKind.wrap_i64]
    omega
  rw [Int.tmod_eq_emod_of_nonneg h.1]
  have h1 := Int.emod_nonneg (Go.bits .and .i64 x 255) (show (B : Int) + 1 ≠ 0 by omega)
  have h2 := Int.emod_lt_of_pos (Go.bits .and .i64 x 255) (show 0 < (B : Int) + 1 by omega)
  exact ⟨(Go.bits .and .i64 x 255 % ((B : Int) + 1)).toNat, by omega, by omega⟩
theorem pre_t {v a b n V h l t r M1 M2 K1 K2 N1 N2 c1 c2 x y : Int} (h0 : glebelaw2_Addr.f 300 v a b = some (V, h, l)) (hb : gleberef1_Bits.f V = some t) (hw : wrap64 (t + 1) = r) (hr : r ≠ 0) {m : Int} (hm0 : Int.tmod (Go.bits .and .i64 n 255) r = m)
    (hm : gleberef1_Mask.f 300 (wrap64 (wrap64 (128 - t) + m)) = some (M1, M2)) (hk : gleberef1_Mask.f 300 (wrap64 (128 - t)) = some (K1, K2)) (hn : gleberef1_Not.f K1 K2 = some (N1, N2))
    (ha : gleberef1_And.f M1 M2 N1 N2 = some (c1, c2)) (hx : gleberef1_And.f h l c1 c2 = some (x, y)) : glebelaw3_Pre.f v a b n = some (V, x, y, m) := by
  unfold glebelaw3_Pre.f
  rw [h0, Option.bind_some]
  simp only [hb, Option.bind_some, hw, if_neg hr, hm0, hm, hk, hn, ha, hx]
theorem and_all {V : Int} {B m : Nat} (h : Kd' V B) : gleberef1_And.f (H (maskN (128 - (B - m)))) (L (maskN (128 - (B - m)))) (H (M128 - 1 - maskN (128 - B))) (L (M128 - 1 - maskN (128 - B))) = some (H (2 ^ B - 2 ^ (B - m)), L (2 ^ B - 2 ^ (B - m))) := by
  have hB := h.le
  obtain ⟨f1, _, f3, _, f5, _⟩ := all_fin h (j := B - m) (by omega)
  have e2 := rAnd (mask_lt (n := 128 - (B - m)) (by omega)) f5
  rw [f1] at e2
  exact e2
theorem and_cut {V : Int} {B q m : Nat} (h : Kd' V B) (hq : q < 2 ^ B) : gleberef1_And.f (H q) (L q) (H (2 ^ B - 2 ^ (B - m))) (L (2 ^ B - 2 ^ (B - m))) = some (H (2 ^ (B - m) * (q / 2 ^ (B - m))), L (2 ^ (B - m) * (q / 2 ^ (B - m)))) := by
  obtain ⟨_, _, f3, _, _, _⟩ := all_fin h (j := B - m) (by omega)
  have e3 := rAnd (h.pow hq) f3
  rw [and_mask q B (B - m) (by omega) hq] at e3
  exact e3
theorem pre_u {V : Int} {B q m : Nat} (h : Kd' V B) (hq : q < 2 ^ B) (hm : m ≤ B) : ∃ u u2 u3 y c : Nat, (∀ k, 300 ≤ k → gleberef1_Mask.f k (wrap64 (wrap64 (128 - (B : Int)) + (m : Int))) = some (H u, L u)) ∧ (∀ k, 300 ≤ k → gleberef1_Mask.f k (wrap64 (128 - (B : Int))) = some (H u2, L u2)) ∧
    gleberef1_Not.f (H u2) (L u2) = some (H u3, L u3) ∧ gleberef1_And.f (H u) (L u) (H u3) (L u3) = some (H y, L y) ∧ gleberef1_And.f (H q) (L q) (H y) (L y) = some (H c, L c) ∧ c ≤ q ∧ c % 2 ^ (B - m) = 0 :=
  ⟨maskN (128 - (B - m)), maskN (128 - B), M128 - 1 - maskN (128 - B), 2 ^ B - 2 ^ (B - m), 2 ^ (B - m) * (q / 2 ^ (B - m)), fun _ hk => rMaskB h hm hk, fun _ hk => rMask0 h hk, rNot (mask_lt (by omega)), and_all h, and_cut h hq, Nat.mul_div_le _ _, Nat.mul_mod_right _ _⟩
theorem pre_at (v a b n : Int) (ha : 0 ≤ a) (ha2 : a < 18446744073709551616) (hb : 0 ≤ b) (hb2 : b < 18446744073709551616) :
    ∃ V B q m, Kd' V B ∧ q < 2 ^ B ∧ m ≤ B ∧ q % 2 ^ (B - m) = 0 ∧ glebelaw3_Pre.f v a b n = some (V, H q, L q, ((m : Nat) : Int)) := by
  obtain ⟨V, B, q, h, hq, e1⟩ := addr_at (k := 300) (by omega) v a b ha ha2 hb hb2
  have hB := h.le
  have hne : (B : Int) + 1 ≠ 0 := by clear e1; omega
  have w1 : wrap64 ((B : Int) + 1) = (B : Int) + 1 := by clear e1; exact w64 (by omega) (by omega)
  obtain ⟨m, hm, em⟩ := tmod_at n hB
  obtain ⟨u, u2, u3, y, c, e4, e5, e6, e2, e3, hcut, hmod⟩ := pre_u h hq hm
  exact ⟨V, B, c, m, h, Nat.lt_of_le_of_lt hcut hq, hm, hmod, pre_t e1 h.rbits w1 hne em (e4 300 (Nat.le_refl _)) (e5 300 (Nat.le_refl _)) e6 e2 e3⟩

theorem add_at {q n : Nat} (hq : q < M128) (hn : n < 4096) : gleberef1_Add.f (H q) (L q) 0 (n : Int) = if q + n < M128 then some (H (q + n), L (q + n), true) else some (0, 0, false) := by
  have h1 := Nat.div_add_mod q M64
  have l1 := L_lt q
  have x1 := H_lt hq
  have h2 := Nat.div_add_mod (q + n) M64
  have l2 := L_lt (q + n)
  have hM : M64 = 18446744073709551616 := rfl
  have hM2 : M128 = 340282366920938463463374607431768211456 := by decide
  unfold gleberef1_Add.f H L
  generalize q / M64 = x at *
  generalize q % M64 = z at *
  generalize (q + n) / M64 = x' at *
  generalize (q + n) % M64 = z' at *
  rw [hM] at h1 h2
  rw [hM2]
  simp only [IntKind.wrap_u64]
  by_cases c : z + n < 18446744073709551616
  · rw [if_neg (by omega), if_neg (by omega), if_neg (by omega), if_pos (by omega)]
    simp only [Option.some.injEq, Prod.mk.injEq, and_true]
    omega
  · rw [if_pos (by omega), if_neg (by omega)]
    by_cases c2 : q + n < 340282366920938463463374607431768211456
    · rw [if_neg (by omega), if_pos c2]
      simp only [Option.some.injEq, Prod.mk.injEq, and_true]
      omega
    · rw [if_pos (by omega), if_neg c2]

theorem and4095 (x : Int) : ∃ n : Nat, n < 4096 ∧ Go.bits .and .i64 x 4095 = (n : Int) := by
  have h : 0 ≤ Go.bits .and .i64 x 4095 ∧ Go.bits .and .i64 x 4095 ≤ 4095 := by
    show 0 ≤ IntKind.i64.wrap ((BitVec.ofInt 64 x &&& BitVec.ofInt 64 4095).toNat : Int) ∧ IntKind.i64.wrap ((BitVec.ofInt 64 x &&& BitVec.ofInt 64 4095).toNat : Int) ≤ 4095
    have h : (BitVec.ofInt 64 x &&& BitVec.ofInt 64 4095).toNat ≤ 4095 := by
      rw [BitVec.toNat_and]
      exact Nat.le_trans Nat.and_le_right (by decide)
    rw [IntKind.wrap_i64]
    omega
  exact ⟨(Go.bits .and .i64 x 4095).toNat, by omega, by omega⟩

end Go.Proofs.YtfnacgojmdbjmaaGreatDoor.PRD
