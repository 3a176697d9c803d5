/- The prefixes of a range, each as wide as can be: how many there are at most; that Cover tells them. No conditions. -/
import Derived.Test.YtfnacgojmdbjmaaGreatDoorRo30
namespace Go.Proofs.YtfnacgojmdbjmaaGreatDoor.PRD
open Go Go.RowKit Go.Proofs.YtfnacgojmdbjmaaGreatDoorW.PrintWords Go.Proofs.YtfnacgojmdbjmaaGreatDoorW.PrintLast Go.Proofs.YtfnacgojmdbjmaaGreatDoorW.PrintMore
open Go.Det (inQ inU M64 M128 qn addN highN clampN maskN inQ_quad qn_quad)

/-- each prefix is the widest that begins there and is in the range -/
def Widest (B hi q n : Nat) : Prop := ∀ i, i < n → q % 2 ^ (B - i) = 0 → hi < q + (2 ^ (B - i) - 1)
inductive Greedy (V : Int) (B hi : Nat) : Nat → List S30 → Prop
  | last (q n : Nat) : n ≤ B → q % 2 ^ (B - n) = 0 → q + (2 ^ (B - n) - 1) = hi → Widest B hi q n → Greedy V B hi q [mkP V q n]
  | step (q n : Nat) (t : List S30) : n ≤ B → q % 2 ^ (B - n) = 0 → q + (2 ^ (B - n) - 1) < hi → Widest B hi q n → Greedy V B hi (q + 2 ^ (B - n)) t → Greedy V B hi q (mkP V q n :: t)
theorem Greedy.chain {V : Int} {B hi q : Nat} {t : List S30} (h : Greedy V B hi q t) : Chain V B hi q t := by
  induction h with
  | last q n h1 h2 h3 _ => exact .last q n h1 h2 h3
  | step q n t h1 h2 h3 _ _ ih => exact .step q n t h1 h2 h3 ih
theorem Greedy.ne {V : Int} {B hi q : Nat} {t : List S30} (h : Greedy V B hi q t) : t ≠ [] := by cases h <;> simp

theorem pick {V : Int} {B q hi : Nat} (h : Kd' V B) (hq : q < 2 ^ B) (hle : q ≤ hi) : ∃ n, n ≤ B ∧ q % 2 ^ (B - n) = 0 ∧ q + (2 ^ (B - n) - 1) ≤ hi ∧ Widest B hi q n := by
  obtain ⟨m, m1, m2, m3, m4, _⟩ := widest_at h hq hle (Nat.le_refl _)
  exact ⟨m, m1, m2, m3, m4⟩

theorem mod_le {q i j : Nat} (h : i ≤ j) (hq : q % 2 ^ j = 0) : q % 2 ^ i = 0 :=
  Nat.mod_eq_zero_of_dvd (Nat.dvd_trans (Nat.pow_dvd_pow 2 h) (Nat.dvd_of_mod_eq_zero hq))
theorem mod_add {q j : Nat} (hq : q % 2 ^ j = 0) : (q + 2 ^ j) % 2 ^ j = 0 := by rw [Nat.add_mod_right]; exact hq
theorem mod_odd {q j : Nat} (hq : q % 2 ^ j = 0) (h : q % 2 ^ (j + 1) ≠ 0) : (q + 2 ^ j) % 2 ^ (j + 1) = 0 := by
  obtain ⟨m, rfl⟩ := Nat.dvd_of_mod_eq_zero hq
  have e : 2 ^ (j + 1) = 2 ^ j * 2 := Nat.pow_succ _ _
  rw [e] at h ⊢
  rw [Nat.mul_mod_mul_left] at h
  have hm : m % 2 = 1 := by
    rcases Nat.mod_two_eq_zero_or_one m with c | c
    · rw [c] at h; simp at h
    · exact c
  rw [show 2 ^ j * m + 2 ^ j = 2 ^ j * (m + 1) by rw [Nat.mul_add, Nat.mul_one], Nat.mul_mod_mul_left, show (m + 1) % 2 = 0 by omega, Nat.mul_zero]

/-- what is behind a whole block: fewer than its bits -/
theorem greedy_down {V : Int} {B hi : Nat} (h : Kd' V B) (hhi : hi < 2 ^ B) : ∀ (j q : Nat), j ≤ B → q ≤ hi → q % 2 ^ j = 0 → hi - q + 1 < 2 ^ j → ∃ t, Greedy V B hi q t ∧ t.length ≤ j := by
  intro j
  induction j using Nat.strongRecOn with
  | _ j ih =>
    intro q hj hle ha hR
    have hq : q < 2 ^ B := Nat.lt_of_le_of_lt hle hhi
    obtain ⟨n, n1, n2, n3, n4⟩ := pick h hq hle
    have hp := Nat.pow_pos (n := B - n) (show 0 < 2 by decide)
    have hlt : B - n < j := by
      rcases Nat.lt_or_ge (B - n) j with c | c
      · exact c
      · have : 2 ^ j ≤ 2 ^ (B - n) := Nat.pow_le_pow_right (by decide) c
        omega
    by_cases c : q + (2 ^ (B - n) - 1) = hi
    · exact ⟨_, .last q n n1 n2 c n4, by simp; omega⟩
    · have hn0 : 0 < n := by omega
      have hw := n4 (n - 1) (by omega) (mod_le (by omega) ha)
      have e : 2 ^ (B - (n - 1)) = 2 ^ (B - n) * 2 := by rw [show B - (n - 1) = (B - n) + 1 by omega, Nat.pow_succ]
      rw [e] at hw
      obtain ⟨t, t1, t2⟩ := ih (B - n) hlt (q + 2 ^ (B - n)) (by omega) (by omega) (mod_add n2) (by omega)
      exact ⟨_, .step q n t n1 n2 (by omega) n4 t1, by simp only [List.length_cons]; omega⟩

/-- a range has at most as many prefixes as twice its bits without two -/
theorem greedy_up {V : Int} {B hi : Nat} (h : Kd' V B) (hhi : hi < 2 ^ B) : ∀ (d a q : Nat), B - a ≤ d → a + 1 ≤ B → q ≤ hi → q % 2 ^ a = 0 → (0 < q ∨ a = 0) → ∃ t, Greedy V B hi q t ∧ t.length + a ≤ 2 * (B - 1) := by
  have hB2 : 2 ≤ B := by rcases h with ⟨_, rfl⟩ | ⟨_, rfl⟩ <;> decide
  intro d
  induction d with
  | zero => intro a q hd ha; omega
  | succ d ih =>
    intro a q hd ha hle hal h0
    have hq : q < 2 ^ B := Nat.lt_of_le_of_lt hle hhi
    by_cases hR : hi - q + 1 < 2 ^ a
    · obtain ⟨t, t1, t2⟩ := greedy_down h hhi a q (by omega) hle hal hR
      exact ⟨t, t1, by omega⟩
    · obtain ⟨n, n1, n2, n3, n4⟩ := pick h hq hle
      have hp := Nat.pow_pos (n := B - n) (show 0 < 2 by decide)
      have hpa := Nat.pow_pos (n := a) (show 0 < 2 by decide)
      have hja : a ≤ B - n := by
        rcases Nat.lt_or_ge (B - n) a with c | c
        · have := n4 (B - a) (by omega) (by rw [show B - (B - a) = a by omega]; exact hal)
          rw [show B - (B - a) = a by omega] at this
          omega
        · exact c
      by_cases c : q + (2 ^ (B - n) - 1) = hi
      · exact ⟨_, .last q n n1 n2 c n4, by simp; omega⟩
      · -- no block of all bits: the range would be at its end
        have hn0 : 0 < n := by
          rcases Nat.eq_zero_or_pos n with c0 | c0
          · subst c0
            rw [Nat.sub_zero] at n3 c
            omega
          · exact c0
        have e : 2 ^ (B - (n - 1)) = 2 ^ (B - n) * 2 := by rw [show B - (n - 1) = (B - n) + 1 by omega, Nat.pow_succ]
        by_cases hfit : hi < q + (2 ^ (B - n) * 2 - 1)
        · -- what is left is less than the block
          obtain ⟨t, t1, t2⟩ := greedy_down h hhi (B - n) (q + 2 ^ (B - n)) (by omega) (by omega) (mod_add n2) (by omega)
          refine ⟨_, .step q n t n1 n2 (by omega) n4 t1, ?_⟩
          simp only [List.length_cons]
          by_cases hn1 : n = 1
          · subst hn1
            -- half of all: it begins at nought, or ends at the end
            rcases h0 with h0 | h0
            · exfalso
              obtain ⟨m, rfl⟩ := Nat.dvd_of_mod_eq_zero n2
              have eB : 2 ^ B = 2 ^ (B - 1) * 2 := by rw [← Nat.pow_succ]; congr 1; omega
              have hm : m = 1 := by
                rw [eB] at hq
                have h2 : m < 2 := Nat.lt_of_mul_lt_mul_left hq
                rcases Nat.eq_zero_or_pos m with c1 | c1
                · subst c1; simp at h0
                · omega
              subst hm
              rw [eB] at hhi
              omega
            · omega
          · omega
        · have hodd : q % 2 ^ (B - n + 1) ≠ 0 := by
            intro hz
            have hw := n4 (n - 1) (by omega) (by rw [show B - (n - 1) = B - n + 1 by omega]; exact hz)
            rw [e] at hw
            exact hfit hw
          have hn2 : 2 ≤ n := by
            rcases Nat.lt_or_ge n 2 with c2 | c2
            · exfalso
              obtain rfl : n = 1 := by omega
              have eB : 2 ^ B = 2 ^ (B - 1) * 2 := by rw [← Nat.pow_succ]; congr 1; omega
              apply hodd
              have hq0 : q = 0 := by omega
              rw [hq0, Nat.zero_mod]
            · exact c2
          obtain ⟨t, t1, t2⟩ := ih (B - n + 1) (q + 2 ^ (B - n)) (by omega) (by omega) (by omega) (mod_odd n2 hodd) (.inl (by omega))
          exact ⟨_, .step q n t n1 n2 (by omega) n4 t1, by simp only [List.length_cons]; omega⟩
theorem greedy_at {V : Int} {B hi q : Nat} (h : Kd' V B) (hhi : hi < 2 ^ B) (hle : q ≤ hi) : ∃ t, Greedy V B hi q t ∧ t.length ≤ 254 := by
  have hB := h.le
  have hB2 : 2 ≤ B := by rcases h with ⟨_, rfl⟩ | ⟨_, rfl⟩ <;> decide
  obtain ⟨t, t1, t2⟩ := greedy_up h hhi B 0 q (by omega) (by omega) hle (by simp [Nat.mod_one]) (.inr rfl)
  exact ⟨t, t1, by omega⟩

theorem widest_one {B hi q m n : Nat} (hm1 : m ≤ B) (hn1 : n ≤ B) (ma : q % 2 ^ (B - m) = 0) (na : q % 2 ^ (B - n) = 0) (mf : q + (2 ^ (B - m) - 1) ≤ hi) (nf : q + (2 ^ (B - n) - 1) ≤ hi) (mw : Widest B hi q m) (nw : Widest B hi q n) : m = n := by
  rcases Nat.lt_trichotomy m n with c | c | c
  · have := nw m c ma; omega
  · exact c
  · have := mw n c na; omega
theorem cover_greedy {V : Int} {B hi : Nat} (h : Kd' V B) (hhi : hi < 2 ^ B) (a b c : Int) {q : Nat} {t : List S30} (hg : Greedy V B hi q t) : ∀ (k : Nat) (out : List S30), t.length + B + 4 ≤ k → out.length + t.length < 4398046511104 →
    rang_Cover.l0 k out a b c V (H hi) (L hi) V (H q) (L q) = some (out ++ t) := by
  induction hg with
  | last q n h1 h2 h3 h4 =>
    intro k out hk hlen
    obtain ⟨k, rfl⟩ : ∃ m, k = m + 2 := ⟨k - 2, by omega⟩
    have hp := Nat.pow_pos (n := B - n) (show 0 < 2 by decide)
    have hle : q ≤ hi := by omega
    have hq : q < 2 ^ B := Nat.lt_of_le_of_lt hle hhi
    simp only [List.length_singleton] at hk hlen
    obtain ⟨m, m1, m2, m3, m4, m5⟩ := widest_at h hq hle (k := k + 1) (by omega)
    obtain rfl := widest_one m1 h1 m2 h2 m3 (by omega) m4 h4
    have e2 := pLast h hq m1 m2
    have e3 := next_at h (show q + (2 ^ (B - m) - 1) < 2 ^ B by omega)
    have heq : q + (2 ^ (B - m) - 1) + 1 = q + 2 ^ (B - m) := by omega
    rw [heq] at e3
    have e4 := less_at V (a := hi) (b := q + 2 ^ (B - m))
    rw [rang_Cover.l0, m5, Option.bind_some, if_pos (by omega), Option.bind_some]
    simp only
    rw [e2, Option.bind_some]
    simp only
    rw [e3]
    by_cases c2 : q + 2 ^ (B - m) < 2 ^ B
    · rw [if_pos c2, Option.bind_some, if_pos rfl]
      simp only
      rw [e4, Option.bind_some, if_pos (decide_eq_true (by omega))]
      rfl
    · rw [if_neg c2, Option.bind_some, if_neg (by decide)]
      rfl
  | step q n t h1 h2 h3 h4 h5 ih =>
    intro k out hk hlen
    obtain ⟨k, rfl⟩ : ∃ m, k = m + 2 := ⟨k - 2, by omega⟩
    have hp := Nat.pow_pos (n := B - n) (show 0 < 2 by decide)
    have hle : q ≤ hi := by omega
    have hq : q < 2 ^ B := Nat.lt_of_le_of_lt hle hhi
    simp only [List.length_cons] at hk hlen
    obtain ⟨m, m1, m2, m3, m4, m5⟩ := widest_at h hq hle (k := k + 1) (by omega)
    obtain rfl := widest_one m1 h1 m2 h2 m3 (by omega) m4 h4
    have e2 := pLast h hq m1 m2
    have e3 := next_at h (show q + (2 ^ (B - m) - 1) < 2 ^ B by omega)
    have heq : q + (2 ^ (B - m) - 1) + 1 = q + 2 ^ (B - m) := by omega
    rw [heq] at e3
    have e4 := less_at V (a := hi) (b := q + 2 ^ (B - m))
    have t2 := ih (k + 1) (out ++ [mkP V q m]) (by omega) (by rw [List.length_append]; simp; omega)
    rw [rang_Cover.l0, m5, Option.bind_some, if_pos (by omega), Option.bind_some]
    simp only
    rw [e2, Option.bind_some]
    simp only
    rw [e3]
    rw [if_pos (show q + 2 ^ (B - m) < 2 ^ B by omega), Option.bind_some, if_pos rfl]
    simp only
    rw [e4, Option.bind_some, if_neg (by simp; omega)]
    rw [List.append_assoc] at t2
    exact t2
theorem cover_any {V : Int} {B q hi : Nat} (h : Kd' V B) (hhi : hi < 2 ^ B) (hle : q ≤ hi) :
    ∃ t, Greedy V B hi q t ∧ t.length ≤ 254 ∧ rang_Cover.f 400 V (H q) (L q) V (H hi) (L hi) = some t := by
  have hB := h.le
  obtain ⟨t, t1, t2⟩ := greedy_at h hhi hle
  refine ⟨t, t1, t2, ?_⟩
  unfold rang_Cover.f
  rw [rangOk_at h hhi hle, Option.bind_some, if_pos rfl]
  exact cover_greedy h hhi V (H q) (L q) t1 400 [] (by omega) (by simp; omega)

end Go.Proofs.YtfnacgojmdbjmaaGreatDoor.PRD
