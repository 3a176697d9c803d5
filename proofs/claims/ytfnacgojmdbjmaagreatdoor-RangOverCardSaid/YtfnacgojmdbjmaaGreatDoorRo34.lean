/- RangOver: the law's condition is met, whatever the numbers. No conditions. -/
import Derived.Test.YtfnacgojmdbjmaaGreatDoorRo33
import Derived.Test.YtfnacgojmdbjmaaGreatDoorRo31
namespace Go.Proofs.YtfnacgojmdbjmaaGreatDoor.PRD
open Go Go.RowKit Go.Proofs.YtfnacgojmdbjmaaGreatDoorW.PrintWords Go.Proofs.YtfnacgojmdbjmaaGreatDoorW.PrintLast Go.Proofs.YtfnacgojmdbjmaaGreatDoorW.PrintMore
open Go.Det (inQ inU M64 M128 qn addN highN clampN maskN inQ_quad qn_quad)

theorem rless_at {a b : Nat} : gleberef1_Less.f (H a) (L a) (H b) (L b) = some (decide (a < b)) := by
  have := less_at 4 (a := a) (b := b)
  unfold addr_Less.f at this
  rw [if_neg (by omega), if_pos rfl] at this
  have e : quad_Less.f (H a) (L a) (H b) (L b) = gleberef1_Less.f (H a) (L a) (H b) (L b) := rfl
  rw [e] at this
  cases hc : gleberef1_Less.f (H a) (L a) (H b) (L b) with
  | none => rw [hc] at this; cases this
  | some x => rw [hc, Option.bind_some] at this; exact this
theorem one_at {V : Int} {q hi x : Nat} : glebelaw4_RangOver_S1.f V (H q) (L q) V (H hi) (L hi) V (H x) (L x) = some (decide (q ≤ x ∧ x ≤ hi)) := by
  unfold glebelaw4_RangOver_S1.f
  rw [if_pos rfl, rless_at, Option.bind_some]
  by_cases c : x < q
  · rw [if_pos (decide_eq_true c), decide_eq_false (by omega)]
  · rw [if_neg (by simpa using c), rless_at, Option.bind_some, ← decide_not]
    exact congrArg some (decide_eq_decide.2 (by omega))
theorem over_at {V : Int} {B q hi sq sh : Nat} (h : Kd' V B) (h1 : hi < 2 ^ B) (h2 : q ≤ hi) (h3 : sh < 2 ^ B) (h4 : sq ≤ sh) :
    rang_Over.f V (H q) (L q) V (H hi) (L hi) V (H sq) (L sq) V (H sh) (L sh) = some (decide (sq ≤ hi ∧ q ≤ sh)) := by
  unfold rang_Over.f
  rw [rangOk_at h h1 h2, Option.bind_some, if_pos rfl, rangOk_at h h3 h4, Option.bind_some, if_pos rfl, if_pos rfl, less_at, Option.bind_some]
  by_cases c : hi < sq
  · rw [if_pos (decide_eq_true c), decide_eq_false (by omega)]
  · rw [if_neg (by simpa using c), less_at, Option.bind_some, ← decide_not]
    exact congrArg some (decide_eq_decide.2 (by omega))
theorem rless_range {V : Int} {B q hi sq sh : Nat} (h : Kd' V B) (h1 : hi < 2 ^ B) (h2 : q ≤ hi) (h3 : sh < 2 ^ B) (h4 : sq ≤ sh) :
    rang_Less.f V (H q) (L q) V (H hi) (L hi) V (H sq) (L sq) V (H sh) (L sh) = some (decide (q < sq ∨ q = sq ∧ hi < sh)) := by
  unfold rang_Less.f
  rw [rangOk_at h h1 h2, Option.bind_some, if_pos rfl, rangOk_at h h3 h4, Option.bind_some, if_pos rfl, less_at, Option.bind_some]
  by_cases c : q < sq
  · rw [if_pos (decide_eq_true c), decide_eq_true (.inl c)]
  · rw [if_neg (by simpa using c)]
    have e : (V == V && (H q == H sq && (L q == L sq))) = decide (q = sq) := by rw [HL_beq]; simp
    rw [e]
    by_cases c2 : q = sq
    · rw [if_pos (decide_eq_true c2), less_at, Option.bind_some]
      exact congrArg some (decide_eq_decide.2 (by omega))
    · rw [if_neg (by simpa using c2), decide_eq_false (by omega)]
theorem blk_iff {p x j : Nat} (hp : p % 2 ^ j = 0) : 2 ^ j * (x / 2 ^ j) = p ↔ p ≤ x ∧ x ≤ p + (2 ^ j - 1) := by
  have h1 := Nat.div_add_mod x (2 ^ j)
  have hpos := Nat.pow_pos (n := j) (show 0 < 2 by decide)
  have h2 := Nat.mod_lt x hpos
  constructor
  · intro e; omega
  · rintro ⟨a, b⟩
    obtain ⟨m, rfl⟩ := Nat.dvd_of_mod_eq_zero hp
    congr 1
    refine Nat.div_eq_of_lt_le ?_ ?_
    · rw [Nat.mul_comm]; exact a
    · rw [Nat.succ_mul, Nat.mul_comm]; omega
theorem phas_at {V : Int} {B p n x : Nat} (h : Kd' V B) (hp : p < 2 ^ B) (hn : n ≤ B) (ha : p % 2 ^ (B - n) = 0) (hx : x < 2 ^ B) :
    pref_Has.f V (H p) (L p) (n : Int) V (H x) (L x) = some (decide (p ≤ x ∧ x ≤ p + (2 ^ (B - n) - 1))) := by
  have hB := h.le
  have e1 := pOk h hp hn
  rw [decide_eq_true ha] at e1
  have hm : maskN (128 - B + n) < M128 := mask_lt (by omega)
  have e2 := qAnd (h.pow hx) hm
  have e3 : maskN (128 - B + n) = 2 ^ 128 - 2 ^ (B - n) := by unfold maskN; rw [show 128 - (128 - B + n) = B - n by omega, m128]
  have e4 : x &&& maskN (128 - B + n) = 2 ^ (B - n) * (x / 2 ^ (B - n)) := by rw [e3]; exact and_mask x 128 (B - n) (by omega) (by rw [← m128]; exact h.pow hx)
  rw [e4] at e2
  have e5 := blk_iff (x := x) ha
  generalize 2 ^ (B - n) * (x / 2 ^ (B - n)) = c at *
  unfold pref_Has.f
  rw [e1, Option.bind_some, if_pos rfl, okA h hx, Option.bind_some, if_pos rfl, if_pos rfl, pMask h hn, Option.bind_some, e2, Option.bind_some, HL_beq]
  exact congrArg some (decide_eq_decide.2 e5)
theorem rhas_at {V : Int} {B p n x : Nat} (h : Kd' V B) (hp : p < 2 ^ B) (hn : n ≤ B) (ha : p % 2 ^ (B - n) = 0) (hx : x < 2 ^ B) :
    gleberef1_Has.f V (H p) (L p) (n : Int) V (H x) (L x) = some (decide (p ≤ x ∧ x ≤ p + (2 ^ (B - n) - 1))) := by
  have e1 := rOkP h hp hn ha
  have e2 := and_cut (m := n) h hx
  have e3 := rAll h hn
  have e5 := blk_iff (x := x) ha
  generalize 2 ^ (B - n) * (x / 2 ^ (B - n)) = c at *
  generalize 2 ^ B - 2 ^ (B - n) = d at *
  unfold gleberef1_Has.f
  rw [e1, Option.bind_some, if_pos rfl, rOk_eq, okA h hx, Option.bind_some, if_pos rfl, if_pos rfl, e3, Option.bind_some, e2, Option.bind_some, HL_beq]
  exact congrArg some (decide_eq_decide.2 e5)
theorem in_at {V : Int} {B p n q hi : Nat} (h : Kd' V B) (hp : p < 2 ^ B) (hn : n ≤ B) (ha : p % 2 ^ (B - n) = 0) (h1 : hi < 2 ^ B) (h2 : q ≤ hi) :
    rang_In.f V (H q) (L q) V (H hi) (L hi) V (H p) (L p) (n : Int) = some (decide (p ≤ q ∧ hi ≤ p + (2 ^ (B - n) - 1))) := by
  have e1 := phas_at h hp hn ha (Nat.lt_of_le_of_lt h2 h1)
  have e2 := phas_at h hp hn ha h1
  generalize 2 ^ (B - n) - 1 = z at *
  unfold rang_In.f
  rw [rangOk_at h h1 h2, Option.bind_some, if_pos rfl, e1, Option.bind_some, e2]
  by_cases c : p ≤ q ∧ q ≤ p + z
  · rw [if_pos (decide_eq_true c), Option.bind_some]
    exact congrArg some (decide_eq_decide.2 (by omega))
  · rw [if_neg (by simpa using c), decide_eq_false (by omega)]

/-! ranges of numbers -/
def Vof (v : Int) : Int := if Go.bits .and .i64 v 1 = 0 then 4 else 6
theorem addr_V {v a b V h l : Int} (h1 : glebelaw2_Addr.f 300 v a b = some (V, h, l)) (ha : 0 ≤ a) (ha2 : a < 18446744073709551616) (hb : 0 ≤ b) (hb2 : b < 18446744073709551616) : V = Vof v := by
  unfold glebelaw2_Addr.f at h1
  unfold Vof
  split at h1
  · rename_i c
    rw [if_pos c]
    rw [if_pos (wrapu_pos _)] at h1
    cases h1; rfl
  · rename_i c
    rw [if_neg c]
    obtain ⟨h', l', e, _⟩ := addr_l0 v 8 300 a b (by omega) (by omega) ha ha2 hb hb2
    rw [show (8 : Int) - ((8 : Nat) : Int) = 0 by decide] at e
    rw [e] at h1
    cases h1; rfl
theorem Kd'.one {V : Int} {B C : Nat} (h : Kd' V B) (k : Kd' V C) : C = B := by
  rcases h with ⟨rfl, rfl⟩ | ⟨rfl, rfl⟩ <;> rcases k with ⟨e, rfl⟩ | ⟨e, rfl⟩
  · rfl
  · cases e
  · cases e
  · rfl
theorem add_any {q n : Nat} (hq : q < M128) (hn : n < 18446744073709551616) : gleberef1_Add.f (H q) (L q) 0 (n : Int) = if q + n < M128 then some (H (q + n), L (q + n), true) else some (0, 0, false) := by
  have h1 := Nat.div_add_mod q M64
  have l1 := L_lt q
  have x1 := H_lt hq
  have h2 := Nat.div_add_mod (q + n) M64
  have l2 := L_lt (q + n)
  have hM : M64 = 18446744073709551616 := rfl
  have hM2 : M128 = 340282366920938463463374607431768211456 := by decide
  unfold gleberef1_Add.f H L
  generalize q / M64 = x at *
  generalize q % M64 = z at *
  generalize (q + n) / M64 = x' at *
  generalize (q + n) % M64 = z' at *
  rw [hM] at h1 h2
  rw [hM2]
  simp only [IntKind.wrap_u64]
  by_cases c : z + n < 18446744073709551616
  · rw [if_neg (by omega), if_neg (by omega), if_neg (by omega), if_pos (by omega)]
    simp only [Option.some.injEq, Prod.mk.injEq, and_true]
    omega
  · rw [if_pos (by omega), if_neg (by omega)]
    by_cases c2 : q + n < 340282366920938463463374607431768211456
    · rw [if_neg (by omega), if_pos c2]
      simp only [Option.some.injEq, Prod.mk.injEq, and_true]
      omega
    · rw [if_pos (by omega), if_neg c2]
theorem shrU {n s : Int} (h0 : 0 ≤ n) (h1 : n < 18446744073709551616) : ∃ N : Nat, N < 18446744073709551616 ∧ Go.Det.shrI .u64 n s = (N : Int) := by
  unfold Go.Det.shrI
  have hp : (0 : Int) < 2 ^ min s.toNat IntKind.u64.bits := Int.pow_pos (by decide)
  rw [Int.fdiv_eq_ediv_of_nonneg _ (by omega)]
  have a := Int.ediv_nonneg h0 (Int.le_of_lt hp)
  have b := Int.ediv_le_self (2 ^ min s.toNat IntKind.u64.bits) h0
  exact ⟨(n / 2 ^ min s.toNat IntKind.u64.bits).toNat, by omega, by omega⟩
theorem rang_at (v a b n : Int) (ha : 0 ≤ a) (ha2 : a < 18446744073709551616) (hb : 0 ≤ b) (hb2 : b < 18446744073709551616) (hn : 0 ≤ n) (hn2 : n < 18446744073709551616) :
    ∃ B q hi, Kd' (Vof v) B ∧ q ≤ hi ∧ hi < 2 ^ B ∧ glebelaw4_Rang.f v a b n = some (Vof v, H q, L q, Vof v, H hi, L hi) := by
  obtain ⟨V, B, q, h, hq, e1⟩ := addr_at (k := 300) (by decide) v a b ha ha2 hb hb2
  obtain rfl := addr_V e1 ha ha2 hb hb2
  obtain ⟨N, hN, eN⟩ := shrU (s := IntKind.u64.wrap (Go.Det.andI .i64 (Go.Det.shrI .i64 v 9) 63)) hn hn2
  have e2 := add_any (h.pow hq) hN
  unfold glebelaw4_Rang.f
  rw [e1, Option.bind_some]
  simp only
  rw [eN, e2]
  by_cases c : q + N < M128
  · rw [if_pos c, Option.bind_some]
    simp only
    rw [if_pos trivial, rOk_eq, okHL h c, Option.bind_some]
    by_cases c2 : q + N < 2 ^ B
    · rw [if_pos (decide_eq_true c2)]
      exact ⟨B, q, q + N, h, Nat.le_add_right _ _, c2, rfl⟩
    · rw [if_neg (by simpa using c2)]
      exact ⟨B, q, q, h, Nat.le_refl _, hq, rfl⟩
  · rw [if_neg c, Option.bind_some]
    exact ⟨B, q, q, h, Nat.le_refl _, hq, rfl⟩
theorem pre_V (v a b n : Int) (ha : 0 ≤ a) (ha2 : a < 18446744073709551616) (hb : 0 ≤ b) (hb2 : b < 18446744073709551616) :
    ∃ B q m, Kd' (Vof v) B ∧ q < 2 ^ B ∧ m ≤ B ∧ q % 2 ^ (B - m) = 0 ∧ glebelaw3_Pre.f v a b n = some (Vof v, H q, L q, ((m : Nat) : Int)) := by
  obtain ⟨V, B, q, h, hq, e1⟩ := addr_at (k := 300) (by omega) v a b ha ha2 hb hb2
  obtain rfl := addr_V e1 ha ha2 hb hb2
  have hB := h.le
  have hne : (B : Int) + 1 ≠ 0 := by clear e1; omega
  have w1 : wrap64 ((B : Int) + 1) = (B : Int) + 1 := by clear e1; exact w64 (by omega) (by omega)
  obtain ⟨m, hm, em⟩ := tmod_at n hB
  obtain ⟨u, u2, u3, y, c, e4, e5, e6, e2, e3, hcut, hmod⟩ := pre_u h hq hm
  exact ⟨B, c, m, h, Nat.lt_of_le_of_lt hcut hq, hm, hmod, pre_t e1 h.rbits w1 hne em (e4 300 (Nat.le_refl _)) (e5 300 (Nat.le_refl _)) e6 e2 e3⟩
theorem cov_some {V : Int} {q hi : Nat} {t : List S30} (h : rang_Cover.f 400 V (H q) (L q) V (H hi) (L hi) = some t) : covF (V, H q, L q, V, H hi, L hi) = some t := by
  refine lim_of (k := 400) (fun i j x y hx hy => ?_) h
  have key : ∀ i j x, i ≤ j → rang_Cover.f i V (H q) (L q) V (H hi) (L hi) = some x → rang_Cover.f j V (H q) (L q) V (H hi) (L hi) = some x := fun i j x hij hx =>
    or_eq_some (f := fun k => rang_Cover.f k V (H q) (L q) V (H hi) (L hi)) (fun k => rang_Cover.mono _ _ _ _ _ _ k) hx j hij
  rcases Nat.le_total i j with c | c
  · have := key i j x c hx
    have := this.symm.trans hy
    cases this; rfl
  · have := key j i y c hy
    have := this.symm.trans hx
    cases this; rfl

end Go.Proofs.YtfnacgojmdbjmaaGreatDoor.PRD
namespace Go.Proofs.YtfnacgojmdbjmaaGreatDoor
open Go.Det Go.RowKit Go.Proofs.YtfnacgojmdbjmaaGreatDoor.PRD Go.Proofs.YtfnacgojmdbjmaaGreatDoorW.PrintWords
set_option maxRecDepth 100000

/-- what stands at the loop's head -/
def roV (V : Int) (q hi sq sh p m : Nat) (t : List S30) (b : Bool) (i : Int) : RoV := ⟨V, H q, L q, V, H hi, L hi, V, H sq, L sq, V, H sh, L sh, V, H p, L p, (m : Int), t, b, i⟩
theorem wrap1 {i : Nat} (h : i < 1000) : IntKind.wrap IntKind.i64 ((i : Int) + 1) = ((i + 1 : Nat) : Int) := by rw [IntKind.wrap_i64]; omega
theorem roStep {V : Int} {B q hi sq sh p m x n : Nat} {t : List S30} {b : Bool} {i : Nat} (h : Kd' V B) (hp : p < 2 ^ B) (hm : m ≤ B) (ha : p % 2 ^ (B - m) = 0) (hx : x + (2 ^ (B - n) - 1) < 2 ^ B) (hn : n ≤ B) (hxa : x % 2 ^ (B - n) = 0)
    (hi' : i < 1000) (hg : t[i]? = some (mkP V x n)) :
    StepRo (roV V q hi sq sh p m t b i) (roV V q hi sq sh p m t (b && decide (p ≤ x ∧ x + (2 ^ (B - n) - 1) ≤ p + (2 ^ (B - m) - 1))) ((i + 1 : Nat) : Int)) := by
  have hlt : i < t.length := by
    rcases Nat.lt_or_ge i t.length with c | c
    · exact c
    · rw [List.getElem?_eq_none c] at hg; cases hg
  have hx2 : x < 2 ^ B := by omega
  have e1 := rhas_at h hp hm ha hx2
  have e2 := rLast h hx2 hn hxa
  have e3 := rhas_at h hp hm ha hx
  have w := wrap1 hi'
  generalize 2 ^ (B - n) - 1 = z at *
  generalize 2 ^ (B - m) - 1 = y at *
  refine (vcRoB _ _ False).mpr ?_
  refine bifW_c (fun _ => ?_) (fun hc => absurd (show ((i : Int) < (t.length : Int)) by omega) hc)
  refine ⟨⟨show (0 : Int) ≤ (i : Int) by omega, show ((i : Int) < (t.length : Int)) by omega⟩, rfl, t, rfl, i, ?_, mkP V x n, hg, ?_⟩
  · show 0 + Int.toNat (i : Int) * 4 = i * 4
    rw [Int.toNat_natCast, Nat.zero_add]
  cases b with
  | false =>
    refine bifW_b (fun hc => Bool.noConfusion (show false = true from hc)) (fun _ => ?_)
    exact ⟨⟨rfl, rfl, rfl, rfl, rfl, rfl, rfl, congrArg (Value.int IntKind.i64) w, trivial⟩, ⟨⟨rfl, rfl, rfl, rfl, rfl, rfl, trivial⟩, rfl, rfl⟩, ⟨⟨rfl, rfl, rfl, rfl, rfl, rfl, trivial⟩, rfl, rfl⟩, ⟨⟨rfl, rfl, rfl, rfl, trivial⟩, rfl, rfl⟩, rfl, rfl, rfl⟩
  | true =>
    refine bifW_b (fun _ => ?_) (fun hc => absurd rfl hc)
    refine ⟨_, e1, ?_⟩
    refine bifW_b (fun hc => ?_) (fun hc => ?_)
    · have hc := of_decide_eq_true hc
      refine ⟨_, e2, _, e3, ⟨rfl, rfl, rfl, rfl, ?_, rfl, rfl, congrArg (Value.int IntKind.i64) w, trivial⟩, ⟨⟨rfl, rfl, rfl, rfl, rfl, rfl, trivial⟩, rfl, rfl⟩, ⟨⟨rfl, rfl, rfl, rfl, rfl, rfl, trivial⟩, rfl, rfl⟩, ⟨⟨rfl, rfl, rfl, rfl, trivial⟩, rfl, rfl⟩, rfl, rfl, rfl⟩
      show Value.bool (decide (p ≤ x + z ∧ x + z ≤ p + y)) = Value.bool (true && decide (p ≤ x ∧ x + z ≤ p + y))
      rw [Bool.true_and]
      exact congrArg Value.bool (decide_eq_decide.2 (by omega))
    · have hc : ¬ (p ≤ x ∧ x ≤ p + y) := fun k => hc (decide_eq_true k)
      refine ⟨⟨rfl, rfl, rfl, rfl, ?_, rfl, rfl, congrArg (Value.int IntKind.i64) w, trivial⟩, ⟨⟨rfl, rfl, rfl, rfl, rfl, rfl, trivial⟩, rfl, rfl⟩, ⟨⟨rfl, rfl, rfl, rfl, rfl, rfl, trivial⟩, rfl, rfl⟩, ⟨⟨rfl, rfl, rfl, rfl, trivial⟩, rfl, rfl⟩, rfl, rfl, rfl⟩
      show Value.bool false = Value.bool (true && decide (p ≤ x ∧ x + z ≤ p + y))
      rw [Bool.true_and, decide_eq_false (by omega)]
theorem Star.trans1 {α : Type} {R : α → α → Prop} {a b c : α} (h : R a b) (k : Star R b c) : Star R a c := .step h k
theorem roStar {V : Int} {B q0 hi sq sh p m : Nat} {t : List S30} (h : Kd' V B) (hhi : hi < 2 ^ B) (hp : p < 2 ^ B) (hm : m ≤ B) (ha : p % 2 ^ (B - m) = 0) (ht : t.length ≤ 254) {q : Nat} {suf : List S30} (hg : Greedy V B hi q suf) :
    ∀ (pre : List S30) (b : Bool), t = pre ++ suf → Star StepRo (roV V q0 hi sq sh p m t b (pre.length : Int)) (roV V q0 hi sq sh p m t (b && decide (p ≤ q ∧ hi ≤ p + (2 ^ (B - m) - 1))) (t.length : Int)) := by
  induction hg with
  | last q n h1 h2 h3 h4 =>
    intro pre b e
    have hi' : pre.length < 1000 := by rw [e] at ht; simp at ht; omega
    have hs := roStep (q := q0) (hi := hi) (sq := sq) (sh := sh) (t := t) (b := b) (i := pre.length) h hp hm ha (by rw [h3]; exact hhi) h1 h2 hi' (by rw [e]; simp)
    rw [h3] at hs
    have hl : t.length = pre.length + 1 := by rw [e]; simp
    rw [hl]
    exact .step hs (.refl _)
  | step q n s h1 h2 h3 h4 h5 ih =>
    intro pre b e
    have hi' : pre.length < 1000 := by rw [e] at ht; simp at ht; omega
    have hs := roStep (q := q0) (hi := hi) (sq := sq) (sh := sh) (t := t) (b := b) (i := pre.length) h hp hm ha (Nat.lt_trans h3 hhi) h1 h2 hi' (by rw [e]; simp)
    have := ih (pre ++ [mkP V q n]) (b && decide (p ≤ q ∧ q + (2 ^ (B - n) - 1) ≤ p + (2 ^ (B - m) - 1))) (by rw [e]; simp)
    rw [List.length_append, List.length_singleton] at this
    have hpos := Nat.pow_pos (n := B - n) (show 0 < 2 by decide)
    have eb : ((b && decide (p ≤ q ∧ q + (2 ^ (B - n) - 1) ≤ p + (2 ^ (B - m) - 1))) && decide (p ≤ q + 2 ^ (B - n) ∧ hi ≤ p + (2 ^ (B - m) - 1))) = (b && decide (p ≤ q ∧ hi ≤ p + (2 ^ (B - m) - 1))) := by
      rw [Bool.and_assoc, ← Bool.decide_and]
      congr 1
      exact decide_eq_decide.2 (by omega)
    rw [eb] at this
    exact .step hs this

theorem bif_yes {b : Bool} {A B : Prop} (h : b = true) (k : A) : bifW b A B := by rw [h]; exact k
theorem bif_no {b : Bool} {A B : Prop} (h : b = false) (k : B) : bifW b A B := by rw [h]; exact k
/-- the law's condition is met -/
theorem ro_w (v a b n c m k : Int) (ha : (Lit.int .u64 a).wf = true) (hb : (Lit.int .u64 b).wf = true) (hn : (Lit.int .u64 n).wf = true) (hm : (Lit.int .u64 m).wf = true) :
    codeW Tryz.prog (cwC L5) (bodyOf Tryz.f5) (inTab [.int .i64 v, .int .u64 a, .int .u64 b, .int .u64 n, .int .u64 c, .int .u64 m, .int .i64 k] 8) (birth [] 64) (retW Tryz.prog Tryz.f5 fun v' _ => v' = .bool true) := by
  refine codeX_codeW (cwC_mono L5) oxRo_ok _ lxRo_ok ((vcRo v a b n c m k _).mpr ?_)
  have wf : ∀ {x : Int}, (Lit.int .u64 x).wf = true → 0 ≤ x ∧ x < 18446744073709551616 := by
    intro x h
    simp [Lit.wf, IntKind.min, IntKind.max, IntKind.signed, IntKind.bits] at h
    omega
  have ha := wf ha
  have hb := wf hb
  have hn := wf hn
  have hm := wf hm
  have hb' : 0 ≤ xorI IntKind.u64 b (andI IntKind.u64 c 65535) ∧ xorI IntKind.u64 b (andI IntKind.u64 c 65535) < 18446744073709551616 := by
    have b0 := bits_lo_u64 .xor b (andI IntKind.u64 c 65535)
    have b1 := bits_hi_u64 .xor b (andI IntKind.u64 c 65535)
    exact ⟨b0, by show Go.bits .xor .u64 b (andI IntKind.u64 c 65535) < _; omega⟩
  generalize xorI IntKind.u64 b (andI IntKind.u64 c 65535) = b2 at *
  obtain ⟨B, q, hi, h, hle, hhi, e1⟩ := rang_at v a b n ha.1 ha.2 hb.1 hb.2 hn.1 hn.2
  obtain ⟨B2, sq, sh, h2, hle2, hhi2, e2⟩ := rang_at v a b2 m ha.1 ha.2 hb'.1 hb'.2 hm.1 hm.2
  obtain rfl := Kd'.one h h2
  obtain ⟨B3, p, w, h3, hp, hw, hpa, e3⟩ := pre_V v a b k ha.1 ha.2 hb.1 hb.2
  obtain rfl := Kd'.one h h3
  obtain ⟨t, tg, tl, et⟩ := cover_any h hhi hle
  have st := roStar (q0 := q) (sq := sq) (sh := sh) h hhi hp hw hpa tl tg [] true rfl
  have f1 := one_at (V := Vof v) (q := q) (hi := hi) (x := sq)
  have f1' := one_at (V := Vof v) (q := sq) (hi := sh) (x := q)
  have f2 := over_at h hhi hle hhi2 hle2
  have f3 := over_at h hhi2 hle2 hhi hle
  have f4 := in_at h hp hw hpa hhi hle
  have f5 := rless_range h hhi hle hhi2 hle2
  have f6 := rless_range h hhi2 hle2 hhi hle
  have f7 := over_at h hhi hle hhi hle
  have eq6 : (cdec (Vof v = Vof v) && (cdec (H q = H sq) && (cdec (L q = L sq) && (cdec (Vof v = Vof v) && (cdec (H hi = H sh) && (cdec (L hi = L sh) && Bool.true)))))) = decide (q = sq ∧ hi = sh) := by
    have a1 := HL_beq q sq
    have a2 := HL_beq hi sh
    rw [cdec_beq, cdec_beq] at a1 a2
    rw [cdec_true.2 (rfl : Vof v = Vof v), Bool.true_and, Bool.true_and, Bool.and_true, a2, ← Bool.and_assoc, a1, ← Bool.decide_and]
  generalize p + (2 ^ (B3 - w) - 1) = z at *
  refine ⟨_, e1, _, e2, _, e3, t, cov_some et, tg.ne, roV (Vof v) q hi sq sh p w t true 0, ⟨⟨rfl, rfl, rfl, rfl, rfl, rfl, rfl, rfl, trivial⟩, ⟨⟨rfl, rfl, rfl, rfl, rfl, rfl, trivial⟩, rfl, rfl⟩, ⟨⟨rfl, rfl, rfl, rfl, rfl, rfl, trivial⟩, rfl, rfl⟩, ⟨⟨rfl, rfl, rfl, rfl, trivial⟩, rfl, rfl⟩, rfl, rfl, rfl⟩, _, st, ?_⟩
  refine bifW_c (fun hc => absurd (show (t.length : Int) < (t.length : Int) from hc) (by omega)) (fun _ => ?_)
  refine ⟨_, f1, ?_⟩
  have gin : (decide (p ≤ q ∧ hi ≤ z) == (true && decide (p ≤ q ∧ hi ≤ z))) = true := by rw [Bool.true_and]; exact beq_self_eq_true _
  by_cases cA : q ≤ sq ∧ sq ≤ hi
  · refine bif_yes (decide_eq_true cA) ⟨_, f2, bif_yes (by rw [decide_eq_true (by omega)]; rfl) ⟨_, f3, bif_yes (by rw [decide_eq_true (by omega)]; rfl) ⟨_, f4, bif_yes gin ⟨_, f5, ?_⟩⟩⟩⟩
    by_cases c1 : q < sq ∨ q = sq ∧ hi < sh
    · refine bif_yes (decide_eq_true c1) (bif_yes ?_ ⟨_, f7, bif_yes (decide_eq_true (by omega)) ⟨true, rfl, rfl⟩⟩)
      refine Eq.trans (congrArg (fun x => true == !x) eq6) ?_
      rw [decide_eq_false (by omega)]; rfl
    · refine bif_no (decide_eq_false c1) ⟨_, f6, bif_yes ?_ ⟨_, f7, bif_yes (decide_eq_true (by omega)) ⟨true, rfl, rfl⟩⟩⟩
      refine Eq.trans (congrArg (fun x => decide (sq < q ∨ sq = q ∧ sh < hi) == !x) eq6) ?_
      by_cases c2 : q = sq ∧ hi = sh
      · rw [decide_eq_true c2, decide_eq_false (by omega)]; rfl
      · rw [decide_eq_false c2, decide_eq_true (by omega)]; rfl
  · have go : (decide (sq ≤ hi ∧ q ≤ sh) == decide (sq ≤ q ∧ q ≤ sh)) = true := by
      rw [beq_iff_eq]; exact decide_eq_decide.2 (by omega)
    have go2 : (decide (q ≤ sh ∧ sq ≤ hi) == decide (sq ≤ q ∧ q ≤ sh)) = true := by
      rw [beq_iff_eq]; exact decide_eq_decide.2 (by omega)
    refine bif_no (decide_eq_false cA) ⟨_, f1', _, f2, bif_yes go ⟨_, f3, bif_yes go2 ⟨_, f4, bif_yes gin ⟨_, f5, ?_⟩⟩⟩⟩
    by_cases c1 : q < sq ∨ q = sq ∧ hi < sh
    · refine bif_yes (decide_eq_true c1) (bif_yes ?_ ⟨_, f7, bif_yes (decide_eq_true (by omega)) ⟨true, rfl, rfl⟩⟩)
      refine Eq.trans (congrArg (fun x => true == !x) eq6) ?_
      rw [decide_eq_false (by omega)]; rfl
    · refine bif_no (decide_eq_false c1) ⟨_, f6, bif_yes ?_ ⟨_, f7, bif_yes (decide_eq_true (by omega)) ⟨true, rfl, rfl⟩⟩⟩
      refine Eq.trans (congrArg (fun x => decide (sq < q ∨ sq = q ∧ sh < hi) == !x) eq6) ?_
      by_cases c2 : q = sq ∧ hi = sh
      · rw [decide_eq_true c2, decide_eq_false (by omega)]; rfl
      · rw [decide_eq_false c2, decide_eq_true (by omega)]; rfl

end Go.Proofs.YtfnacgojmdbjmaaGreatDoor
