/- AddrNext: at every start, whatever the numbers, the condition under which the call returns true is met; no conditions. -/
import Derived.Test.YtfnacgojmdbjmaaDoorAn24
namespace Go.Proofs.YtfnacgojmdbjmaaDoor
open Go.ChangeShapes Go.WideShapes Go.ChangeAt Go.RowKit Go.Det Go.Proofs.YtfnacgojmdbjmaaDoor.PAN Go.Proofs.YtfnacgojmdbjmaaDoorW.PrintWords
set_option maxRecDepth 100000

/-- an address that is one -/
def OkA (V h l : Int) : Prop := (V = 4 ∧ h = 0 ∧ 0 ≤ l ∧ l < 4294967296) ∨ (V = 6 ∧ 0 ≤ h ∧ h < 18446744073709551616 ∧ 0 ≤ l ∧ l < 18446744073709551616)

theorem wrapu_pos (x : Int) : 0 ≤ IntKind.u64.wrap x := (wrap_within .u64 x).1
theorem addr_l0 (v : Int) : ∀ (d k : Nat) (h l : Int), d ≤ 8 → d < k → 0 ≤ h → h < 18446744073709551616 → 0 ≤ l → l < 18446744073709551616 →
    ∃ h' l', glebelaw2_Addr.l0 k v (8 - (d : Int)) h l = some (6, h', l') ∧ 0 ≤ h' ∧ h' < 18446744073709551616 ∧ 0 ≤ l' ∧ l' < 18446744073709551616 := by
  intro d
  induction d with
  | zero =>
    intro k h l _ hk h1 h2 h3 h4
    obtain ⟨k, rfl⟩ : ∃ m, k = m + 1 := ⟨k - 1, by omega⟩
    refine ⟨h, l, ?_, h1, h2, h3, h4⟩
    rw [glebelaw2_Addr.l0, if_neg (by omega)]
  | succ d ih =>
    intro k h l hd hk h1 h2 h3 h4
    obtain ⟨k, rfl⟩ : ∃ m, k = m + 1 := ⟨k - 1, by omega⟩
    have hx : ((8 : Int) - ((d + 1 : Nat) : Int)) < 8 := by omega
    have hw : wrap64 ((8 : Int) - ((d + 1 : Nat) : Int) + 1) = 8 - (d : Int) := by unfold wrap64; omega
    have b0 : ∀ op (x y : Int), 0 ≤ Go.bits op .u64 x y := fun op x y => bits_lo_u64 op x y
    have b1 : ∀ op (x y : Int), Go.bits op .u64 x y < 18446744073709551616 := fun op x y => by have := bits_hi_u64 op x y; omega
    rw [glebelaw2_Addr.l0, if_pos hx, if_pos (wrapu_pos _)]
    split
    · split
      · rw [if_pos (wrapu_pos _), hw]
        exact ih k _ l (by omega) (by omega) (b0 _ _ _) (b1 _ _ _) h3 h4
      · rw [if_pos (wrapu_pos _), hw]
        exact ih k h _ (by omega) (by omega) h1 h2 (b0 _ _ _) (b1 _ _ _)
    · rw [hw]
      exact ih k h l (by omega) (by omega) h1 h2 h3 h4
theorem and32_le (a : Int) (h0 : 0 ≤ a) (h1 : a < 18446744073709551616) : 0 ≤ Go.bits .and .u64 a 4294967295 ∧ Go.bits .and .u64 a 4294967295 ≤ 4294967295 := by
  obtain ⟨A, rfl⟩ := Int.eq_ofNat_of_zero_le h0
  rw [show (4294967295 : Int) = ((4294967295 : Nat) : Int) from rfl, Go.bits_and_u64_nat A 4294967295 (by omega) (by decide)]
  have : A &&& 4294967295 ≤ 4294967295 := Nat.and_le_right
  omega
theorem addr_ok (v a b : Int) (ha : 0 ≤ a) (ha2 : a < 18446744073709551616) (hb : 0 ≤ b) (hb2 : b < 18446744073709551616) : ∃ V h l, f28 v a b = some (V, h, l) ∧ OkA V h l := by
  unfold f28 glebelaw2_Addr.f
  split
  · rw [if_pos (wrapu_pos _)]
    refine ⟨4, 0, _, rfl, .inl ⟨rfl, rfl, ?_⟩⟩
    obtain ⟨h0, h1⟩ := and32_le a ha ha2
    unfold shr
    have hp : (0 : Int) < 2 ^ min (IntKind.u64.wrap (wrap64 (Go.bits .and .i64 (v / 2) 3 * 8))).toNat IntKind.u64.bits := Int.pow_pos (by decide)
    refine ⟨Int.ediv_nonneg h0 (by omega), ?_⟩
    have := Int.ediv_le_self (2 ^ min (IntKind.u64.wrap (wrap64 (Go.bits .and .i64 (v / 2) 3 * 8))).toNat IntKind.u64.bits) h0
    omega
  · obtain ⟨h', l', e, q⟩ := addr_l0 v 8 300 a b (by omega) (by omega) ha ha2 hb hb2
    exact ⟨6, h', l', e, .inr ⟨rfl, q⟩⟩

theorem less_eq (V h l V' h' l' : Int) : f30 V h l V' h' l' = some (decide (V < V' ∨ V = V' ∧ (h < h' ∨ h = h' ∧ l < l'))) := by
  unfold f30 addr_Less.f quad_Less.f
  split
  · rename_i q; simp [q]
  · rename_i q
    split
    · rename_i q2
      subst q2
      split
      · rename_i q3; simp [q3]
      · rename_i q3
        split
        · rename_i q4; subst q4; simp
        · rename_i q4; simp [q3, q4]
    · rename_i q2; simp [q, q2]
theorem ok_eq (V h l : Int) : f31 V h l = some (decide (V = 6 ∨ V = 4 ∧ h = 0 ∧ l < 4294967296)) := by
  unfold f31 addr_Ok.f
  split
  · rename_i q; simp [q]
  · rename_i q
    split
    · rename_i q2
      subst q2
      split
      · rename_i q3; subst q3; simp
      · rename_i q3; simp [q3]
    · rename_i q2; simp [q, q2]
theorem bit0 : quad_Bit.f 300 0 = some (0, 1) := by decide +kernel
/-- addr.Next comes to what is said -/
noncomputable def enc29 (x : Int × Int × Int) : List Value := [.agg #[.int .i64 x.1, .int .u64 x.2.1, .int .u64 x.2.2]]
theorem dec29_enc {args : List Value} {a : Int × Int × Int} (h : dec29 args = some a) : args = enc29 a := by
  unfold dec29 at h
  split at h
  case h_2 => cases h
  cases h; rfl
theorem w29 (x : Int × Int × Int) (hd : d29 x.1 x.2.1 x.2.2 = true) : codeW Tryd.prog (cwC L29) (bodyOf Tryd.f29) (inTab (enc29 x) 8) (birth [] 64) (retW Tryd.prog Tryd.f29 fun v' _ => v' =
    .tuple #[.agg #[.int .i64 (r29a x.1 x.2.1 x.2.2), .int .u64 (r29b x.1 x.2.1 x.2.2), .int .u64 (r29c x.1 x.2.1 x.2.2)], .bool (cdec (r29d x.1 x.2.1 x.2.2 = true))]) := by
  obtain ⟨V, h, l⟩ := x
  refine (vc29 V h l _).mpr ?_
  have hB : f23 0 = some (0, 1) := bit0
  obtain ⟨o1, e1⟩ : ∃ b, addr_Ok.f V h l = some b := ⟨_, ok_eq V h l⟩
  have e1' : f31 V h l = some o1 := e1
  have hd : (f29 V h l).isSome = true := hd
  cases hq : quad_Add.f h l 0 1 with
  | none => unfold f29 at hd; rw [bit0, Option.bind_some] at hd; simp only at hd; rw [hq] at hd; cases hd
  | some q =>
    obtain ⟨q1, q2, q3⟩ := q
    have hq' : f16 h l 0 1 = some (q1, q2, q3) := hq
    obtain ⟨o2, e2⟩ : ∃ b, addr_Ok.f V q1 q2 = some b := ⟨_, ok_eq V q1 q2⟩
    have e2' : f31 V q1 q2 = some o2 := e2
    have e : f29 V h l = if q3 = true then (if o1 = true then (if o2 = true then some (V, q1, q2, true) else some (0, 0, 0, false)) else some (0, 0, 0, false)) else some (0, 0, 0, false) := by
      unfold f29
      rw [bit0, Option.bind_some]
      simp only [hq, Option.bind_some, e1, e2]
    simp only [d23, r23a, r23b, hB, d16, r16a, r16b, r16c, hq', d31, r31, e1', e2', Option.isSome_some, Option.getD_some, true_and, cdec_bool, r29a, r29b, r29c, r29d, e]
    cases q3 <;> cases o1 <;> cases o2 <;> rfl
theorem om29 {W : World} (hW : GoodW W) : OwnAll Tryd.prog W 6 29 con29.own :=
  con_flat enc29 (Laying.empty hW.size) hW.size (by decide) dt_mixed (OwnsAll.con (om16 hW) (OwnsAll.con (om23 hW) (OwnsAll.con (om31 hW) (ownsAll_nil W 6)))) Tryd.func29 (fn := Tryd.f29) (c := bodyOf Tryd.f29) (by kernel_rfl) (by kernel_rfl) (fun _ _ h => dec29_enc h) (fun a => ⟨rfl, rfl, (by kernel_rfl)⟩) w29
theorem ownLA {W : World} (hW : GoodW W) : OwnsAll Tryd.prog W 6 (extC LA) :=
  OwnsAll.con (om28 hW) (OwnsAll.con (om29 hW) (OwnsAll.con (om30 hW) (OwnsAll.con (om31 hW) (OwnsAll.con (om_done27 hW) (ownsAll_nil W 6)))))

theorem next_at (V h l : Int) (hO : OkA V h l) : (∃ nh nl, f29 V h l = some (V, nh, nl, true) ∧ OkA V nh nl ∧ nh * 18446744073709551616 + nl = h * 18446744073709551616 + l + 1) ∨
    (f29 V h l = some (0, 0, 0, false) ∧ ((V = 4 ∧ h = 0 ∧ l = 4294967295) ∨ (V = 6 ∧ h = 18446744073709551615 ∧ l = 18446744073709551615))) := by
  have hh : 0 ≤ h ∧ h < 18446744073709551616 ∧ 0 ≤ l ∧ l < 18446744073709551616 := by rcases hO with q | q <;> omega
  have hq : qn h l = h.toNat * 18446744073709551616 + l.toNat := rfl
  have hq1 : qn 0 1 = 1 := by decide
  have hin : (inQ h l && inQ 0 1) = true := by
    have : inQ h l = true := by unfold inQ inU; rw [Bool.and_eq_true]; exact ⟨decide_eq_true (by omega), decide_eq_true (by omega)⟩
    rw [this]; decide +kernel
  have hok : addr_Ok.f V h l = some true := by
    have := ok_eq V h l; unfold f31 at this; rw [this]
    congr 1; exact decide_eq_true (by rcases hO with q | q <;> omega)
  unfold f29
  rw [bit0, Option.bind_some]
  unfold quad_Add.f
  rw [if_pos hin, Option.bind_some, hq, hq1]
  simp only
  rw [hok, Option.bind_some]
  obtain ⟨S, hS⟩ : ∃ S, S = h.toNat * 18446744073709551616 + l.toNat := ⟨_, rfl⟩
  rw [← hS]
  have hM : M128 = 340282366920938463463374607431768211456 := by decide
  have hM6 : M64 = 18446744073709551616 := rfl
  by_cases hlt : S + 1 < M128
  · have ea : addN S 1 = S + 1 := by unfold addN; rw [if_pos hlt]
    rw [ea, if_pos (decide_eq_true hlt), if_pos rfl]
    have e2 := ok_eq V (((S + 1) / M64 : Nat) : Int) (((S + 1) % M64 : Nat) : Int)
    unfold f31 at e2
    rw [e2, Option.bind_some]
    have q1 : (((S + 1) / M64 : Nat) : Int) * 18446744073709551616 + (((S + 1) % M64 : Nat) : Int) = h * 18446744073709551616 + l + 1 := by rw [hM6]; omega
    have q2 : 0 ≤ (((S + 1) / M64 : Nat) : Int) ∧ (((S + 1) / M64 : Nat) : Int) < 18446744073709551616 ∧ 0 ≤ (((S + 1) % M64 : Nat) : Int) ∧ (((S + 1) % M64 : Nat) : Int) < 18446744073709551616 := by rw [hM6]; rw [hM] at hlt; omega
    obtain ⟨nh, hnh⟩ : ∃ x, x = (((S + 1) / M64 : Nat) : Int) := ⟨_, rfl⟩
    obtain ⟨nl, hnl⟩ : ∃ x, x = (((S + 1) % M64 : Nat) : Int) := ⟨_, rfl⟩
    rw [← hnh, ← hnl] at q1 q2 ⊢
    rcases hO with ⟨rfl, rfl, o1, o2⟩ | ⟨rfl, o1, o2, o3, o4⟩
    · by_cases hl : l = 4294967295
      · right
        rw [if_neg (by simp; omega)]
        exact ⟨rfl, .inl ⟨rfl, rfl, hl⟩⟩
      · left
        rw [if_pos (decide_eq_true (by omega))]
        exact ⟨nh, nl, rfl, .inl ⟨rfl, by omega, by omega, by omega⟩, q1⟩
    · left
      rw [if_pos (decide_eq_true (by omega))]
      exact ⟨nh, nl, rfl, .inr ⟨rfl, by omega, by omega, by omega, by omega⟩, q1⟩
  · right
    rw [if_neg (by simp; omega)]
    refine ⟨rfl, .inr ?_⟩
    rw [hM] at hlt
    rcases hO with q | q <;> omega

theorem next_end : f29 4 0 4294967295 = some (0, 0, 0, false) := by decide +kernel
theorem next_far : f29 6 18446744073709551615 18446744073709551615 = some (0, 0, 0, false) := by decide +kernel
theorem cdec_T : cdec (true = true) = true := cdec_true.2 rfl
theorem cdec_F : cdec (false = true) = false := cdec_false.2 (by simp)
theorem bifW_f (A B : Prop) : bifW false A B = B := rfl
theorem bq_t {x y : Bool} : (x == y) = true ↔ (x = true ↔ y = true) := by cases x <;> cases y <;> simp
theorem bq_f {x y : Bool} : (x == y) = false ↔ ¬ (x = true ↔ y = true) := by cases x <;> cases y <;> simp
theorem bn_t {x : Bool} : (!x) = true ↔ ¬ x = true := by cases x <;> simp
theorem bn_f {x : Bool} : (!x) = false ↔ x = true := by cases x <;> simp
theorem ba_t {x y : Bool} : (x && y) = true ↔ x = true ∧ y = true := by cases x <;> cases y <;> simp
theorem ba_f {x y : Bool} : (x && y) = false ↔ ¬ (x = true ∧ y = true) := by cases x <;> cases y <;> simp

theorem an_w (v a b w c d : Int) (ha : 0 ≤ a ∧ a < 18446744073709551616) (hb : 0 ≤ b ∧ b < 18446744073709551616) (hc : 0 ≤ c ∧ c < 18446744073709551616) (hd : 0 ≤ d ∧ d < 18446744073709551616) :
    codeW Tryd.prog (cwC LA) (bodyOf Tryd.f9) (inTab [.int .i64 v, .int .u64 a, .int .u64 b, .int .i64 w, .int .u64 c, .int .u64 d] 8) (birth [] 64) (retW Tryd.prog Tryd.f9 fun v _ => v = .bool true) := by
  refine (vc9 v a b w c d _).mpr ?_
  obtain ⟨V, h, l, hA, oA⟩ := addr_ok v a b ha.1 ha.2 hb.1 hb.2
  obtain ⟨V', h', l', hB, oB⟩ := addr_ok w c d hc.1 hc.2 hd.1 hd.2
  simp only [d28, r28a, r28b, r28c, hA, hB, Option.isSome_some, Option.getD_some, true_and]
  rcases next_at V h l oA with ⟨nh, nl, hN, oN, eN⟩ | ⟨hN, eN⟩
  · simp only [d29, r29a, r29b, r29c, r29d, d30, r30, d31, r31, hN, less_eq, ok_eq, next_end, next_far, Option.isSome_some, Option.getD_some, true_and, cdec_F, decide_eq_true_eq]
    unfold OkA at oA oB oN
    repeat' first
      | exact trivial
      | refine bifW_intro (fun hx => ?_) (fun hx => ?_)
    all_goals
      exfalso
      simp only [bq_t, bq_f, bn_t, bn_f, ba_t, cdec_true, cdec_false, and_true, true_iff, Bool.false_eq_true, not_false_eq_true, not_true_eq_false] at *
      try omega
  · simp only [d29, r29a, r29b, r29c, r29d, d30, r30, d31, r31, hN, less_eq, ok_eq, next_end, next_far, Option.isSome_some, Option.getD_some, true_and, cdec_F, bifW_f, decide_eq_true_eq]
    unfold OkA at oA oB
    repeat' first
      | exact trivial
      | refine bifW_intro (fun hx => ?_) (fun hx => ?_)
    all_goals
      exfalso
      simp only [bq_t, bq_f, bn_t, bn_f, ba_t, ba_f, cdec_true, cdec_false, and_true, true_iff, Bool.false_eq_true, not_false_eq_true] at *
      try omega

end Go.Proofs.YtfnacgojmdbjmaaDoor
