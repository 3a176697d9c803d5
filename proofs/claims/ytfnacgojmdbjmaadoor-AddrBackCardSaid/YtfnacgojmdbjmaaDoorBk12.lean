/- Texts of a proof, joined: words of the print (those that are named here) and printed functions. -/
import Derived.Test.YtfnacgojmdbjmaaDoorBk9
import Derived.Test.YtfnacgojmdbjmaaDoorBk11
import Derived.Test.YtfnacgojmdbjmaaDoorRows
import Derived.Test.YtfnacgojmdbjmaaDoorCards
import Derived.Test.YtfnacgojmdbjmaaDoorTie
import Derived.WalkKit
import Derived.ProofKit
import Derived.OpenShut
import Derived.ShutString
import Derived.ChangeOld
import Derived.Below
import Derived.SizedLaws
set_option linter.unusedSimpArgs false
set_option linter.unusedVariables false

section
/- gleberef1.Print and glebelaw2.Text answer, with no long text. Plain: over the printed functions. -/
namespace Go.Proofs.YtfnacgojmdbjmaaDoor
open Go.Det Go.RowKit Go.Proofs.YtfnacgojmdbjmaaDoorW.PrintWords Go.Proofs.YtfnacgojmdbjmaaDoor.PPAB
open Go.Proofs.YtfnacgojmdbjmaaDoor.PPH (w64 Kd' H L)
set_option maxRecDepth 100000
theorem one_size (x : Int) : (strOfNums [x]).size = 1 := rfl
theorem ne_nil {s : ByteArray} (h : 1 ≤ s.size) : ¬ s.toList = ([] : List UInt8) := by
  intro e
  rw [ByteArray.toList_eq] at e
  have : s.data.toList.length = s.size := rfl
  rw [e, List.length_nil] at this
  omega
theorem wrap_nn (x : Int) : 0 ≤ IntKind.u64.wrap x := by rw [IntKind.wrap_u64]; omega
theorem and_word (m : Int) : ∃ b : Nat, b < 65536 ∧ Go.bits .and .u64 m 65535 = (b : Int) := by
  refine ⟨(BitVec.ofInt 64 m &&& BitVec.ofInt 64 65535).toNat, ?_, ?_⟩
  · rw [BitVec.toNat_and]
    have : (BitVec.ofInt 64 65535).toNat = 65535 := by decide
    rw [this]
    exact Nat.lt_of_le_of_lt Nat.and_le_right (by decide)
  · exact Go.Det.wrapU ⟨by omega, by have := (BitVec.ofInt 64 m &&& BitVec.ofInt 64 65535).isLt; simp only [IntKind.bits]; omega⟩
theorem and_15 (m : Int) : ∃ b : Nat, b < 16 ∧ Go.bits .and .u64 m 15 = (b : Int) := by
  refine ⟨(BitVec.ofInt 64 m &&& BitVec.ofInt 64 15).toNat, ?_, ?_⟩
  · rw [BitVec.toNat_and]
    have : (BitVec.ofInt 64 15).toNat = 15 := by decide
    rw [this]
    exact Nat.lt_of_le_of_lt Nat.and_le_right (by decide)
  · exact Go.Det.wrapU ⟨by omega, by have := (BitVec.ofInt 64 m &&& BitVec.ofInt 64 15).isLt; simp only [IntKind.bits]; omega⟩
theorem rtext_tot : ∀ (d k n : Nat) (s : ByteArray), n < 10 ^ d → d ≤ 19 → d + 2 ≤ k → s.size + d ≤ 200 → ∃ r, gleberef1_Text.l0 k (n : Int) s = some r ∧ r.size ≤ s.size + d + 1
  | 0, k, n, s, hn, hd, hk, hs => by
    obtain ⟨k, rfl⟩ : ∃ j, k = j + 2 := ⟨k - 2, by omega⟩
    have hn0 : n = 0 := by simpa using hn
    subst hn0
    unfold gleberef1_Text.l0
    rw [if_neg (by omega)]
    split
    · rw [Option.bind_some, if_pos (by rw [one_size]; omega)]
      have e : IntKind.u64.wrap (Int.tdiv ((0 : Nat) : Int) 10) = 0 := by decide
      rw [e]
      unfold gleberef1_Text.l0
      rw [if_neg (by omega), if_neg (ne_nil (by rw [ByteArray.size_append, one_size]; omega))]
      exact ⟨_, rfl, by rw [ByteArray.size_append, one_size]; omega⟩
    · exact ⟨_, rfl, by omega⟩
  | d + 1, k, n, s, hn, hd, hk, hs => by
    obtain ⟨k, rfl⟩ : ∃ j, k = j + 1 := ⟨k - 1, by omega⟩
    have h10 : 10 ^ (d + 1) = 10 ^ d * 10 := Nat.pow_succ _ _
    have hb : 10 ^ (d + 1) ≤ 10 ^ 19 := Nat.pow_le_pow_right (by decide) hd
    have e : IntKind.u64.wrap (Int.tdiv (n : Int) 10) = ((n / 10 : Nat) : Int) := by
      rw [show Int.tdiv (n : Int) 10 = ((n / 10 : Nat) : Int) from rfl]
      exact Go.Det.wrapU ⟨by omega, by omega⟩
    have next : ∃ r, gleberef1_Text.l0 k ((n / 10 : Nat) : Int) (strOfNums [(IntKind.u64.wrap (48 + (Int.tmod (n : Int) 10))) % 256] ++ s) = some r ∧ r.size ≤ s.size + (d + 1) + 1 := by
      obtain ⟨r, hr, hl⟩ := rtext_tot d k (n / 10) (strOfNums [(IntKind.u64.wrap (48 + (Int.tmod (n : Int) 10))) % 256] ++ s) (by omega) (by omega) (by omega) (by rw [ByteArray.size_append, one_size]; omega)
      rw [ByteArray.size_append, one_size] at hl
      exact ⟨r, hr, by omega⟩
    unfold gleberef1_Text.l0
    split
    · rw [Option.bind_some, if_pos (by rw [one_size]; omega), e]
      exact next
    · split
      · rw [Option.bind_some, if_pos (by rw [one_size]; omega), e]
        exact next
      · exact ⟨_, rfl, by omega⟩
theorem rhex_tot : ∀ (d k n : Nat) (s : ByteArray), n < 16 ^ d → d + 2 ≤ k → s.size + d ≤ 200 → ∃ r, gleberef1_hex.l0 k (n : Int) s = some r ∧ r.size ≤ s.size + d + 1
  | 0, k, n, s, hn, hk, hs => by
    obtain ⟨k, rfl⟩ : ∃ j, k = j + 2 := ⟨k - 2, by omega⟩
    have hn0 : n = 0 := by simpa using hn
    subst hn0
    obtain ⟨b, hb, eb⟩ := and_15 ((0 : Nat) : Int)
    unfold gleberef1_hex.l0
    rw [if_neg (by omega), eb]
    split
    · rw [if_pos (by omega), if_pos (by omega), Option.bind_some, if_pos (by rw [one_size]; omega)]
      have e : ((0 : Nat) : Int) / 16 = 0 := by decide
      rw [e]
      unfold gleberef1_hex.l0
      rw [if_neg (by omega), if_neg (ne_nil (by rw [ByteArray.size_append, one_size]; omega))]
      exact ⟨_, rfl, by rw [ByteArray.size_append, one_size]; omega⟩
    · exact ⟨_, rfl, by omega⟩
  | d + 1, k, n, s, hn, hk, hs => by
    obtain ⟨k, rfl⟩ : ∃ j, k = j + 1 := ⟨k - 1, by omega⟩
    have h10 : 16 ^ (d + 1) = 16 ^ d * 16 := Nat.pow_succ _ _
    obtain ⟨b, hb, eb⟩ := and_15 (n : Int)
    have e : (n : Int) / 16 = ((n / 16 : Nat) : Int) := by omega
    have next : ∀ t : ByteArray, t.size = 1 → ∃ r, gleberef1_hex.l0 k ((n / 16 : Nat) : Int) (t ++ s) = some r ∧ r.size ≤ s.size + (d + 1) + 1 := by
      intro t ht
      obtain ⟨r, hr, hl⟩ := rhex_tot d k (n / 16) (t ++ s) (by omega) (by omega) (by rw [ByteArray.size_append, ht]; omega)
      rw [ByteArray.size_append, ht] at hl
      exact ⟨r, hr, by omega⟩
    unfold gleberef1_hex.l0
    rw [eb]
    split
    · rw [if_pos (by omega), if_pos (by omega), Option.bind_some, if_pos (by rw [one_size]; omega), e]
      exact next _ (one_size _)
    · split
      · rw [if_pos (by omega), if_pos (by omega), Option.bind_some, if_pos (by rw [one_size]; omega), e]
        exact next _ (one_size _)
      · exact ⟨_, rfl, by omega⟩
theorem group_tot (a b i : Int) : ∃ g : Nat, g < 65536 ∧ gleberef1_group.f a b i = some (g : Int) := by
  unfold gleberef1_group.f
  split
  · rw [if_pos (wrap_nn _)]
    obtain ⟨g, hg, e⟩ := and_word (shr .u64 a (IntKind.u64.wrap (wrap64 (48 - (wrap64 (16 * i))))))
    exact ⟨g, hg, by rw [e]⟩
  · rw [if_pos (wrap_nn _)]
    obtain ⟨g, hg, e⟩ := and_word (shr .u64 b (IntKind.u64.wrap (wrap64 (48 - (wrap64 (16 * (wrap64 (i - 4))))))))
    exact ⟨g, hg, by rw [e]⟩
theorem zeros_in {a b : Int} {d i : Nat} (hi : i + d + 1 = 8)
    (out : ∀ (k : Nat) (at_ long : Int), 20 * d + 20 ≤ k → 1 ≤ long → long ≤ 8 → ∃ r : Int × Int, gleberef1_zeros.l0 k at_ long ((i + 1 : Nat) : Int) a b = some r ∧ 1 ≤ r.2 ∧ r.2 ≤ 8) :
    ∀ (e j k : Nat) (at_ long : Int), j + e = 8 → i ≤ j → 20 * d + 21 + e ≤ k → 1 ≤ long → long ≤ 8 → ∃ r : Int × Int, gleberef1_zeros.l1 k at_ long (i : Int) (j : Int) a b = some r ∧ 1 ≤ r.2 ∧ r.2 ≤ 8 := by
  intro e
  induction e with
  | zero =>
    intro j k at_ long hj hij hk h1 h8
    obtain ⟨k, rfl⟩ : ∃ m, k = m + 1 := ⟨k - 1, by omega⟩
    unfold gleberef1_zeros.l1
    rw [if_neg (by omega), w64 (n := (i : Int) + 1) (by omega) (by omega), w64 (n := (j : Int) - i) (by omega) (by omega), show ((i : Int) + 1) = ((i + 1 : Nat) : Int) by omega]
    split
    · exact out k _ _ (by omega) (by omega) (by omega)
    · exact out k _ _ (by omega) h1 h8
  | succ e ih =>
    intro j k at_ long hj hij hk h1 h8
    obtain ⟨k, rfl⟩ : ∃ m, k = m + 1 := ⟨k - 1, by omega⟩
    obtain ⟨g, hg, eg⟩ := group_tot a b (j : Int)
    unfold gleberef1_zeros.l1
    rw [if_pos (by omega), eg, Option.bind_some, w64 (n := (i : Int) + 1) (by omega) (by omega), w64 (n := (j : Int) - i) (by omega) (by omega), w64 (n := (j : Int) + 1) (by omega) (by omega), show ((i : Int) + 1) = ((i + 1 : Nat) : Int) by omega]
    split
    · rw [show ((j : Int) + 1) = ((j + 1 : Nat) : Int) by omega]
      exact ih (j + 1) k at_ long (by omega) (by omega) (by omega) h1 h8
    · split
      · exact out k _ _ (by omega) (by omega) (by omega)
      · exact out k _ _ (by omega) h1 h8
theorem zeros_tot (a b : Int) : ∀ (d i k : Nat) (at_ long : Int), i + d = 8 → 20 * d + 20 ≤ k → 1 ≤ long → long ≤ 8 → ∃ r : Int × Int, gleberef1_zeros.l0 k at_ long (i : Int) a b = some r ∧ 1 ≤ r.2 ∧ r.2 ≤ 8 := by
  intro d
  induction d with
  | zero =>
    intro i k at_ long hi hk h1 h8
    obtain ⟨k, rfl⟩ : ∃ m, k = m + 1 := ⟨k - 1, by omega⟩
    unfold gleberef1_zeros.l0
    rw [if_neg (by omega)]
    exact ⟨_, rfl, h1, h8⟩
  | succ d ih =>
    intro i k at_ long hi hk h1 h8
    obtain ⟨k, rfl⟩ : ∃ m, k = m + 1 := ⟨k - 1, by omega⟩
    unfold gleberef1_zeros.l0
    rw [if_pos (by omega)]
    exact zeros_in (d := d) (i := i) (by omega) (fun k at_ long hk h1 h8 => ih (i + 1) k at_ long (by omega) hk h1 h8) (d + 1) i k at_ long (by omega) (Nat.le_refl _) (by omega) h1 h8
theorem print_l0_tot (V a b at_ long : Int) (h1 : 1 ≤ long) (h8 : long ≤ 8) : ∀ (d i k : Nat) (s : ByteArray), 8 ≤ i + d → i ≤ 16 → 2 * d + 20 ≤ k → s.size + 7 * d ≤ 90 →
    ∃ r, gleberef1_Print.l0 k at_ long s (i : Int) V a b = some r ∧ r.size ≤ s.size + 7 * d := by
  intro d
  induction d with
  | zero =>
    intro i k s hi hi2 hk hs
    obtain ⟨k, rfl⟩ : ∃ m, k = m + 1 := ⟨k - 1, by omega⟩
    unfold gleberef1_Print.l0
    rw [if_neg (by omega)]
    exact ⟨_, rfl, by omega⟩
  | succ d ih =>
    intro i k s hi hi2 hk hs
    obtain ⟨k, rfl⟩ : ∃ m, k = m + 2 := ⟨k - 2, by omega⟩
    unfold gleberef1_Print.l0
    split
    · rename_i hi8
      have ej : ∀ c : Bool, ∃ r, gleberef1_Print.j1 (k + 1) at_ long s (i : Int) c V a b = some r ∧ r.size ≤ s.size + 7 * (d + 1) := by
        intro c
        obtain ⟨g, hg, eg⟩ := group_tot a b (i : Int)
        obtain ⟨t, et, ht⟩ := rhex_tot 4 k g (⟨#[]⟩ : ByteArray) (by omega) (by omega) (by decide)
        have et' : gleberef1_hex.f k (g : Int) = some t := et
        have ht' : t.size ≤ 5 := ht
        unfold gleberef1_Print.j1
        simp only [eg, et', Option.bind_some]
        rw [w64 (by omega) (by omega), show ((i : Int) + 1) = ((i + 1 : Nat) : Int) by omega]
        have dot : (⟨#[58]⟩ : ByteArray).size = 1 := rfl
        split
        · rw [if_pos (by omega), if_pos (by rw [ByteArray.size_append, dot]; omega)]
          obtain ⟨r, hr, hl⟩ := ih (i + 1) k ((s ++ (⟨#[58]⟩ : ByteArray)) ++ t) (by omega) (by omega) (by omega) (by rw [ByteArray.size_append, ByteArray.size_append, dot]; omega)
          rw [ByteArray.size_append, ByteArray.size_append, dot] at hl
          exact ⟨r, hr, by omega⟩
        · rw [if_pos (by omega)]
          obtain ⟨r, hr, hl⟩ := ih (i + 1) k (s ++ t) (by omega) (by omega) (by omega) (by rw [ByteArray.size_append]; omega)
          rw [ByteArray.size_append] at hl
          exact ⟨r, hr, by omega⟩
      split
      · rw [if_pos (by omega)]
        obtain ⟨m, hm⟩ : ∃ m : Nat, long = (m : Int) := ⟨long.toNat, by omega⟩
        subst hm
        rw [w64 (n := (i : Int) + m) (by omega) (by omega), w64 (n := (i : Int) + m - 1) (by omega) (by omega), w64 (by omega) (by omega), show ((i : Int) + m - 1 + 1) = ((i + m : Nat) : Int) by omega]
        have dot : (⟨#[58, 58]⟩ : ByteArray).size = 2 := rfl
        obtain ⟨r, hr, hl⟩ := ih (i + m) (k + 1) (s ++ (⟨#[58, 58]⟩ : ByteArray)) (by omega) (by omega) (by omega) (by rw [ByteArray.size_append, dot]; omega)
        rw [ByteArray.size_append, dot] at hl
        exact ⟨r, hr, by omega⟩
      · split
        · exact ej _
        · rename_i hne
          have hs1 : 1 ≤ s.size := by
            rcases Nat.eq_zero_or_pos s.size with h | h
            · exact absurd (by rw [ByteArray.toList_eq]; exact List.eq_nil_of_length_eq_zero h) hne
            · exact h
          rw [w64 (n := (s.size : Int) - 1) (by omega) (by omega), if_pos (by omega), if_pos (by omega)]
          exact ej _
    · exact ⟨_, rfl, by omega⟩
theorem rprint_tot {V : Int} {B q : Nat} (h : Kd' V B) (hq : q < 2 ^ B) : ∃ r, gleberef1_Print.f 300 V (H q) (L q) = some r ∧ r.size ≤ 60 := by
  rcases h with ⟨rfl, rfl⟩ | ⟨rfl, rfl⟩
  · have hM : M64 = 18446744073709551616 := rfl
    have hq' : q < 4294967296 := hq
    have e1 : H q = 0 := by unfold H; rw [hM]; omega
    have e2 : L q = (q : Int) := by unfold L; rw [hM]; omega
    rw [e1, e2]
    have dig : ∀ n : Nat, n < 256 → ∃ t, gleberef1_Text.f 300 (n : Int) = some t ∧ t.size ≤ 4 := fun n hn => rtext_tot 3 300 n (⟨#[]⟩ : ByteArray) (by omega) (by decide) (by decide) (by decide)
    obtain ⟨t1, h1, l1⟩ := dig (q / 16777216) (by omega)
    obtain ⟨b2, hb2, eb2⟩ := and_byte ((q : Int) / 65536)
    obtain ⟨b3, hb3, eb3⟩ := and_byte ((q : Int) / 256)
    obtain ⟨b4, hb4, eb4⟩ := and_byte (q : Int)
    obtain ⟨t2, h2, l2⟩ := dig b2 hb2
    obtain ⟨t3, h3, l3⟩ := dig b3 hb3
    obtain ⟨t4, h4, l4⟩ := dig b4 hb4
    have dot : (⟨#[46]⟩ : ByteArray).size = 1 := rfl
    have eok : PPAB.gleberef1_Ok.f 4 0 (q : Int) = some true := by
      unfold PPAB.gleberef1_Ok.f PPH.gleberef1_Ok.f
      rw [if_neg (by decide), if_pos rfl, if_pos rfl, decide_eq_true (by omega)]
    unfold gleberef1_Print.f
    rw [eok, Option.bind_some, if_pos rfl, if_pos rfl, show ((q : Int) / 16777216) = ((q / 16777216 : Nat) : Int) by omega, h1, Option.bind_some, eb2, h2, eb3, h3, eb4, h4]
    simp only [Option.bind_some, ByteArray.size_append, dot]
    rw [if_pos (by omega), if_pos (by omega), if_pos (by omega), if_pos (by omega), if_pos (by omega), if_pos (by omega)]
    exact ⟨_, rfl, by simp only [ByteArray.size_append, dot]; omega⟩
  · have eok : PPAB.gleberef1_Ok.f 6 (H q) (L q) = some true := by
      unfold PPAB.gleberef1_Ok.f PPH.gleberef1_Ok.f
      rw [if_pos rfl]
    obtain ⟨r, hr, z1, z8⟩ := zeros_tot (H q) (L q) 8 0 300 (-1) 1 (by decide) (by decide) (by decide) (by decide)
    have hr' : gleberef1_zeros.f 300 (H q) (L q) = some r := hr
    obtain ⟨t, ht, hl⟩ := print_l0_tot 6 (H q) (L q) r.1 r.2 z1 z8 8 0 300 (⟨#[]⟩ : ByteArray) (by decide) (by decide) (by decide) (by decide)
    unfold gleberef1_Print.f
    rw [eok, Option.bind_some, if_pos rfl, if_neg (by decide), hr', Option.bind_some]
    refine ⟨t, ht, ?_⟩
    have h0 : (⟨#[]⟩ : ByteArray).size = 0 := rfl
    rw [h0] at hl
    omega
end Go.Proofs.YtfnacgojmdbjmaaDoor
end

section
/- glebelaw2.Text answers, with no long text; the law AddrBack. Plain: over the printed functions. -/
namespace Go.Proofs.YtfnacgojmdbjmaaDoor
open Go.Det Go.RowKit Go.Proofs.YtfnacgojmdbjmaaDoorW.PrintWords Go.Proofs.YtfnacgojmdbjmaaDoor.PPAB
open Go.Proofs.YtfnacgojmdbjmaaDoor.PPH (w64 Kd' H L)
set_option maxRecDepth 100000
theorem and_i (m : Int) (c : Nat) (hc : c ≤ 255) : ∃ b : Nat, b ≤ c ∧ Go.bits .and .i64 m (c : Int) = (b : Int) := by
  have hb : (BitVec.ofInt 64 m &&& BitVec.ofInt 64 (c : Int)).toNat ≤ c := by
    rw [BitVec.toNat_and]
    have : (BitVec.ofInt 64 (c : Int)).toNat = c := by
      rw [BitVec.toNat_ofInt]; omega
    rw [this]
    exact Nat.and_le_right
  refine ⟨(BitVec.ofInt 64 m &&& BitVec.ofInt 64 (c : Int)).toNat, hb, ?_⟩
  have hw := wrap_i64 (x := ((BitVec.ofInt 64 m &&& BitVec.ofInt 64 (c : Int)).toNat : Int)) ⟨by omega, by omega⟩
  exact hw
theorem tmod_nat (a b : Nat) : Int.tmod (a : Int) (b : Int) = ((a % b : Nat) : Int) := rfl
theorem rd_size {xs : List ByteArray} (h : ∀ p ∈ xs, p.size ≤ 8) (i : Int) : (rdOf ByteArray.empty xs i).size ≤ 8 := by
  unfold rdOf
  rw [List.getD_eq_getElem?_getD]
  cases e : xs[i.toNat]? with
  | none => exact Nat.zero_le _
  | some p => exact h p (List.mem_of_getElem? e)
theorem text_j2 {v : Int} {l : List Int} {xs : List ByteArray} (h16 : xs.length = 16) (h8 : ∀ p ∈ xs, p.size ≤ 8) {i k : Nat} (hil : i < l.length) (hi : i < 100) {s : ByteArray} (hs : s.size ≤ 300) {B : Nat}
    (next : ∀ t : ByteArray, t.size ≤ s.size + 8 → ∃ r, glebelaw2_Text.l0 k v l t xs ((i + 1 : Nat) : Int) = some r ∧ r.size ≤ B) (n : Nat) (hn : n ≤ s.size) :
    ∃ r, glebelaw2_Text.j2 (k + 1) v l s xs (i : Int) (n : Int) = some r ∧ r.size ≤ B := by
  obtain ⟨b, hb, eb⟩ := and_i (rd l (i : Int)) 255 (by decide)
  obtain ⟨c, hc, ec⟩ := and_i ((rd l (i : Int)) / 65536) 1 (by decide)
  have eb' : Go.bits .and .i64 (rd l (i : Int)) 255 = (b : Int) := eb
  have ec' : Go.bits .and .i64 ((rd l (i : Int)) / 65536) 1 = (c : Int) := ec
  obtain ⟨m, hm⟩ : ∃ m : Nat, m = s.size - n := ⟨_, rfl⟩
  have hd : c % (m + 1) ≤ m := by have := Nat.mod_lt c (show 0 < m + 1 by omega); omega
  unfold glebelaw2_Text.j2
  rw [eb', ec', h16, w64 (n := (s.size : Int) - n) (by omega) (by omega), show ((s.size : Int) - n) = (m : Int) by omega, w64 (n := (m : Int) + 1) (by omega) (by omega), show ((m : Int) + 1) = ((m + 1 : Nat) : Int) by omega,
    tmod_nat, tmod_nat, w64 (n := (n : Int) + ((c % (m + 1) : Nat) : Int)) (by omega) (by omega), w64 (n := (i : Int) + 1) (by omega) (by omega), show ((i : Int) + 1) = ((i + 1 : Nat) : Int) by omega]
  have hr := rd_size h8 ((b % 16 : Nat) : Int)
  have e1 : (s.extract 0 ((n : Int).toNat)).size ≤ n := by rw [ByteArray.size_extract]; omega
  have e2 : (s.extract ((n : Int) + ((c % (m + 1) : Nat) : Int)).toNat s.size).size ≤ s.size - n := by rw [ByteArray.size_extract]; omega
  rw [if_pos (by omega), if_pos (by omega), if_pos (by omega), if_pos (by omega), if_neg (by omega), if_pos (by omega), if_pos (by omega), if_pos (by omega), if_neg (by omega), if_pos (by omega), if_pos (by omega), if_pos (by rw [ByteArray.size_append]; omega)]
  exact next _ (by rw [ByteArray.size_append, ByteArray.size_append]; omega)
theorem gt_l0 {v : Int} {l : List Int} {xs : List ByteArray} (h16 : xs.length = 16) (h8 : ∀ p ∈ xs, p.size ≤ 8) : ∀ (d i k : Nat) (s : ByteArray), i + d = 12 → 3 * d + 5 ≤ k → s.size + 8 * d ≤ 170 →
    ∃ r, glebelaw2_Text.l0 k v l s xs (i : Int) = some r ∧ r.size ≤ s.size + 8 * d := by
  intro d
  induction d with
  | zero =>
    intro i k s hi hk hs
    obtain ⟨k, rfl⟩ : ∃ m, k = m + 2 := ⟨k - 2, by omega⟩
    unfold glebelaw2_Text.l0
    rw [decide_eq_false (by omega)]
    split
    · unfold glebelaw2_Text.j1
      rw [if_neg (by decide)]
      exact ⟨_, rfl, by omega⟩
    · unfold glebelaw2_Text.j1
      rw [if_neg (by decide)]
      exact ⟨_, rfl, by omega⟩
  | succ d ih =>
    intro i k s hi hk hs
    obtain ⟨k, rfl⟩ : ∃ m, k = m + 3 := ⟨k - 3, by omega⟩
    unfold glebelaw2_Text.l0
    split
    · rename_i hlt
      have hil : i < l.length := by omega
      have next : ∀ t : ByteArray, t.size ≤ s.size + 8 → ∃ r, glebelaw2_Text.l0 k v l t xs ((i + 1 : Nat) : Int) = some r ∧ r.size ≤ s.size + 8 * (d + 1) := by
        intro t ht
        obtain ⟨r, hr, hl⟩ := ih (i + 1) k t (by omega) (by omega) (by omega)
        exact ⟨r, hr, by omega⟩
      unfold glebelaw2_Text.j1
      rw [decide_eq_true (by omega), if_pos rfl, if_pos (by omega), if_pos (by omega), w64 (n := (s.size : Int) + 1) (by omega) (by omega), if_neg (by omega)]
      split
      · exact text_j2 h16 h8 hil (by omega) (by omega) next s.size (Nat.le_refl _)
      · obtain ⟨b, hb, eb⟩ := and_i ((rd l (i : Int)) / 256) 255 (by decide)
        have eb' : Go.bits .and .i64 ((rd l (i : Int)) / 256) 255 = (b : Int) := eb
        rw [eb', show ((s.size : Int) + 1) = ((s.size + 1 : Nat) : Int) by omega, tmod_nat]
        exact text_j2 h16 h8 hil (by omega) (by omega) next (b % (s.size + 1)) (by have := Nat.mod_lt b (show 0 < s.size + 1 by omega); omega)
    · unfold glebelaw2_Text.j1
      rw [if_neg (by decide)]
      exact ⟨_, rfl, by omega⟩
theorem text_tot {v a b : Int} {l : List Int} (ha : 0 ≤ a) (ha2 : a < 18446744073709551616) (hb : 0 ≤ b) (hb2 : b < 18446744073709551616) : ∃ r, glebelaw2_Text.f 300 v a b l = some r ∧ r.size ≤ 200 := by
  obtain ⟨V, B, q, h, hq, e⟩ := PPH.addr_at (k := 300) (by decide) v a b ha ha2 hb hb2
  have e' : PPAB.glebelaw2_Addr.f v a b = some (V, H q, L q) := e
  obtain ⟨s, hs, hl⟩ := rprint_tot h hq
  unfold glebelaw2_Text.f
  rw [e', Option.bind_some, hs, Option.bind_some]
  refine Exists.elim (gt_l0 (v := v) (l := l) (xs := _) (by rfl) (by decide) 12 0 300 s (by decide) (by decide) (by omega)) fun r hr => ⟨r, hr.1, by omega⟩
theorem zaddr_eq (x y z : Int) : (x == x && (y == y && z == z)) = true := by simp
theorem addrBack_at (v a b : Int) (l : List Int) (ha : (Lit.int .u64 a).wf = true) (hb : (Lit.int .u64 b).wf = true) : ∃ k, glebelaw2_AddrBack.f k v a b l = some true := by
  have e1 : IntKind.u64.min = 0 := by decide
  have e2 : IntKind.u64.max = 18446744073709551615 := by decide
  have ra : IntKind.u64.min ≤ a ∧ a ≤ IntKind.u64.max := by simpa [Lit.wf] using ha
  have rb : IntKind.u64.min ≤ b ∧ b ≤ IntKind.u64.max := by simpa [Lit.wf] using hb
  rw [e1, e2] at ra rb
  replace ra : 0 ≤ a ∧ a < 18446744073709551616 := ⟨ra.1, by omega⟩
  replace rb : 0 ≤ b ∧ b < 18446744073709551616 := ⟨rb.1, by omega⟩
  refine ⟨301, ?_⟩
  obtain ⟨V, B, q, h, hq, e⟩ := PPH.addr_at (k := 300) (by decide) v a b ra.1 ra.2 rb.1 rb.2
  have e' : PPAB.glebelaw2_Addr.f v a b = some (V, H q, L q) := e
  obtain ⟨s, _, es, ep⟩ := back_at h hq
  have es' : PPAB.addr_Print.f V (H q) (L q) = some ⟨⟨s⟩⟩ := es
  have ep' : PPAB.addr_Parse.f ⟨⟨s⟩⟩ = some (V, H q, L q, true) := ep
  have hj : ∀ k, k = 300 → glebelaw2_AddrBack.j0 (k + 1) v a b l false = some true := by
    intro k hk
    obtain ⟨t, et, hl⟩ := text_tot (v := v) (l := l) ra.1 ra.2 rb.1 rb.2
    obtain ⟨r, er, hr⟩ := parse_tot hl
    have er' : PPAB.addr_Parse.f t = some r := er
    unfold glebelaw2_AddrBack.j0
    dsimp only
    rw [if_neg (by decide), hk, et, Option.bind_some, er', Option.bind_some]
    rcases hr with ⟨V2, B2, q2, h2, hq2, rfl⟩ | rfl
    · obtain ⟨u, _, eu, ew⟩ := back_at h2 hq2
      have eu' : PPAB.addr_Print.f V2 (H q2) (L q2) = some ⟨⟨u⟩⟩ := eu
      have ew' : PPAB.addr_Parse.f ⟨⟨u⟩⟩ = some (V2, H q2, L q2, true) := ew
      have eo : PPAB.addr_Ok.f V2 (H q2) (L q2) = some true := by
        unfold PPAB.addr_Ok.f PPH.addr_Ok.f okF
        rcases h2 with ⟨rfl, rfl⟩ | ⟨rfl, rfl⟩
        · have hM : M64 = 18446744073709551616 := rfl
          have hq' : q2 < 4294967296 := hq2
          have e1 : H q2 = 0 := by unfold H; rw [hM]; omega
          have e2 : L q2 = (q2 : Int) := by unfold L; rw [hM]; omega
          rw [e1, e2, if_neg (by decide), if_pos rfl, if_pos rfl, decide_eq_true (by omega)]
        · rw [if_pos rfl]
      rw [if_pos rfl, eu', Option.bind_some, ew', Option.bind_some, if_pos rfl, if_pos (zaddr_eq _ _ _), eu', Option.bind_some, if_pos rfl, eo, Option.bind_some, if_pos rfl]
      rfl
    · rw [if_neg (by decide), if_pos (by decide)]
      rfl
  unfold glebelaw2_AddrBack.f
  rw [e', Option.bind_some, es', Option.bind_some, ep', Option.bind_some, if_pos rfl, if_neg (by simp), es', Option.bind_some]
  simpa using hj 300 rfl
end Go.Proofs.YtfnacgojmdbjmaaDoor
end

section
/- AddrBack: at every start, whatever the numbers and the row, the call returns true; the conditions: the tables that the row lists read as the program lays them. -/
namespace Go.Proofs.YtfnacgojmdbjmaaDoor
open Go.ChangeShapes Go.WideShapes Go.ChangeAt Go.RowKit Go.Det Go.Proofs.YtfnacgojmdbjmaaDoor.PPAB Go.Proofs.YtfnacgojmdbjmaaDoorW.PrintWords Go.Proofs.YtfnacgojmdbjmaaDoorW.PrintLast Go.Proofs.YtfnacgojmdbjmaaDoorW.PrintMore
set_option maxRecDepth 100000
set_option linter.unusedVariables false
theorem laidOutT : laidOutB Tryd.prog = true := by kernel_rfl
def IsRow (k : IntKind) (w : World) (a : Option Addr) (len cap : Nat) (zs : List Int) : Prop :=
  (a = none ∧ len = 0 ∧ cap = 0 ∧ zs = []) ∨
  ∃ x, a = some x ∧ len ≤ cap ∧ cap ≤ maxLen ∧ zs.length = cap ∧ (∀ i, i < zs.length → w.cell? (x.add i) = some (.int k (zs.getD i 0))) ∧ ∀ n ∈ zs, (Lit.int k n).wf = true
theorem addrBack_calls (a0 : Int) (a1 : Int) (a2 : Int) (a3 : Option Addr) (len3 cap3 : Nat) (z3 : List Int) (w : World) (w1 : (Lit.int .u64 a1).wf = true) (w2 : (Lit.int .u64 a2).wf = true) (w3 : IsRow .i64 w a3 len3 cap3 z3) (hG : GoodW w) :
    Calls Tryd.prog 10 #[.int .i64 a0, .int .u64 a1, .int .u64 a2, .slice a3 len3 cap3] w fun e w' => e = .returned (.bool true) ∧ Below w.heap.size w w' := by
  obtain ⟨l3, rfl, hr3, hm3, hw3, hc3⟩ := ReadsInt.ofRowC w3
  obtain ⟨k, h⟩ := addrBack_at a0 a1 a2 l3 w1 w2
  refine (glebelaw2_AddrBack.calls k a0 a1 a2 _ _ l3 true w (Kd.C_of_reads (d := (0 : Int)) (h1 := fun _ => rfl) hr3) hc3 hG h).mono ?_
  rintro e w' ⟨rfl, hd⟩
  exact ⟨rfl, hd⟩
theorem addrBack_lifted (os : Os) (started : os.Started) (H : Type) (enc : TypeId × Value → H) :
    ReturnsInHanded {} Tryd.checked os 10 .any (fun w args => (Rows.addrBackSpec.pre enc Tryd.prog Tryd.f10 [] false w args ∧ laidMetH Tryd.prog Rows.addrBackRow.laid w) ∧ sizedMet enc Tryd.prog Tryd.f10 (OpenSpec.ofChange Rows.addrBackSpec) false w args)
      (Rows.addrBackSpec.post enc Tryd.prog Tryd.f10 false true false false) := by
  refine wrap_shaped (C := Tryd.checked) (X := fun w _ => laidMetH Tryd.prog Rows.addrBackRow.laid w) (fun _ _ _ hh h => h.of_heap hh) dt_own started (by kernel_rfl) Tryd.func10
    (ChangeSpec.witness_shaped (enc := enc) (C := Tryd.checked) (os := os) (X := fun w _ => laidMetH Tryd.prog Rows.addrBackRow.laid w) false (World.laidAll Tryd.prog os laidA) #[.int .i64 0, .int .u64 0, .int .u64 0, .slice none 0 0] 8 (World.laidAll_os _ _ _) (World.shaped_of_ZipB (by kernel_rfl) (by kernel_rfl)) (by kernel_rfl) (by kernel_rfl) (by kernel_rfl) (door_metA os _)) ?_
  intro W base args ds gs before hval0 hW hL hsh
  obtain ⟨t0, t2, t5, L, hs⟩ := laidA_at hL
  have hG : GoodW W := ⟨⟨t0, t2, t5, L⟩, hs, Len.of_shape hsh hs⟩
  have hval : ∀ (j : Nat) t v, Tryd.f10.params[j]? = some t → args[j]? = some v → Value.okWide Tryd.prog W .any base t v := hval0
  have hW' := hW
  obtain ⟨p, q, hA0, hV, rfl, hfz, hnd⟩ := hW
  have hA : DataW.TrodAll enc Tryd.prog W 0 (fun _ => true) true Tryd.f10.params.toList args.toList ds p := hA0
  rw [Tryd.params10] at hA hval
  obtain ⟨v0, vs0, d0, ds0, p0, q0, hargs, rfl, rfl, h0, r0⟩ := trodAll_cons hA
  obtain ⟨v1, vs1, d1, ds1, p1, q1, rfl, rfl, rfl, h1, r1⟩ := trodAll_cons r0
  obtain ⟨v2, vs2, d2, ds2, p2, q2, rfl, rfl, rfl, h2, r2⟩ := trodAll_cons r1
  obtain ⟨v3, vs3, d3, ds3, p3, q3, rfl, rfl, rfl, h3, r3⟩ := trodAll_cons r2
  obtain ⟨rfl, rfl, rfl⟩ := trodAll_nil r3
  obtain rfl : args = #[v0, v1, v2, v3] := by cases args; simp_all
  obtain ⟨rfl, rfl⟩ := trodVars_none hV
  obtain ⟨a0, rfl, rfl, rfl, w0⟩ := open_int Tryd.underlying3 (hval 0 3 v0 rfl rfl) h0
  obtain ⟨a1, rfl, rfl, rfl, w1⟩ := open_int Tryd.underlying27 (hval 1 27 v1 rfl rfl) h1
  obtain ⟨a2, rfl, rfl, rfl, w2⟩ := open_int Tryd.underlying27 (hval 2 27 v2 rfl rfl) h2
  obtain ⟨a3, len3, cap3, rfl⟩ := okWide_slice Tryd.underlying55 (hval 3 55 v3 rfl rfl)
  have k3 := h3
  have lt3 : ∀ x ∈ p3, x.block < W.heap.size := by obtain ⟨m, hm⟩ := k3; exact DataW.trod_lt m _ _ _ hm
  obtain ⟨z3, w3⟩ : ∃ zs, IsRow .i64 W a3 len3 cap3 zs := by
    obtain ⟨fuel, hf⟩ := h3
    rcases open_ints Tryd.underlying55 Tryd.underlying3 (by kernel_rfl) hf with ⟨hcs, _⟩ | ⟨x, l, c, zs, hcs, _, hl, hm, hz, _, hcell, hwz⟩
    · simp [Value.cells] at hcs
      obtain ⟨rfl, rfl, rfl⟩ := hcs
      exact ⟨[], .inl ⟨rfl, rfl, rfl, rfl⟩⟩
    · simp [Value.cells] at hcs
      obtain ⟨rfl, rfl, rfl⟩ := hcs
      exact ⟨zs, .inr ⟨_, rfl, hl, hm, by simpa using hz, hcell, hwz⟩⟩
  refine (addrBack_calls a0 a1 a2 a3 len3 cap3 z3 W w1 w2 w3 hG).mono fun e W' ⟨he, bel⟩ => ?_
  subst he
  exact ⟨_, rfl, _, _, _, [], _, [], hW', trodAll_mk1 (shut_bool Tryd.underlying4 _), (trodAll_cons_mk (shut_int Tryd.underlying3 w0) (trodAll_cons_mk (shut_int Tryd.underlying27 w1) (trodAll_cons_mk (shut_int Tryd.underlying27 w2) (trodAll_cons_mk (Below.trod laidOutT (by kernel_rfl) (of_decide_eq_true (by kernel_rfl)) k3 bel lt3) trodAll_mk0)))), rfl, bel.frame _, fun h => by cases h⟩
theorem addrBack_holds : Rows.AddrBackSaid :=
  OpenClaim.holds_of_wide 10 Tryd.f10 rfl rfl rfl rfl rfl rfl rfl ⟨rfl, rfl, rfl, rfl, rfl⟩ rfl rfl rfl rfl rfl (by kernel_rfl) Tryd.func10 (by kernel_rfl)
    (of_decide_eq_true (by kernel_rfl)) (by unfold Func.isWrapper; first | (rw [if_pos (by decide +kernel)]; kernel_rfl) | (rw [if_neg (by decide +kernel)]; exact ⟨rfl, rfl⟩))
    (fun os started H enc _ => addrBack_lifted os started H enc)
theorem addrBack_card_holds : Rows.AddrBackCardSaid :=
  Claim7.holds_tied_plain_at .later [] [.data, .data, .data, .data, .pinned] true (true, "f4485812763653ffca44ca5064ea510697a50d409c0e67ea003c933eb6baadb5") false
    addrBack_holds (fun _ h => by cases h) (by kernel_rfl) (fun _ h => by cases h) addrBack_row_tie rfl ⟨rfl, rfl⟩ (by kernel_rfl) rfl
    (fun f fn hf hfn => by
      obtain rfl : f = 10 := Option.some.inj ((show Tryd.prog.funcNamed "glebe/glebelaw2.AddrBack" = some 10 by kernel_rfl).symm.trans hf) |>.symm
      obtain rfl : fn = Tryd.f10 := (Option.some.inj (Tryd.func10.symm.trans hfn)).symm
      exact ⟨by kernel_rfl, fun j t ht => by
        rw [Tryd.params10] at ht
        have h3 : t = 3 ∨ t = 27 ∨ t = 55 := by
          match j, ht with
          | 0, ht => simp at ht; subst ht; exact .inl rfl
          | 1, ht => simp at ht; subst ht; exact .inr (.inl rfl)
          | 2, ht => simp at ht; subst ht; exact .inr (.inl rfl)
          | 3, ht => simp at ht; subst ht; exact .inr (.inr rfl)
          | j + 4, ht => simp at ht
        rcases h3 with rfl | rfl | rfl
        · exact (show Tryd.prog.wantsStandIn 3 = false by kernel_rfl)
        · exact (show Tryd.prog.wantsStandIn 27 = false by kernel_rfl)
        · exact (show Tryd.prog.wantsStandIn 55 = false by kernel_rfl)⟩)
    (by kernel_rfl)
#print axioms addrBack_card_holds
end Go.Proofs.YtfnacgojmdbjmaaDoor
end
