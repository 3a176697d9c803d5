/- Texts of a proof, joined: words of the print (those that are named here) and printed functions. -/
import Derived.Test.YtfnacgojmdbjmaaGreatDoorRv8
import Derived.Test.YtfnacgojmdbjmaaGreatDoorRv9
set_option linter.unusedSimpArgs false
set_option linter.unusedVariables false

section
/- addr.zeros, addr.text, addr.row, addr.four: what they answer at an address's groups and numbers. Plain. -/
namespace Go.Proofs.YtfnacgojmdbjmaaGreatDoor
open Go.Det Go.RowKit Go.Proofs.YtfnacgojmdbjmaaGreatDoorW.PrintWords Go.Proofs.YtfnacgojmdbjmaaGreatDoor.PPH Go.Proofs.YtfnacgojmdbjmaaGreatDoor.PRD
set_option maxRecDepth 100000
def ZP (l : List Int) (f t : Nat) : Prop := (f = 0 ∧ t = 0) ∨ (f + 2 ≤ t ∧ t ≤ 8 ∧ ∀ k, f ≤ k → k < t → l.getD k 0 = 0)
def zEnd (k : Nat) (l : List Int) (f t i e : Nat) : Option (Int × Int) :=
  if (wrap64 ((e : Int) - (i : Int))) > (wrap64 ((t : Int) - (f : Int))) then (if (wrap64 ((e : Int) - (i : Int))) > 1 then (addr_zeros.l0 k l (i : Int) (e : Int) 8 (wrap64 ((i : Int) + 1))) else (addr_zeros.l0 k l (f : Int) (t : Int) 8 (wrap64 ((i : Int) + 1)))) else (addr_zeros.l0 k l (f : Int) (t : Int) 8 (wrap64 ((i : Int) + 1)))
theorem zEnd_at {k : Nat} {l : List Int} {f t i e : Nat} (h : ZP l f t) (hi : i ≤ e) (he : e ≤ 8) (hi8 : i < 8) (hz : ∀ k, i ≤ k → k < e → l.getD k 0 = 0)
    (ih : ∀ f t, ZP l f t → ∃ f' t' : Nat, ZP l f' t' ∧ addr_zeros.l0 k l (f : Int) (t : Int) 8 ((i + 1 : Nat) : Int) = some ((f' : Int), (t' : Int))) :
    ∃ f' t' : Nat, ZP l f' t' ∧ zEnd k l f t i e = some ((f' : Int), (t' : Int)) := by
  have ht : t ≤ 8 := by rcases h with ⟨_, rfl⟩ | h; omega; omega
  have hf : f ≤ t := by rcases h with ⟨rfl, rfl⟩ | h; omega; omega
  have w1 : wrap64 ((e : Int) - (i : Int)) = ((e - i : Nat) : Int) := by rw [w64 (by omega) (by omega)]; omega
  have w2 : wrap64 ((t : Int) - (f : Int)) = ((t - f : Nat) : Int) := by rw [w64 (by omega) (by omega)]; omega
  have w3 : wrap64 ((i : Int) + 1) = ((i + 1 : Nat) : Int) := by rw [w64 (by omega) (by omega)]; omega
  unfold zEnd
  rw [w1, w2, w3]
  split
  · split
    · exact ih i e (.inr ⟨by omega, he, hz⟩)
    · exact ih f t h
  · exact ih f t h
theorem zInner {l : List Int} (hl : l.length = 8) {i : Nat} (hi8 : i < 8) {K : Nat} (ih : ∀ k, K ≤ k → ∀ f t, ZP l f t → ∃ f' t' : Nat, ZP l f' t' ∧ addr_zeros.l0 k l (f : Int) (t : Int) 8 ((i + 1 : Nat) : Int) = some ((f' : Int), (t' : Int))) :
    ∀ (m e k f t : Nat), e + m = 8 → i ≤ e → (∀ k, i ≤ k → k < e → l.getD k 0 = 0) → m + 1 + K ≤ k → ZP l f t → ∃ f' t' : Nat, ZP l f' t' ∧ addr_zeros.l1 k l (f : Int) (t : Int) (i : Int) (e : Int) 8 (i : Int) = some ((f' : Int), (t' : Int)) := by
  intro m
  induction m with
  | zero =>
    intro e k f t he hi hz hk h
    obtain ⟨k, rfl⟩ : ∃ j, k = j + 1 := ⟨k - 1, by omega⟩
    unfold addr_zeros.l1
    rw [if_neg (by rw [hl]; omega)]
    exact zEnd_at h hi (by omega) hi8 hz (ih k (by omega))
  | succ m im =>
    intro e k f t he hi hz hk h
    obtain ⟨k, rfl⟩ : ∃ j, k = j + 1 := ⟨k - 1, by omega⟩
    unfold addr_zeros.l1
    rw [if_pos (by rw [hl]; omega), if_pos (by omega)]
    have w : wrap64 ((e : Int) + 1) = ((e + 1 : Nat) : Int) := by rw [w64 (by omega) (by omega)]; omega
    split
    · rename_i hr
      rw [w]
      refine im (e + 1) k f t (by omega) (by omega) (fun j h1 h2 => ?_) (by omega) h
      by_cases hj : j = e
      · subst hj
        unfold rd at hr
        rwa [Int.toNat_natCast] at hr
      · exact hz j h1 (by omega)
    · exact zEnd_at h hi (by omega) hi8 hz (ih k (by omega))
theorem zOuter {l : List Int} (hl : l.length = 8) : ∀ (d i k f t : Nat), i + d = 8 → 12 * d + 2 ≤ k → ZP l f t → ∃ f' t' : Nat, ZP l f' t' ∧ addr_zeros.l0 k l (f : Int) (t : Int) 8 (i : Int) = some ((f' : Int), (t' : Int)) := by
  intro d
  induction d with
  | zero =>
    intro i k f t hi hk h
    obtain ⟨k, rfl⟩ : ∃ j, k = j + 1 := ⟨k - 1, by omega⟩
    unfold addr_zeros.l0
    rw [if_neg (by omega)]
    exact ⟨f, t, h, rfl⟩
  | succ d ih =>
    intro i k f t hi hk h
    obtain ⟨k, rfl⟩ : ∃ j, k = j + 1 := ⟨k - 1, by omega⟩
    unfold addr_zeros.l0
    rw [if_pos (by omega)]
    exact zInner hl (i := i) (by omega) (K := 12 * d + 2) (fun k hk f t h => ih (i + 1) k f t (by omega) hk h) (8 - i) i k f t (by omega) (Nat.le_refl _) (fun j h1 h2 => by omega) (by omega) h
theorem zpairs_mem {f t : Nat} (h : (f = 0 ∧ t = 0) ∨ (f + 2 ≤ t ∧ t ≤ 8)) : ((f : Int), (t : Int)) ∈ zpairs := by
  have key : ∀ f : Fin 9, ∀ t : Fin 9, ((f.val = 0 ∧ t.val = 0) ∨ (f.val + 2 ≤ t.val ∧ t.val ≤ 8)) → ((f.val : Int), (t.val : Int)) ∈ zpairs := by decide +kernel
  exact key ⟨f, by omega⟩ ⟨t, by omega⟩ h
theorem zeros_at {l : List Int} (hl : l.length = 8) : ∃ f t : Nat, zerosF l () = some ((f : Int), (t : Int)) ∧ ((f : Int), (t : Int)) ∈ zpairs ∧ ZP l f t := by
  obtain ⟨f, t, h, e⟩ := zOuter hl 8 0 300 0 0 (by omega) (by omega) (.inl ⟨rfl, rfl⟩)
  refine ⟨f, t, ?_, zpairs_mem ?_, h⟩
  · unfold zerosF addr_zeros.f
    rw [if_pos (by omega), hl]
    exact e
  · rcases h with h | h
    · exact .inl h
    · exact .inr ⟨h.1, h.2.1⟩
def hexB (n : Nat) : ByteArray := ⟨⟨Txt.hexT n⟩⟩
theorem fmt_at {n : Nat} (h : n < 65536) : strconv_FormatUint.f (n : Int) 16 = some (hexB n) := by
  unfold strconv_FormatUint.f fmtF
  rw [if_pos ⟨rfl, by omega, by omega⟩, Int.toNat_natCast]; rfl
theorem text_l0 {ns : List Nat} (hn : ∀ n ∈ ns, n < 65536) (hl : ns.length ≤ 8) : ∀ (d i k : Nat) (acc : List ByteArray), i + d = ns.length → d + 2 ≤ k → acc.length ≤ i →
    addr_text.l0 k acc (ns.map fun (n : Nat) => (n : Int)) (ns.length : Int) (i : Int) = ((strings_Join.f (acc ++ (ns.drop i).map hexB) ⟨#[58]⟩).bind fun t => some t) := by
  intro d
  induction d with
  | zero =>
    intro i k acc hi hk ha
    obtain ⟨k, rfl⟩ : ∃ j, k = j + 1 := ⟨k - 1, by omega⟩
    unfold addr_text.l0
    rw [if_neg (by omega), List.drop_eq_nil_of_le (by omega), List.map_nil, List.append_nil]
  | succ d ih =>
    intro i k acc hi hk ha
    obtain ⟨k, rfl⟩ : ∃ j, k = j + 1 := ⟨k - 1, by omega⟩
    have hlt : i < ns.length := by omega
    have e1 : rd (ns.map fun (n : Nat) => (n : Int)) (i : Int) = ((ns[i] : Nat) : Int) := by
      unfold rd
      rw [Int.toNat_natCast, List.getD_eq_getElem?_getD, List.getElem?_map, List.getElem?_eq_getElem hlt]; rfl
    unfold addr_text.l0
    rw [if_pos (by omega), if_pos (by omega), if_pos (by rw [List.length_map]; omega), e1, fmt_at (hn _ (List.getElem_mem hlt)), Option.bind_some, if_pos (by omega), w64 (by omega) (by omega)]
    have := ih (i + 1) k (acc ++ [hexB ns[i]]) (by omega) (by omega) (by rw [List.length_append, List.length_singleton]; omega)
    rw [show ((i : Int) + 1) = ((i + 1 : Nat) : Int) by omega, this, List.append_assoc]
    conv => rhs; rw [List.drop_eq_getElem_cons hlt]
    rfl
theorem lens_hex : ∀ ns : List Nat, Lib.lens (ns.map Txt.hexT) ≤ 4 * ns.length
  | [] => by simp [Lib.lens]
  | n :: t => by
    have := lens_hex t
    have h := (Txt.hexT_len n).2
    simp only [Lib.lens, List.map_cons, List.sum_cons, List.length_cons] at this ⊢
    omega
theorem join_hex_len {ns : List Nat} (hl : ns.length ≤ 8) : (Lib.join (ns.map Txt.hexT) [58]).length ≤ 40 := by
  cases ns with
  | nil => simp [Lib.join_nil]
  | cons n t =>
    have := lens_hex (n :: t)
    rw [List.map_cons, Lib.join_length, ← List.map_cons]
    simp only [List.length_cons, List.length_nil, List.length_map] at this hl ⊢
    omega
theorem joinF_hex {ns : List Nat} (hl : ns.length ≤ 8) : strings_Join.f (ns.map hexB) ⟨#[58]⟩ = some ⟨⟨Lib.join (ns.map Txt.hexT) [58]⟩⟩ := by
  have e : joinB (ns.map hexB) ⟨#[58]⟩ = ⟨⟨Lib.join (ns.map Txt.hexT) [58]⟩⟩ := by
    unfold joinB
    rw [List.map_map]
    rfl
  unfold strings_Join.f
  rw [e, if_pos ⟨by rw [bsize]; have := join_hex_len hl; omega, by rw [List.length_map]; omega⟩]
theorem text_at {ns : List Nat} (hn : ∀ n ∈ ns, n < 65536) (hl : ns.length ≤ 8) : textF (ns.map fun (n : Nat) => (n : Int)) () = some ⟨⟨Lib.join (ns.map Txt.hexT) [58]⟩⟩ := by
  unfold textF addr_text.f
  rw [if_pos (by rw [List.length_map]; exact hl), List.length_map]
  have := text_l0 hn hl ns.length 0 300 [] (by omega) (by omega) (Nat.zero_le _)
  rw [show ((0 : Nat) : Int) = 0 from rfl] at this
  rw [this, List.nil_append, List.drop_zero, joinF_hex hl]; rfl
theorem idx_dg : ∀ k : Fin 16, idxF dig16 (orI .u8 ((Txt.dg k.val).toNat : Int) 32) = some (k.val : Int) ∧ ¬ ((Txt.dg k.val).toNat : Int) < 48 := by decide +kernel
theorem hex_step {n k : Nat} (hn : n < 4096) (hk : k < 16) (t : List UInt8) : hexL (n : Int) (Txt.dg k :: t) = hexL ((n * 16 + k : Nat) : Int) t := by
  obtain ⟨h1, h2⟩ := idx_dg ⟨k, hk⟩
  simp only at h1 h2
  rw [hexL, h1, Option.bind_some, if_neg (by omega), if_neg h2]
  have e1 : shlI .u64 (n : Int) 4 = ((n * 2 ^ 4 : Nat) : Int) := shl_nat 4 (by decide) (by omega)
  rw [e1, Go.Det.wrapU ⟨by omega, by omega⟩, or_join 4 (by omega) (by omega)]
theorem hex_step0 {k : Nat} (hk : k < 16) (t : List UInt8) : hexL 0 (Txt.dg k :: t) = hexL (k : Int) t := by
  have := hex_step (n := 0) (by omega) hk t
  simpa using this
theorem hex_at {n : Nat} (h : n < 65536) : addr_hex.f (hexB n) = some ((n : Int), true) := by
  unfold addr_hex.f hexF hexB
  rw [blen]
  have hl := Txt.hexT_len n
  rw [if_neg (by omega)]
  unfold Txt.hexT
  split
  · rw [hex_step0 (by omega)]; rfl
  · split
    · rw [hex_step0 (by omega), hex_step (by omega) (by omega), hexL]
      congr 2; omega
    · split
      · rw [hex_step0 (by omega), hex_step (by omega) (by omega), hex_step (by omega) (by omega), hexL]
        congr 2; omega
      · rw [hex_step0 (by omega), hex_step (by omega) (by omega), hex_step (by omega) (by omega), hex_step (by omega) (by omega), hexL]
        congr 2; omega
theorem row_l0 {ns : List Nat} (hn : ∀ n ∈ ns, n < 65536) (hl : ns.length ≤ 8) (last : Bool) : ∀ (d i k : Nat) (acc : List Int), i + d = ns.length → 2 * d + 2 ≤ k → acc.length ≤ i →
    addr_row.l0 k last acc (ns.map hexB) (ns.map hexB) (ns.length : Int) (i : Int) = some (acc ++ (ns.drop i).map (fun (n : Nat) => (n : Int)), true) := by
  intro d
  induction d with
  | zero =>
    intro i k acc hi hk ha
    obtain ⟨k, rfl⟩ : ∃ j, k = j + 1 := ⟨k - 1, by omega⟩
    unfold addr_row.l0
    rw [if_neg (by omega), List.drop_eq_nil_of_le (by omega), List.map_nil, List.append_nil]
  | succ d ih =>
    intro i k acc hi hk ha
    obtain ⟨k, rfl⟩ : ∃ j, k = j + 2 := ⟨k - 2, by omega⟩
    have hlt : i < ns.length := by omega
    have hni := hn _ (List.getElem_mem hlt)
    have e1 : rdOf ByteArray.empty (ns.map hexB) (i : Int) = hexB ns[i] := by
      unfold rdOf
      rw [Int.toNat_natCast, List.getD_eq_getElem?_getD, List.getElem?_map, List.getElem?_eq_getElem hlt]; rfl
    have ec : strings_Contains.f (hexB ns[i]) ⟨#[46]⟩ = some false := by
      unfold strings_Contains.f
      have hs : (hexB ns[i]).size < 4294967281 := by
        have := (Txt.hexT_len ns[i]).2
        unfold hexB
        rw [bsize]; omega
      rw [if_pos hs]
      exact congrArg some (Txt.contains_no (Txt.hexT_sgn hni (by decide)))
    have ej : ∀ x36, x36 = false → addr_row.j1 (k + 1) last acc (ns.map hexB) (hexB ns[i]) (ns.map hexB) (ns.length : Int) (i : Int) x36 = some (acc ++ (ns.drop i).map (fun (n : Nat) => (n : Int)), true) := by
      rintro _ rfl
      unfold addr_row.j1
      rw [if_neg (by decide), hex_at hni, Option.bind_some, if_pos rfl, if_pos (by omega), w64 (by omega) (by omega), show ((i : Int) + 1) = ((i + 1 : Nat) : Int) by omega,
        ih (i + 1) k (acc ++ [((ns[i] : Nat) : Int)]) (by omega) (by omega) (by rw [List.length_append, List.length_singleton]; omega), List.append_assoc]
      conv => rhs; rw [List.drop_eq_getElem_cons hlt]
      rfl
    unfold addr_row.l0
    rw [if_pos (by omega), if_pos (by omega), if_pos (by rw [List.length_map]; omega), e1]
    split
    · split
      · rw [ec, Option.bind_some]; exact ej _ rfl
      · exact ej _ rfl
    · exact ej _ rfl
theorem join_ne {ns : List Nat} (h : ns ≠ []) : Lib.join (ns.map Txt.hexT) [58] ≠ [] := by
  cases ns with
  | nil => exact absurd rfl h
  | cons n t =>
    rw [List.map_cons, Lib.join_cons]
    intro e
    exact Txt.hexT_ne n (List.append_eq_nil_iff.1 e).1
theorem row_at {ns : List Nat} (hn : ∀ n ∈ ns, n < 65536) (hl : ns.length ≤ 8) (last : Bool) : rowF (⟨⟨Lib.join (ns.map Txt.hexT) [58]⟩⟩, last) = some (ns.map (fun (n : Nat) => (n : Int)), true) := by
  unfold rowF addr_row.f
  cases hns : ns with
  | nil =>
    rw [if_pos (by rw [ByteArray.toList_eq]; rfl)]
    rfl
  | cons n0 t0 =>
    rw [← hns]
    have hne : ns ≠ [] := by rw [hns]; simp
    rw [if_neg (by rw [ByteArray.toList_eq]; exact join_ne hne)]
    have es : strings_Split.f ⟨⟨Lib.join (ns.map Txt.hexT) [58]⟩⟩ ⟨#[58]⟩ = some (ns.map hexB) := by
      unfold strings_Split.f
      rw [if_pos ⟨by rw [bsize]; have := join_hex_len hl; omega, by decide⟩]
      have := Txt.splitB_join (c := 58) (ns.map Txt.hexT) (by simpa using hne) (fun p hp => by
        obtain ⟨m, hm, rfl⟩ := List.mem_map.1 hp
        exact Txt.hexT_sgn (hn m hm) (by decide))
      rw [List.map_map] at this
      exact congrArg some this
    simp only
    rw [es, Option.bind_some, List.length_map]
    have := row_l0 hn hl last ns.length 0 1000 [] (by omega) (by omega) (Nat.zero_le _)
    rw [show ((0 : Nat) : Int) = 0 from rfl] at this
    rw [this, List.nil_append, List.drop_zero]
end Go.Proofs.YtfnacgojmdbjmaaGreatDoor
end

section
/- An address is printed, and read as it was: addr.Print and addr.Parse at addresses of numbers. Plain. -/
namespace Go.Proofs.YtfnacgojmdbjmaaGreatDoor
open Go.Det Go.RowKit Go.Proofs.YtfnacgojmdbjmaaGreatDoorW.PrintWords Go.Proofs.YtfnacgojmdbjmaaGreatDoor.PPH Go.Proofs.YtfnacgojmdbjmaaGreatDoor.PRD
set_option maxRecDepth 100000
def txtB (n : Nat) : ByteArray := ⟨⟨Txt.decT n⟩⟩
theorem txt_at {n : Nat} (h : n < 256) : txtF (n : Int) = some (txtB n) := by
  unfold txtF
  rw [if_pos ⟨by omega, by omega⟩, Int.toNat_natCast]; rfl
theorem num_all : ∀ n : Fin 256, numF (txtB n.val) 255 = some ((n.val : Int), true) := by decide +kernel
theorem num_at {n : Nat} (h : n < 256) : date_Num.f (txtB n) 255 = some ((n : Int), true) := num_all ⟨n, h⟩
theorem decT_len (n : Nat) : (Txt.decT n).length ≤ 3 := by
  unfold Txt.decT
  split
  · simp
  · split <;> simp
theorem byte_at {q : Nat} (hq : q < 18446744073709551616) (s : Nat) (hs : s ≤ 64) : txtF (andI .u64 (shrI .u64 (q : Int) (s : Int)) 255) = some (txtB (q / 2 ^ s % 256)) := by
  rw [shr_nat s hs]
  have h1 : q / 2 ^ s ≤ q := Nat.div_le_self _ _
  obtain ⟨x, hx⟩ : ∃ x, x = q / 2 ^ s := ⟨_, rfl⟩
  rw [← hx] at h1 ⊢
  have e : andI .u64 (x : Int) 255 = ((x % 256 : Nat) : Int) := and_low (by omega) 8 (by decide)
  rw [e, txt_at (by omega)]
def dots (a b c d : Nat) : List UInt8 := Lib.join [Txt.decT a, Txt.decT b, Txt.decT c, Txt.decT d] [46]
theorem dots_len (a b c d : Nat) : (dots a b c d).length ≤ 15 := by
  unfold dots
  have h1 := decT_len a
  have h2 := decT_len b
  have h3 := decT_len c
  have h4 := decT_len d
  rw [Lib.join_length]
  simp only [Lib.lens, List.map_cons, List.map_nil, List.sum_cons, List.sum_nil, List.length_cons, List.length_nil]
  omega
theorem join_dots (a b c d : Nat) : joinF [txtB a, txtB b, txtB c, txtB d] dotB = some ⟨⟨dots a b c d⟩⟩ := by
  have e : joinB [txtB a, txtB b, txtB c, txtB d] dotB = ⟨⟨dots a b c d⟩⟩ := rfl
  unfold joinF
  rw [e, if_pos ⟨by rw [bsize]; have := dots_len a b c d; omega, by simp only [List.length_cons, List.length_nil]; omega⟩]
theorem or_byte {x n : Nat} (hx : x < 16777216) (hn : n < 256) : Go.bits .or .u64 (IntKind.u64.wrap ((x : Int) * 256)) (Go.bits .and .u64 (n : Int) 255) = ((x * 256 + n : Nat) : Int) := by
  have e1 : Go.bits .and .u64 (n : Int) 255 = ((n % 256 : Nat) : Int) := and_low (by omega) 8 (by decide)
  have e2 : IntKind.u64.wrap ((x : Int) * 256) = ((x * 2 ^ 8 : Nat) : Int) := by rw [Go.Det.wrapU ⟨by omega, by omega⟩]; omega
  rw [e1, e2, Nat.mod_eq_of_lt hn]
  exact or_join (s := 8) (by omega) (by omega)
theorem four_at {a b c d : Nat} (ha : a < 256) (hb : b < 256) (hc : c < 256) (hd : d < 256) : addr_four.f 1000 ⟨⟨dots a b c d⟩⟩ = some (((((a * 256 + b) * 256 + c) * 256 + d : Nat) : Int), true) := by
  have es : strings_Split.f ⟨⟨dots a b c d⟩⟩ ⟨#[46]⟩ = some [txtB a, txtB b, txtB c, txtB d] := by
    unfold strings_Split.f
    rw [if_pos ⟨by rw [bsize]; have := dots_len a b c d; omega, by decide⟩]
    exact congrArg some (Txt.splitB_join (c := 46) [Txt.decT a, Txt.decT b, Txt.decT c, Txt.decT d] (by simp) (fun p hp => by
      simp only [List.mem_cons, List.not_mem_nil, or_false] at hp
      rcases hp with rfl | rfl | rfl | rfl
      · exact Txt.decT_sgn ha (by decide)
      · exact Txt.decT_sgn hb (by decide)
      · exact Txt.decT_sgn hc (by decide)
      · exact Txt.decT_sgn hd (by decide)))
  unfold addr_four.f
  rw [es, Option.bind_some]
  have step : ∀ (k i x n : Nat), i < 4 → x < 16777216 → n < 256 → [txtB a, txtB b, txtB c, txtB d][i]? = some (txtB n) →
      addr_four.l0 (k + 1) [txtB a, txtB b, txtB c, txtB d] (x : Int) [txtB a, txtB b, txtB c, txtB d] 4 (i : Int) = addr_four.l0 k [txtB a, txtB b, txtB c, txtB d] ((x * 256 + n : Nat) : Int) [txtB a, txtB b, txtB c, txtB d] 4 ((i + 1 : Nat) : Int) := by
    intro k i x n hi hx hn hg
    have e1 : rdOf ByteArray.empty [txtB a, txtB b, txtB c, txtB d] (i : Int) = txtB n := by
      unfold rdOf
      rw [Int.toNat_natCast, List.getD_eq_getElem?_getD, hg]; rfl
    conv => lhs; unfold addr_four.l0
    rw [if_pos (by omega), if_pos (by omega), if_pos (by simp only [List.length_cons, List.length_nil]; omega), e1, num_at hn, Option.bind_some, if_pos rfl, or_byte hx hn, w64 (by omega) (by omega)]
    rfl
  have h0 := step 999 0 0 a (by omega) (by omega) ha rfl
  have h1 := step 998 1 a b (by omega) (by omega) hb rfl
  have h2 := step 997 2 (a * 256 + b) c (by omega) (by omega) hc rfl
  have h3 := step 996 3 ((a * 256 + b) * 256 + c) d (by omega) (by omega) hd rfl
  have e0 : 0 * 256 + a = a := by omega
  rw [e0] at h0
  have ee : addr_four.l0 996 [txtB a, txtB b, txtB c, txtB d] ((((a * 256 + b) * 256 + c) * 256 + d : Nat) : Int) [txtB a, txtB b, txtB c, txtB d] 4 ((3 + 1 : Nat) : Int) = some (((((a * 256 + b) * 256 + c) * 256 + d : Nat) : Int), true) := by
    conv => lhs; unfold addr_four.l0
    rw [if_neg (by omega)]
    rfl
  exact h0.trans (h1.trans (h2.trans (h3.trans ee)))
theorem part_at {h : Nat} (hh : h < 18446744073709551616) : partL (h : Int) = [h / 281474976710656 % 65536, h / 4294967296 % 65536, h / 65536 % 65536, h % 65536].map (fun (n : Nat) => (n : Int)) := by
  have p : ∀ (s : Nat), s ≤ 64 → andI .u64 (shrI .u64 (h : Int) (s : Int)) 65535 = ((h / 2 ^ s % 65536 : Nat) : Int) := by
    intro s hs
    rw [shr_nat s hs]
    have h1 : h / 2 ^ s ≤ h := Nat.div_le_self _ _
    obtain ⟨x, hx⟩ : ∃ x, x = h / 2 ^ s := ⟨_, rfl⟩
    rw [← hx] at h1 ⊢
    exact and_low (by omega) 16 (by decide)
  have p0 := p 0 (by omega)
  have p1 := p 16 (by omega)
  have p2 := p 32 (by omega)
  have p3 := p 48 (by omega)
  rw [Nat.pow_zero, Nat.div_one] at p0
  unfold partL
  simp only [List.map_cons, List.map_nil]
  exact congr (congrArg List.cons p3) (congr (congrArg List.cons p2) (congr (congrArg List.cons p1) (congrArg (List.cons · []) p0)))
theorem comb_at {a b c d : Nat} (ha : a < 65536) (hb : b < 65536) (hc : c < 65536) (hd : d < 65536) : comb4 (a : Int) (b : Int) (c : Int) (d : Int) = ((((a * 65536 + b) * 65536 + c) * 65536 + d : Nat) : Int) := by
  have st : ∀ {x n : Nat}, x < 281474976710656 → n < 65536 → orI .u64 (shlI .u64 (x : Int) 16) (n : Int) = ((x * 65536 + n : Nat) : Int) := by
    intro x n hx hn
    have e1 : shlI .u64 (x : Int) 16 = ((x * 2 ^ 16 : Nat) : Int) := shl_nat 16 (by decide) (by omega)
    rw [e1]
    exact or_join 16 (by omega) (by omega)
  have s0 := st (x := 0) (n := a) (by omega) ha
  rw [show 0 * 65536 + a = a by omega] at s0
  unfold comb4
  rw [show ((0 : Int)) = ((0 : Nat) : Int) from rfl, s0, st (by omega) hb, st (by omega) hc, st (by omega) hd]
theorem fill_eq {l : List Int} (hl : l.length = 8) {f t : Nat} (hft : f + 2 ≤ t) (ht : t ≤ 8) (hz : ∀ k, f ≤ k → k < t → l.getD k 0 = 0) : l.take f ++ List.replicate (8 - ((l.take f).length + (l.drop t).length)) 0 ++ l.drop t = l := by
  have e : 8 - ((l.take f).length + (l.drop t).length) = t - f := by rw [List.length_take, List.length_drop]; omega
  rw [e]
  have e2 : List.replicate (t - f) (0 : Int) = (l.drop f).take (t - f) := by
    refine List.ext_getElem (by rw [List.length_replicate, List.length_take, List.length_drop]; omega) fun i h1 h2 => ?_
    rw [List.length_replicate] at h1
    have := hz (f + i) (by omega) (by omega)
    rw [List.getD_eq_getElem?_getD, List.getElem?_eq_getElem (by omega)] at this
    rw [List.getElem_replicate, List.getElem_take, List.getElem_drop]
    exact this.symm
  rw [e2, List.append_assoc]
  have e3 : l.drop t = (l.drop f).drop (t - f) := by rw [List.drop_drop]; congr 1; omega
  rw [e3, List.take_append_drop, List.take_append_drop]
end Go.Proofs.YtfnacgojmdbjmaaGreatDoor
end

section
/- An address is printed, and read as it was. Plain: over addr.Print and addr.Parse as they are told. -/
namespace Go.Proofs.YtfnacgojmdbjmaaGreatDoor
open Go.Det Go.RowKit Go.Proofs.YtfnacgojmdbjmaaGreatDoorW.PrintWords Go.Proofs.YtfnacgojmdbjmaaGreatDoor.PPH Go.Proofs.YtfnacgojmdbjmaaGreatDoor.PRD
set_option maxRecDepth 100000
structure PT (s : List UInt8) : Prop where
  len : s.length ≤ 100
  ne : s ≠ []
  sl : (47 : UInt8) ∉ s
  da : (45 : UInt8) ∉ s
theorem contains_at (s : List UInt8) (c : UInt8) (h : s.length ≤ 1000) : strings_Contains.f ⟨⟨s⟩⟩ ⟨#[c]⟩ = some (Lib.contains s [c]) := by
  unfold strings_Contains.f
  rw [if_pos (by rw [bsize]; omega)]
theorem back4 {q : Nat} (hq : q < 4294967296) : ∃ s, PT s ∧ prF 4 0 (q : Int) = some ⟨⟨s⟩⟩ ∧ addr_Parse.f ⟨⟨s⟩⟩ = some (4, 0, (q : Int), true) := by
  have b0 := byte_at (q := q) (by omega) 24 (by omega)
  have b1 := byte_at (q := q) (by omega) 16 (by omega)
  have b2 := byte_at (q := q) (by omega) 8 (by omega)
  have b3 := byte_at (q := q) (by omega) 0 (by omega)
  have e0 : q / 2 ^ 24 % 256 = q / 16777216 % 256 := rfl
  have e1 : q / 2 ^ 16 % 256 = q / 65536 % 256 := rfl
  have e2 : q / 2 ^ 8 % 256 = q / 256 % 256 := rfl
  have e3 : q / 2 ^ 0 % 256 = q % 256 := by rw [Nat.pow_zero, Nat.div_one]
  rw [e0] at b0
  rw [e1] at b1
  rw [e2] at b2
  rw [e3] at b3
  have hj := join_dots (q / 16777216 % 256) (q / 65536 % 256) (q / 256 % 256) (q % 256)
  have h4 := four_at (a := q / 16777216 % 256) (b := q / 65536 % 256) (c := q / 256 % 256) (d := q % 256) (by omega) (by omega) (by omega) (by omega)
  have hl := dots_len (q / 16777216 % 256) (q / 65536 % 256) (q / 256 % 256) (q % 256)
  have hq' : ((q / 16777216 % 256 * 256 + q / 65536 % 256) * 256 + q / 256 % 256) * 256 + q % 256 = q := by omega
  rw [hq'] at h4
  have hn : ∀ c, Txt.sgn c = true → c ≠ 46 → c ∉ dots (q / 16777216 % 256) (q / 65536 % 256) (q / 256 % 256) (q % 256) := by
    intro c hc hd
    refine Txt.not_mem_join hd _ fun p hp => ?_
    simp only [List.mem_cons, List.not_mem_nil, or_false] at hp
    rcases hp with rfl | rfl | rfl | rfl
    · exact Txt.decT_sgn (by omega) hc
    · exact Txt.decT_sgn (by omega) hc
    · exact Txt.decT_sgn (by omega) hc
    · exact Txt.decT_sgn (by omega) hc
  refine ⟨dots (q / 16777216 % 256) (q / 65536 % 256) (q / 256 % 256) (q % 256), ⟨by omega, ?_, hn 47 (by decide) (by decide), hn 45 (by decide) (by decide)⟩, ?_, ?_⟩
  · unfold dots
    rw [Lib.join_cons]
    intro e
    exact Txt.decT_ne _ (List.append_eq_nil_iff.1 e).1
  · unfold prF okF
    rw [if_neg (by decide), if_pos rfl, if_pos rfl, Option.bind_some, if_pos (by rw [decide_eq_true_eq]; omega), if_pos rfl]
    unfold pr4
    have b0' : txtF (andI .u64 (shrI .u64 (q : Int) 24) 255) = _ := b0
    have b1' : txtF (andI .u64 (shrI .u64 (q : Int) 16) 255) = _ := b1
    have b2' : txtF (andI .u64 (shrI .u64 (q : Int) 8) 255) = _ := b2
    have b3' : txtF (andI .u64 (shrI .u64 (q : Int) 0) 255) = _ := b3
    rw [b0', Option.bind_some, b1', Option.bind_some, b2', Option.bind_some, b3', Option.bind_some, hj]
  · unfold addr_Parse.f
    have hc := contains_at (dots (q / 16777216 % 256) (q / 65536 % 256) (q / 256 % 256) (q % 256)) 58 (by omega)
    rw [Txt.contains_no (hn 58 (by decide) (by decide))] at hc
    have hc' : strings_Contains.f ⟨⟨dots (q / 16777216 % 256) (q / 65536 % 256) (q / 256 % 256) (q % 256)⟩⟩ { data := #[58] } = some false := hc
    rw [hc', Option.bind_some, if_neg (by decide), h4, Option.bind_some, if_pos rfl]
theorem cutF_at (s sep : List UInt8) (h : s.length ≤ 1000) : cutF ⟨⟨s⟩⟩ ⟨⟨sep⟩⟩ = some (⟨⟨(Lib.cut s sep).1⟩⟩, ⟨⟨(Lib.cut s sep).2.1⟩⟩, (Lib.cut s sep).2.2) := by
  unfold cutF
  rw [if_pos (by rw [bsize]; omega)]
  rfl
structure G8 (ns : List Nat) : Prop where
  len : ns.length = 8
  lt : ∀ n ∈ ns, n < 65536
def castI (ns : List Nat) : List Int := ns.map fun (n : Nat) => (n : Int)
theorem castI_len (ns : List Nat) : (castI ns).length = ns.length := List.length_map ..
theorem six_whole {ns : List Nat} (h : G8 ns) : sixF ⟨⟨Lib.join (ns.map Txt.hexT) [58]⟩⟩ = some (6, (comb8 (castI ns)).1, (comb8 (castI ns)).2, true) := by
  have hl := join_hex_len (ns := ns) (by rw [h.len]; omega)
  have hne : ns ≠ [] := by intro e; have := h.len; rw [e] at this; simp at this
  have htw : Txt.twice 58 (Lib.join (ns.map Txt.hexT) [58]) = false := by
    have := Txt.twice_join (c := 58) (ns.map Txt.hexT) (fun p hp => by
      obtain ⟨m, hm, rfl⟩ := List.mem_map.1 hp
      exact ⟨Txt.hexT_sgn (h.lt m hm) (by decide), Txt.hexT_ne m⟩) []
    rw [List.append_nil] at this
    exact this
  have hc := cutF_at (Lib.join (ns.map Txt.hexT) [58]) [58, 58] (by omega)
  rw [Txt.cut_miss htw] at hc
  have hc' : cutF ⟨⟨Lib.join (ns.map Txt.hexT) [58]⟩⟩ { data := #[58, 58] } = some (⟨⟨Lib.join (ns.map Txt.hexT) [58]⟩⟩, ⟨⟨[]⟩⟩, false) := hc
  have r1 := row_at h.lt (by rw [h.len]; omega) true
  have r2 := row_at (ns := []) (by simp) (by simp) true
  have r2' : rowF (⟨⟨[]⟩⟩, true) = some ([], true) := r2
  unfold sixF
  rw [hc', Option.bind_some]
  simp only
  rw [show (!false) = true from rfl, r1, Option.bind_some, r2', Option.bind_some]
  have hB : sixB ⟨⟨Lib.join (ns.map Txt.hexT) [58]⟩⟩ false (castI ns, true) ([], true) = false := by
    unfold sixB
    simp only [Bool.not_true, Bool.false_or, blen, castI_len, h.len, List.length_nil]
    rw [decide_eq_false (join_ne hne)]; rfl
  have hB' : ¬ sixB ⟨⟨Lib.join (ns.map Txt.hexT) [58]⟩⟩ false (ns.map fun (n : Nat) => (n : Int), true) ([], true) = true := by
    intro e; exact absurd (e.symm.trans hB) (by decide)
  rw [if_neg hB']
  simp only [List.length_map, h.len, List.length_nil, Nat.add_zero, Nat.sub_self, List.replicate_zero, List.append_nil]
  rfl
theorem six_cut {ns : List Nat} (h : G8 ns) {f t : Nat} (hft : f + 2 ≤ t) (ht : t ≤ 8) (hz : ∀ k, f ≤ k → k < t → (castI ns).getD k 0 = 0) :
    sixF ⟨⟨Lib.join ((ns.take f).map Txt.hexT) [58] ++ 58 :: 58 :: Lib.join ((ns.drop t).map Txt.hexT) [58]⟩⟩ = some (6, (comb8 (castI ns)).1, (comb8 (castI ns)).2, true) := by
  have lf : (ns.take f).length ≤ 8 := by rw [List.length_take, h.len]; omega
  have lt : (ns.drop t).length ≤ 8 := by rw [List.length_drop, h.len]; omega
  have gf : ∀ n ∈ ns.take f, n < 65536 := fun n hn => h.lt n (List.mem_of_mem_take hn)
  have gt : ∀ n ∈ ns.drop t, n < 65536 := fun n hn => h.lt n (List.mem_of_mem_drop hn)
  have l1 := join_hex_len lf
  have l2 := join_hex_len lt
  have htw : Txt.twice 58 (Lib.join ((ns.take f).map Txt.hexT) [58] ++ [58]) = false := by
    rw [Txt.twice_join (c := 58) ((ns.take f).map Txt.hexT) (fun p hp => by
      obtain ⟨m, hm, rfl⟩ := List.mem_map.1 hp
      exact ⟨Txt.hexT_sgn (gf m hm) (by decide), Txt.hexT_ne m⟩) [58]]
    rfl
  have hc := cutF_at (Lib.join ((ns.take f).map Txt.hexT) [58] ++ 58 :: 58 :: Lib.join ((ns.drop t).map Txt.hexT) [58]) [58, 58] (by simp only [List.length_append, List.length_cons]; omega)
  rw [Txt.cut_hit _ htw] at hc
  have hc' : cutF ⟨⟨Lib.join ((ns.take f).map Txt.hexT) [58] ++ 58 :: 58 :: Lib.join ((ns.drop t).map Txt.hexT) [58]⟩⟩ { data := #[58, 58] } = some (⟨⟨Lib.join ((ns.take f).map Txt.hexT) [58]⟩⟩, ⟨⟨Lib.join ((ns.drop t).map Txt.hexT) [58]⟩⟩, true) := hc
  have r1 := row_at gf lf false
  have r2 := row_at gt lt true
  unfold sixF
  rw [hc', Option.bind_some]
  simp only
  rw [show (!true) = false from rfl, r1, Option.bind_some, r2, Option.bind_some]
  have hlen : (ns.take f).length + (ns.drop t).length = f + (8 - t) := by rw [List.length_take, List.length_drop, h.len]; omega
  have hB : ∀ X Y : List Int, X.length = (ns.take f).length → Y.length = (ns.drop t).length → sixB ⟨⟨Lib.join ((ns.take f).map Txt.hexT) [58] ++ 58 :: 58 :: Lib.join ((ns.drop t).map Txt.hexT) [58]⟩⟩ true (X, true) (Y, true) = false := by
    intro X Y hX hY
    unfold sixB
    simp only [Bool.not_true, Bool.false_or, blen]
    rw [decide_eq_false (by simp), Bool.false_or, hX, hY, hlen]
    exact decide_eq_false (by omega)
  rw [if_neg (by rw [hB _ _ (List.length_map ..) (List.length_map ..)]; decide)]
  have hf := fill_eq (l := castI ns) (by rw [castI_len, h.len]) hft ht hz
  unfold castI at hf ⊢
  rw [← List.map_take, ← List.map_drop] at hf
  rw [hf]
theorem app_ba (a b : List UInt8) : (⟨⟨a⟩⟩ : ByteArray) ++ colB ++ (⟨⟨b⟩⟩ : ByteArray) = ⟨⟨a ++ 58 :: 58 :: b⟩⟩ := by
  have h : ((⟨⟨a⟩⟩ : ByteArray) ++ colB ++ (⟨⟨b⟩⟩ : ByteArray)).data.toList = a ++ 58 :: 58 :: b := by
    simp [colB]
  have e : ∀ x : ByteArray, x = ⟨⟨x.data.toList⟩⟩ := fun _ => rfl
  rw [e ((⟨⟨a⟩⟩ : ByteArray) ++ colB ++ (⟨⟨b⟩⟩ : ByteArray)), h]
theorem split4 {h : Nat} (hh : h < 18446744073709551616) : ((h / 281474976710656 % 65536 * 65536 + h / 4294967296 % 65536) * 65536 + h / 65536 % 65536) * 65536 + h % 65536 = h := by omega
theorem back6 {h l : Nat} (hh : h < 18446744073709551616) (hl : l < 18446744073709551616) : ∃ s, PT s ∧ prF 6 (h : Int) (l : Int) = some ⟨⟨s⟩⟩ ∧ addr_Parse.f ⟨⟨s⟩⟩ = some (6, (h : Int), (l : Int), true) := by
  obtain ⟨ns, hns⟩ : ∃ ns, ns = [h / 281474976710656 % 65536, h / 4294967296 % 65536, h / 65536 % 65536, h % 65536, l / 281474976710656 % 65536, l / 4294967296 % 65536, l / 65536 % 65536, l % 65536] := ⟨_, rfl⟩
  have G : G8 ns := by
    subst hns
    refine ⟨rfl, fun n hn => ?_⟩
    simp only [List.mem_cons, List.not_mem_nil, or_false] at hn
    rcases hn with rfl | rfl | rfl | rfl | rfl | rfl | rfl | rfl <;> omega
  have hg : grp (h : Int) (l : Int) = castI ns := by
    unfold grp castI
    rw [part_at hh, part_at hl, hns]
    simp only [List.map_cons, List.map_nil, List.cons_append, List.nil_append]
  have hc8 : comb8 (castI ns) = ((h : Int), (l : Int)) := by
    have c1 := comb_at (a := h / 281474976710656 % 65536) (b := h / 4294967296 % 65536) (c := h / 65536 % 65536) (d := h % 65536) (by omega) (by omega) (by omega) (by omega)
    have c2 := comb_at (a := l / 281474976710656 % 65536) (b := l / 4294967296 % 65536) (c := l / 65536 % 65536) (d := l % 65536) (by omega) (by omega) (by omega) (by omega)
    have d1 : ((h / 281474976710656 % 65536 * 65536 + h / 4294967296 % 65536) * 65536 + h / 65536 % 65536) * 65536 + h % 65536 = h := split4 hh
    have d2 : ((l / 281474976710656 % 65536 * 65536 + l / 4294967296 % 65536) * 65536 + l / 65536 % 65536) * 65536 + l % 65536 = l := split4 hl
    rw [d1] at c1
    rw [d2] at c2
    rw [hns]
    show (comb4 _ _ _ _, comb4 _ _ _ _) = _
    rw [c1, c2]
  have sg : ∀ ms : List Nat, (∀ n ∈ ms, n < 65536) → ∀ c, Txt.sgn c = true → c ≠ 58 → c ∉ Lib.join (ms.map Txt.hexT) [58] := by
    intro ms hm c hc hd
    refine Txt.not_mem_join hd _ fun p hp => ?_
    obtain ⟨m, hmm, rfl⟩ := List.mem_map.1 hp
    exact Txt.hexT_sgn (hm m hmm) hc
  have parse : ∀ s : List UInt8, s.length ≤ 1000 → (58 : UInt8) ∈ s → sixF ⟨⟨s⟩⟩ = some (6, (comb8 (castI ns)).1, (comb8 (castI ns)).2, true) → addr_Parse.f ⟨⟨s⟩⟩ = some (6, (h : Int), (l : Int), true) := by
    intro s hs hm h6
    unfold addr_Parse.f
    have hc := contains_at s 58 hs
    rw [Txt.contains_yes hm] at hc
    have hc' : strings_Contains.f ⟨⟨s⟩⟩ { data := #[58] } = some true := hc
    unfold addr_six.f
    rw [hc', Option.bind_some, if_pos rfl, h6, hc8]; rfl
  have hpr : ∀ s, ((zerosF (castI ns) ()).bind fun ij => pr6 (castI ns) ij) = some s → prF 6 (h : Int) (l : Int) = some s := by
    intro s hs
    unfold prF okF
    rw [if_pos rfl, Option.bind_some, if_pos rfl, if_neg (by decide), hg]
    exact hs
  obtain ⟨f, t, hz, hm, hP⟩ := zeros_at (l := castI ns) (by rw [castI_len, G.len])
  rcases hP with ⟨rfl, rfl⟩ | ⟨hft, ht, hzz⟩
  · have hlen := join_hex_len (ns := ns) (by rw [G.len]; omega)
    have htx := text_at G.lt (by rw [G.len]; omega)
    refine ⟨Lib.join (ns.map Txt.hexT) [58], ⟨by omega, join_ne (by intro e; have := G.len; rw [e] at this; simp at this), sg ns G.lt 47 (by decide) (by decide), sg ns G.lt 45 (by decide) (by decide)⟩, hpr _ ?_, parse _ (by omega) ?_ (six_whole G)⟩
    · rw [hz, Option.bind_some]
      unfold pr6
      rw [if_pos (show ((((0 : Nat) : Int), ((0 : Nat) : Int)) : Int × Int) = (0, 0) from rfl)]
      exact htx
    · rw [hns, List.map_cons, List.map_cons, Txt.join_more]
      simp
  · have lf : (ns.take f).length ≤ 8 := by rw [List.length_take, G.len]; omega
    have lt : (ns.drop t).length ≤ 8 := by rw [List.length_drop, G.len]; omega
    have gf : ∀ n ∈ ns.take f, n < 65536 := fun n hn => G.lt n (List.mem_of_mem_take hn)
    have gt : ∀ n ∈ ns.drop t, n < 65536 := fun n hn => G.lt n (List.mem_of_mem_drop hn)
    have l1 := join_hex_len lf
    have l2 := join_hex_len lt
    have t1 := text_at gf lf
    have t2 := text_at gt lt
    have hs : ∀ c, Txt.sgn c = true → c ≠ 58 → c ∉ Lib.join ((ns.take f).map Txt.hexT) [58] ++ 58 :: 58 :: Lib.join ((ns.drop t).map Txt.hexT) [58] := by
      intro c hc hd
      simp only [List.mem_append, List.mem_cons, not_or]
      exact ⟨sg _ gf c hc hd, hd, hd, sg _ gt c hc hd⟩
    refine ⟨Lib.join ((ns.take f).map Txt.hexT) [58] ++ 58 :: 58 :: Lib.join ((ns.drop t).map Txt.hexT) [58], ⟨by simp only [List.length_append, List.length_cons]; omega, by simp, hs 47 (by decide) (by decide), hs 45 (by decide) (by decide)⟩, hpr _ ?_, parse _ (by simp only [List.length_append, List.length_cons]; omega) (by simp) (six_cut G hft ht hzz)⟩
    rw [hz, Option.bind_some]
    unfold pr6
    rw [if_neg (by intro e; have := congrArg Prod.snd e; simp only at this; omega), if_pos hm]
    simp only [Int.toNat_natCast]
    have e1 : (castI ns).take f = (ns.take f).map fun (n : Nat) => (n : Int) := (List.map_take ..).symm
    have e2 : (castI ns).drop t = (ns.drop t).map fun (n : Nat) => (n : Int) := (List.map_drop ..).symm
    rw [e1, e2, t1, Option.bind_some, t2, Option.bind_some, if_pos (by rw [bsize, bsize]; omega), app_ba]
theorem back_at {V : Int} {B q : Nat} (h : Kd' V B) (hq : q < 2 ^ B) : ∃ s, PT s ∧ addr_Print.f V (H q) (L q) = some ⟨⟨s⟩⟩ ∧ addr_Parse.f ⟨⟨s⟩⟩ = some (V, H q, L q, true) := by
  have hM : M64 = 18446744073709551616 := rfl
  rcases h with ⟨rfl, rfl⟩ | ⟨rfl, rfl⟩
  · have hq' : q < 4294967296 := hq
    have e1 : H q = 0 := by unfold H; rw [hM]; omega
    have e2 : L q = (q : Int) := by unfold L; rw [hM]; omega
    rw [e1, e2]
    exact back4 hq'
  · have h1 := H_lt (q := q) hq
    have h2 := L_lt q
    exact back6 h1 h2
end Go.Proofs.YtfnacgojmdbjmaaGreatDoor
end

section
/- RangCover: loads of parts of a row's elements at unknown places; the law's words: the functions that it calls as contracts, what its loop keeps. No conditions. -/
namespace Go.Det
variable {P : Program}
noncomputable def rowPX {α : Type} (enc : α → List Value) (ty : TypeId) (n d m : Nat) : OpX := fun o l s K => match o.op with
  | .load t a => (match evalO l a with
    | .pointer (some ⟨id, off, none⟩) => (match s.h.get id with
      | some (.cells cs _ _) => t = ty ∧ ∃ r : List α, cs = r.flatMap enc ∧ ∃ i : Nat, off = i * n + d ∧ ∃ x : α, r[i]? = some x ∧ K (.agg (((enc x).drop d).take m).toArray) (s.read id)
      | _ => False)
    | _ => False)
  | _ => False
theorem rowPX_ok {cw : Cw} {α : Type} {enc : α → List Value} {ty : TypeId} {n d m : Nat} (hn : ∀ x, (enc x).length = n) (hd : d + (m + 1) ≤ n) (h1 : isAggB P ty = some true) (h2 : szOf P ty = some (m + 1)) {o : Oper} {l : Tmps} {s : St} {K : KV}
    (h : rowPX enc ty n d (m + 1) o l s K) : opW P cw o l s K := by
  unfold rowPX at h
  split at h
  case h_2 => exact h.elim
  rename_i t a ho
  split at h
  case h_2 => exact h.elim
  rename_i id off hp
  split at h
  case h_2 => exact h.elim
  rename_i cs e ro hg
  obtain ⟨rfl, r, rfl, i, rfl, x, hx, hK⟩ := h
  unfold opW
  rw [ho]
  simp only [hp]
  unfold loadW
  simp only [hg, h1, h2]
  obtain ⟨d1, d2⟩ := drop_flatMap hn r i x hx
  have e1 : (r.flatMap enc).drop (i * n + d) = (enc x).drop d ++ (r.drop (i + 1)).flatMap enc := by
    rw [← List.drop_drop, d1, List.drop_append_of_le_length (by rw [hn]; omega)]
  have hl : ((enc x).drop d).length = n - d := by rw [List.length_drop, hn]
  refine dropW_intro (by omega) ?_
  rw [e1]
  refine takeW_intro (by rw [List.length_append, hl]; omega) ?_
  rw [List.take_append_of_le_length (by rw [hl]; omega)]
  exact hK
noncomputable def rowSX {α : Type} (enc : α → List Value) (ty : TypeId) (n d : Nat) : OpX := fun o l s K => match o.op with
  | .load t a => (match evalO l a with
    | .pointer (some ⟨id, off, none⟩) => (match s.h.get id with
      | some (.cells cs _ _) => t = ty ∧ ∃ r : List α, cs = r.flatMap enc ∧ ∃ i : Nat, off = i * n + d ∧ ∃ x : α, r[i]? = some x ∧ K ((enc x).getD d und) (s.read id)
      | _ => False)
    | _ => False)
  | _ => False
theorem rowSX_ok {cw : Cw} {α : Type} {enc : α → List Value} {ty : TypeId} {n d : Nat} (hn : ∀ x, (enc x).length = n) (hd : d < n) (h1 : isAggB P ty = some false) {o : Oper} {l : Tmps} {s : St} {K : KV}
    (h : rowSX enc ty n d o l s K) : opW P cw o l s K := by
  unfold rowSX at h
  split at h
  case h_2 => exact h.elim
  rename_i t a ho
  split at h
  case h_2 => exact h.elim
  rename_i id off hp
  split at h
  case h_2 => exact h.elim
  rename_i cs e ro hg
  obtain ⟨rfl, r, rfl, i, rfl, x, hx, hK⟩ := h
  unfold opW
  rw [ho]
  simp only [hp]
  unfold loadW
  simp only [hg, h1]
  obtain ⟨d1, d2⟩ := drop_flatMap hn r i x hx
  refine nthW_intro (v := (enc x).getD d und) ?_ hK
  have e1 : (r.flatMap enc)[i * n + d]? = ((r.flatMap enc).drop (i * n))[d]? := by rw [List.getElem?_drop]
  rw [e1, d1, List.getElem?_append_left (by rw [hn]; exact hd), List.getD_eq_getElem?_getD, List.getElem?_eq_getElem (by rw [hn]; exact hd)]
  rfl
end Go.Det
namespace Go.Proofs.YtfnacgojmdbjmaaGreatDoor
open Go.Det Go.RowKit Go.Proofs.YtfnacgojmdbjmaaGreatDoor.PRD Go.Proofs.YtfnacgojmdbjmaaGreatDoorW.PrintWords
set_option maxRecDepth 100000
noncomputable def L8 : List (Nat × Con) := [(36, con36), (33, con33), (25, con25), (16, con16), (54, con54), (35, con35), (32, con32), (34, con34)]
theorem own8 {W : World} (hW : GoodW W) : OwnsAll Tryz.prog W 6 (extC L8) :=
  OwnsAll.con (om36 hW) (OwnsAll.con (om33 hW) (OwnsAll.con (om25 hW) (OwnsAll.con (om16 hW) (OwnsAll.con (om54 hW) (OwnsAll.con (om35 hW) (OwnsAll.con (om32 hW) (OwnsAll.con (om34 hW) (ownsAll_nil W 6))))))))
structure RgV where
  r0 : Int
  r1 : Int
  r2 : Int
  r3 : Int
  r4 : Int
  r5 : Int
  t : List S30
  i : Int
noncomputable def slRg (v : RgV) : Slots := [(8, .bool false), (9, .pointer (some ⟨64, 0, none⟩)), (10, .slice (some ⟨65, 0, none⟩) v.t.length (capU + 4)), (54, .int .i64 (v.t.length : Int)), (55, .int .i64 v.i)]
def cRg (v : RgV) : List Value := [.int .i64 v.r0, .int .u64 v.r1, .int .u64 v.r2, .int .i64 v.r3, .int .u64 v.r4, .int .u64 v.r5]
noncomputable def blRg (v : RgV) : Blks := [(64, cRg v, 105, false), (65, v.t.flatMap encS, 60, false)]
noncomputable def agreeRg (v : RgV) (l : Tmps) (s : St) : Prop :=
  slotsW l (slRg v) ∧ blkW s 64 (cRg v) 105 false ∧ rowW s 65 (v.t.flatMap encS) 60 false
theorem agreeRg_weak {v : RgV} {l : Tmps} {s : St} (h : agreeRg v l s) : Weaker l s (tabOf (slRg v)) (stOf (blRg v) 66) := by
  obtain ⟨h1, h2, h5⟩ := h
  refine weak_pick (by decide) (fun x hx => ?_) (fun x hx => ?_) h1 ⟨blkW_get h2, rowW_get h5, trivial⟩
  · simp only [slRg, List.mem_cons, List.not_mem_nil, or_false] at hx
    rcases hx with rfl | rfl | rfl | rfl | rfl <;> rfl
  · simp only [blRg, List.mem_cons, List.not_mem_nil, or_false] at hx
    rcases hx with rfl | rfl
    · exact ⟨show (64 : Nat) ≤ 64 ∧ 64 < 66 by decide, rfl⟩
    · exact ⟨show (64 : Nat) ≤ 65 ∧ 65 < 66 by decide, goodL_row _ _⟩
noncomputable def bodyC : Code := match loopsOf (bodyOf Tryz.f8) with | a :: _ => a | [] => .skip
noncomputable def oxRg (n : Nat) : Option OpX :=
  match Nat.beq n 36 || (Nat.beq n 81 || Nat.beq n 97) with
  | true => some (rowPX encS 28 4 0 3)
  | false => (match Nat.beq n 47 || (Nat.beq n 61 || Nat.beq n 71) with
    | true => some (rowX encS 30 4)
    | false => (match Nat.beq n 86 || (Nat.beq n 105 || Nat.beq n 111) with
      | true => some (rowSX encS 3 4 3)
      | false => none))
theorem oxRg_ok : OxOk Tryz.prog (cwC L8) oxRg := by
  intro n X hX o l s K h
  unfold oxRg at hX
  split at hX
  · cases hX
    exact rowPX_ok (enc := encS) (n := 4) (d := 0) (m := 2) (fun _ => rfl) (by decide) (by kernel_rfl) (by kernel_rfl) h
  · split at hX
    · cases hX
      exact rowX_ok (n := 3) (fun _ => rfl) (by kernel_rfl) (by kernel_rfl) h
    · split at hX
      · cases hX
        exact rowSX_ok (enc := encS) (n := 4) (d := 3) (fun _ => rfl) (by decide) (by kernel_rfl) h
      · cases hX
noncomputable def StepRg (v v1 : RgV) : Prop := codeX Tryz.prog (cwC L8) oxRg lx0 bodyC (tabOf (slRg v)) (stOf (blRg v) 66) (stepW (fun l s => agreeRg v1 l s) (fun _ _ _ => False))
noncomputable def LX8 : LpX := fun l s K => ∃ v : RgV, agreeRg v l s ∧ ∃ v' : RgV, Star StepRg v v' ∧ codeX Tryz.prog (cwC L8) oxRg lx0 bodyC (tabOf (slRg v')) (stOf (blRg v') 66) (stepW (fun _ _ => False) K)
noncomputable def lxRg (n : Nat) : Option LpX := match Nat.beq n 6 with | true => some LX8 | false => none
theorem lxRg_ok : LxOk Tryz.prog (cwC L8) lxRg (loopsOf (bodyOf Tryz.f8)) := by
  have e : loopsOf (bodyOf Tryz.f8) = [bodyC] := by kernel_rfl
  rw [e]
  intro a ha X hX l s K h
  obtain rfl := List.mem_singleton.1 ha
  have e2 : lxRg (frst bodyC) = some LX8 := by kernel_rfl
  rw [e2] at hX
  cases hX
  obtain ⟨v, hv, v', hs, he⟩ := h
  have hm := cwC_mono L8
  refine loop_star hm (fun v => tabOf (slRg v)) (fun v => stOf (blRg v) 66) (fun v v1 hstep => ?_) hs (agreeRg_weak hv) (codeX_codeW hm oxRg_ok _ (lx0_ok _) he)
  exact codeW_mono hm _ (stepW_mono (fun l s q => agreeRg_weak q) fun _ _ _ q => q) (codeX_codeW hm oxRg_ok _ (lx0_ok _) hstep)
end Go.Proofs.YtfnacgojmdbjmaaGreatDoor
end

section
/- Conditions, reckoned by the kernel. -/
namespace Go.Proofs.YtfnacgojmdbjmaaGreatDoor
open Go.Det Go.RowKit Go.Proofs.YtfnacgojmdbjmaaGreatDoor.PRD Go.Proofs.YtfnacgojmdbjmaaGreatDoorW.PrintWords
set_option maxRecDepth 100000
abbrev zp (n : Nat) : Value := .pointer (some { block := n, off := 0 })
abbrev zii (x : Int) : Value := .int .i64 x
abbrev ziu (x : Int) : Value := .int .u64 x
theorem vcRgB (v v1 : RgV) (Kp : Prop) : codeX Tryz.prog (cwC L8) oxRg lx0 bodyC (tabOf (slRg v)) (stOf (blRg v) 66) (stepW (fun l s => agreeRg v1 l s) (fun _ _ _ => Kp)) = (bifW (cdec (v.i < (↑(List.length (v.t)) : Int))) ((((0 ≤ v.i) ∧ (v.i < (↑(List.length (v.t)) : Int))) ∧ ((30 = 30) ∧ (∃ x0 : List S30, ((List.flatMap encS (v.t) = List.flatMap encS x0) ∧ (∃ x1 : Nat, ((0 + Int.toNat (v.i) * 4 = x1 * 4) ∧ (∃ x2 : S30, ((x0[x1]? = some x2) ∧ (∃ x3 : Bool, ((gleberef1_OkPrefix.f (x2.f0.f0) (x2.f0.f1.f0) (x2.f0.f1.f1) (x2.f1) = some x3) ∧ bifW (!x3) (Kp) (bifW (cdec (v.i = 0)) ((((Value.bool false = Value.bool false) ∧ (((zp 64) = (zp 64)) ∧ ((Value.slice (some { block := 65, off := 0 }) (List.length (v.t)) (1208925819614629174706176 + 4) = Value.slice (some { block := 65, off := 0 }) (List.length (v1.t)) (1208925819614629174706176 + 4)) ∧ ((zii (↑(List.length (v.t)) : Int) = zii (↑(List.length (v1.t)) : Int)) ∧ ((zii (IntKind.wrap .i64 (v.i + 1)) = zii (v1.i)) ∧ True))))) ∧ ((((zii (v.r0) = zii (v1.r0)) ∧ ((ziu (v.r1) = ziu (v1.r1)) ∧ ((ziu (v.r2) = ziu (v1.r2)) ∧ ((zii (v.r3) = zii (v1.r3)) ∧ ((ziu (v.r4) = ziu (v1.r4)) ∧ ((ziu (v.r5) = ziu (v1.r5)) ∧ True)))))) ∧ ((105 = 105) ∧ (false = false))) ∧ ((List.flatMap encS (v.t) = List.flatMap encS (v1.t)) ∧ ((60 = 60) ∧ (false = false)))))) ((((0 ≤ IntKind.wrap .i64 (v.i - 1)) ∧ (IntKind.wrap .i64 (v.i - 1) < (↑(List.length (v.t)) : Int))) ∧ ((30 = 30) ∧ (∃ x4 : List S30, ((List.flatMap encS (v.t) = List.flatMap encS x4) ∧ (∃ x5 : Nat, ((0 + Int.toNat (IntKind.wrap .i64 (v.i - 1)) * 4 = x5 * 4) ∧ (∃ x6 : S30, ((x4[x5]? = some x6) ∧ (∃ x7 : Int × Int × Int, ((gleberef1_Last.f (x6.f0.f0) (x6.f0.f1.f0) (x6.f0.f1.f1) (x6.f1) = some x7) ∧ (∃ x8 : Int × Int × Int × Bool, ((gleberef1_Next.f (x7.1) (Prod.fst (x7.2)) (Prod.snd (x7.2)) = some x8) ∧ (((0 ≤ IntKind.wrap .i64 (v.i - 1)) ∧ (IntKind.wrap .i64 (v.i - 1) < (↑(List.length (v.t)) : Int))) ∧ ((28 = 28) ∧ (∃ x9 : List S30, ((List.flatMap encS (v.t) = List.flatMap encS x9) ∧ (∃ x10 : Nat, ((0 + Int.toNat (IntKind.wrap .i64 (v.i - 1)) * 4 + 0 = x10 * 4 + 0) ∧ (∃ x11 : S30, ((x9[x10]? = some x11) ∧ (((0 ≤ v.i) ∧ (v.i < (↑(List.length (v.t)) : Int))) ∧ ((3 = 3) ∧ (∃ x12 : List S30, ((List.flatMap encS (v.t) = List.flatMap encS x12) ∧ (∃ x13 : Nat, ((0 + Int.toNat (v.i) * 4 + 3 = x13 * 4 + 3) ∧ (∃ x14 : S30, ((x12[x13]? = some x14) ∧ bifW (!Prod.snd (Prod.snd (x8.2))) (Kp) ((((0 ≤ v.i) ∧ (v.i < (↑(List.length (v.t)) : Int))) ∧ ((28 = 28) ∧ (∃ x15 : List S30, ((List.flatMap encS (v.t) = List.flatMap encS x15) ∧ (∃ x16 : Nat, ((0 + Int.toNat (v.i) * 4 + 0 = x16 * 4 + 0) ∧ (∃ x17 : S30, ((x15[x16]? = some x17) ∧ bifW (!(cdec (x8.1 = x17.f0.f0) && (cdec (Prod.fst (x8.2) = x17.f0.f1.f0) && (cdec (Prod.fst (Prod.snd (x8.2)) = x17.f0.f1.f1) && true)))) (Kp) ((((0 ≤ v.i) ∧ (v.i < (↑(List.length (v.t)) : Int))) ∧ ((3 = 3) ∧ (∃ x18 : List S30, ((List.flatMap encS (v.t) = List.flatMap encS x18) ∧ (∃ x19 : Nat, ((0 + Int.toNat (v.i) * 4 + 3 = x19 * 4 + 3) ∧ (∃ x20 : S30, ((x18[x19]? = some x20) ∧ (((0 ≤ IntKind.wrap .i64 (v.i - 1)) ∧ (IntKind.wrap .i64 (v.i - 1) < (↑(List.length (v.t)) : Int))) ∧ ((3 = 3) ∧ (∃ x21 : List S30, ((List.flatMap encS (v.t) = List.flatMap encS x21) ∧ (∃ x22 : Nat, ((0 + Int.toNat (IntKind.wrap .i64 (v.i - 1)) * 4 + 3 = x22 * 4 + 3) ∧ (∃ x23 : S30, ((x21[x22]? = some x23) ∧ bifW (cdec (x20.f1 = x23.f1)) ((∃ x24 : Bool, ((gleberef1_OkPrefix.f (x11.f0.f0) (x11.f0.f1.f0) (x11.f0.f1.f1) (IntKind.wrap .i64 (x14.f1 - 1)) = some x24) ∧ bifW (x24) (Kp) ((((Value.bool false = Value.bool false) ∧ (((zp 64) = (zp 64)) ∧ ((Value.slice (some { block := 65, off := 0 }) (List.length (v.t)) (1208925819614629174706176 + 4) = Value.slice (some { block := 65, off := 0 }) (List.length (v1.t)) (1208925819614629174706176 + 4)) ∧ ((zii (↑(List.length (v.t)) : Int) = zii (↑(List.length (v1.t)) : Int)) ∧ ((zii (IntKind.wrap .i64 (v.i + 1)) = zii (v1.i)) ∧ True))))) ∧ ((((zii (v.r0) = zii (v1.r0)) ∧ ((ziu (v.r1) = ziu (v1.r1)) ∧ ((ziu (v.r2) = ziu (v1.r2)) ∧ ((zii (v.r3) = zii (v1.r3)) ∧ ((ziu (v.r4) = ziu (v1.r4)) ∧ ((ziu (v.r5) = ziu (v1.r5)) ∧ True)))))) ∧ ((105 = 105) ∧ (false = false))) ∧ ((List.flatMap encS (v.t) = List.flatMap encS (v1.t)) ∧ ((60 = 60) ∧ (false = false))))))))) ((((Value.bool false = Value.bool false) ∧ (((zp 64) = (zp 64)) ∧ ((Value.slice (some { block := 65, off := 0 }) (List.length (v.t)) (1208925819614629174706176 + 4) = Value.slice (some { block := 65, off := 0 }) (List.length (v1.t)) (1208925819614629174706176 + 4)) ∧ ((zii (↑(List.length (v.t)) : Int) = zii (↑(List.length (v1.t)) : Int)) ∧ ((zii (IntKind.wrap .i64 (v.i + 1)) = zii (v1.i)) ∧ True))))) ∧ ((((zii (v.r0) = zii (v1.r0)) ∧ ((ziu (v.r1) = ziu (v1.r1)) ∧ ((ziu (v.r2) = ziu (v1.r2)) ∧ ((zii (v.r3) = zii (v1.r3)) ∧ ((ziu (v.r4) = ziu (v1.r4)) ∧ ((ziu (v.r5) = ziu (v1.r5)) ∧ True)))))) ∧ ((105 = 105) ∧ (false = false))) ∧ ((List.flatMap encS (v.t) = List.flatMap encS (v1.t)) ∧ ((60 = 60) ∧ (false = false))))))))))))))))))))))))))))))))))))))))))))))))))))))))))))))))))))))))) (Kp)) := by kernel_rfl
theorem vcRg (v a b n : Int) (Q : Value → Prop) : codeX Tryz.prog (cwC L8) oxRg lxRg (bodyOf Tryz.f8) (inTab [.int .i64 v, .int .u64 a, .int .u64 b, .int .u64 n] 8) (birth [] 64) (retW Tryz.prog Tryz.f8 fun v _ => Q v) = ((∃ x0 : Int × Int × Int × Int × Int × Int, ((glebelaw4_Rang.f v a b n = some x0) ∧ (∃ x1 : List S30, ((covF (x0.1, Prod.fst (x0.2), Prod.fst (Prod.snd (x0.2)), Prod.fst (Prod.snd (Prod.snd (x0.2))), Prod.fst (Prod.snd (Prod.snd (Prod.snd (x0.2)))), Prod.snd (Prod.snd (Prod.snd (Prod.snd (x0.2))))) = some x1) ∧ ((x1 ≠ []) ∧ bifW (cdec ((↑(List.length x1) : Int) = 0)) (Q (Value.bool false)) (bifW (cdec (254 < (↑(List.length x1) : Int))) (Q (Value.bool false)) (((((0 : Int) ≤ 0) ∧ (0 < (↑(List.length x1) : Int))) ∧ ((28 = 28) ∧ (∃ x2 : List S30, ((List.flatMap encS x1 = List.flatMap encS x2) ∧ (∃ x3 : Nat, ((0 + Int.toNat 0 * 4 + 0 = x3 * 4 + 0) ∧ (∃ x4 : S30, ((x2[x3]? = some x4) ∧ bifW (!(cdec (x4.f0.f0 = x0.1) && (cdec (x4.f0.f1.f0 = Prod.fst (x0.2)) && (cdec (x4.f0.f1.f1 = Prod.fst (Prod.snd (x0.2))) && true)))) (Q (Value.bool false)) ((((0 ≤ IntKind.wrap .i64 ((↑(List.length x1) : Int) - 1)) ∧ (IntKind.wrap .i64 ((↑(List.length x1) : Int) - 1) < (↑(List.length x1) : Int))) ∧ ((30 = 30) ∧ (∃ x5 : List S30, ((List.flatMap encS x1 = List.flatMap encS x5) ∧ (∃ x6 : Nat, ((0 + Int.toNat (IntKind.wrap .i64 ((↑(List.length x1) : Int) - 1)) * 4 = x6 * 4) ∧ (∃ x7 : S30, ((x5[x6]? = some x7) ∧ (∃ x8 : Int × Int × Int, ((gleberef1_Last.f (x7.f0.f0) (x7.f0.f1.f0) (x7.f0.f1.f1) (x7.f1) = some x8) ∧ bifW (!(cdec (x8.1 = Prod.fst (Prod.snd (Prod.snd (x0.2)))) && (cdec (Prod.fst (x8.2) = Prod.fst (Prod.snd (Prod.snd (Prod.snd (x0.2))))) && (cdec (Prod.snd (x8.2) = Prod.snd (Prod.snd (Prod.snd (Prod.snd (x0.2))))) && true)))) (Q (Value.bool false)) ((∃ x9 : RgV, ((((Value.bool false = Value.bool false) ∧ (((zp 64) = (zp 64)) ∧ ((Value.slice (some { block := 65, off := 0 }) (List.length x1) (1208925819614629174706176 + 4) = Value.slice (some { block := 65, off := 0 }) (List.length (x9.t)) (1208925819614629174706176 + 4)) ∧ ((zii (↑(List.length x1) : Int) = zii (↑(List.length (x9.t)) : Int)) ∧ ((zii 0 = zii (x9.i)) ∧ True))))) ∧ ((((zii (x0.1) = zii (x9.r0)) ∧ ((ziu (Prod.fst (x0.2)) = ziu (x9.r1)) ∧ ((ziu (Prod.fst (Prod.snd (x0.2))) = ziu (x9.r2)) ∧ ((zii (Prod.fst (Prod.snd (Prod.snd (x0.2)))) = zii (x9.r3)) ∧ ((ziu (Prod.fst (Prod.snd (Prod.snd (Prod.snd (x0.2))))) = ziu (x9.r4)) ∧ ((ziu (Prod.snd (Prod.snd (Prod.snd (Prod.snd (x0.2))))) = ziu (x9.r5)) ∧ True)))))) ∧ ((2 * 52 + 1 = 105) ∧ (false = false))) ∧ ((List.flatMap encS x1 = List.flatMap encS (x9.t)) ∧ ((2 * 30 = 60) ∧ (false = false))))) ∧ (∃ x10 : RgV, ((Star StepRg x9 x10) ∧ bifW (cdec (x10.i < (↑(List.length (x10.t)) : Int))) ((((0 ≤ x10.i) ∧ (x10.i < (↑(List.length (x10.t)) : Int))) ∧ ((30 = 30) ∧ (∃ x11 : List S30, ((List.flatMap encS (x10.t) = List.flatMap encS x11) ∧ (∃ x12 : Nat, ((0 + Int.toNat (x10.i) * 4 = x12 * 4) ∧ (∃ x13 : S30, ((x11[x12]? = some x13) ∧ (∃ x14 : Bool, ((gleberef1_OkPrefix.f (x13.f0.f0) (x13.f0.f1.f0) (x13.f0.f1.f1) (x13.f1) = some x14) ∧ bifW (!x14) (Q (Value.bool false)) (bifW (cdec (x10.i = 0)) (False) ((((0 ≤ IntKind.wrap .i64 (x10.i - 1)) ∧ (IntKind.wrap .i64 (x10.i - 1) < (↑(List.length (x10.t)) : Int))) ∧ ((30 = 30) ∧ (∃ x15 : List S30, ((List.flatMap encS (x10.t) = List.flatMap encS x15) ∧ (∃ x16 : Nat, ((0 + Int.toNat (IntKind.wrap .i64 (x10.i - 1)) * 4 = x16 * 4) ∧ (∃ x17 : S30, ((x15[x16]? = some x17) ∧ (∃ x18 : Int × Int × Int, ((gleberef1_Last.f (x17.f0.f0) (x17.f0.f1.f0) (x17.f0.f1.f1) (x17.f1) = some x18) ∧ (∃ x19 : Int × Int × Int × Bool, ((gleberef1_Next.f (x18.1) (Prod.fst (x18.2)) (Prod.snd (x18.2)) = some x19) ∧ (((0 ≤ IntKind.wrap .i64 (x10.i - 1)) ∧ (IntKind.wrap .i64 (x10.i - 1) < (↑(List.length (x10.t)) : Int))) ∧ ((28 = 28) ∧ (∃ x20 : List S30, ((List.flatMap encS (x10.t) = List.flatMap encS x20) ∧ (∃ x21 : Nat, ((0 + Int.toNat (IntKind.wrap .i64 (x10.i - 1)) * 4 + 0 = x21 * 4 + 0) ∧ (∃ x22 : S30, ((x20[x21]? = some x22) ∧ (((0 ≤ x10.i) ∧ (x10.i < (↑(List.length (x10.t)) : Int))) ∧ ((3 = 3) ∧ (∃ x23 : List S30, ((List.flatMap encS (x10.t) = List.flatMap encS x23) ∧ (∃ x24 : Nat, ((0 + Int.toNat (x10.i) * 4 + 3 = x24 * 4 + 3) ∧ (∃ x25 : S30, ((x23[x24]? = some x25) ∧ bifW (!Prod.snd (Prod.snd (x19.2))) (Q (Value.bool false)) ((((0 ≤ x10.i) ∧ (x10.i < (↑(List.length (x10.t)) : Int))) ∧ ((28 = 28) ∧ (∃ x26 : List S30, ((List.flatMap encS (x10.t) = List.flatMap encS x26) ∧ (∃ x27 : Nat, ((0 + Int.toNat (x10.i) * 4 + 0 = x27 * 4 + 0) ∧ (∃ x28 : S30, ((x26[x27]? = some x28) ∧ bifW (!(cdec (x19.1 = x28.f0.f0) && (cdec (Prod.fst (x19.2) = x28.f0.f1.f0) && (cdec (Prod.fst (Prod.snd (x19.2)) = x28.f0.f1.f1) && true)))) (Q (Value.bool false)) ((((0 ≤ x10.i) ∧ (x10.i < (↑(List.length (x10.t)) : Int))) ∧ ((3 = 3) ∧ (∃ x29 : List S30, ((List.flatMap encS (x10.t) = List.flatMap encS x29) ∧ (∃ x30 : Nat, ((0 + Int.toNat (x10.i) * 4 + 3 = x30 * 4 + 3) ∧ (∃ x31 : S30, ((x29[x30]? = some x31) ∧ (((0 ≤ IntKind.wrap .i64 (x10.i - 1)) ∧ (IntKind.wrap .i64 (x10.i - 1) < (↑(List.length (x10.t)) : Int))) ∧ ((3 = 3) ∧ (∃ x32 : List S30, ((List.flatMap encS (x10.t) = List.flatMap encS x32) ∧ (∃ x33 : Nat, ((0 + Int.toNat (IntKind.wrap .i64 (x10.i - 1)) * 4 + 3 = x33 * 4 + 3) ∧ (∃ x34 : S30, ((x32[x33]? = some x34) ∧ bifW (cdec (x31.f1 = x34.f1)) ((∃ x35 : Bool, ((gleberef1_OkPrefix.f (x22.f0.f0) (x22.f0.f1.f0) (x22.f0.f1.f1) (IntKind.wrap .i64 (x25.f1 - 1)) = some x35) ∧ bifW (x35) (Q (Value.bool false)) (False)))) (False)))))))))))))))))))))))))))))))))))))))))))))))))))))))))))))))))))) ((∃ x11 : ByteArray, ((rang_Print.f (x10.r0) (x10.r1) (x10.r2) (x10.r3) (x10.r4) (x10.r5) = some x11) ∧ (∃ x12 : Int × Int × Int × Int × Int × Int × Bool, ((rang_Parse.f x11 = some x12) ∧ bifW (Prod.snd (Prod.snd (Prod.snd (Prod.snd (Prod.snd (x12.2)))))) (bifW (cdec (x12.1 = x10.r0) && (cdec (Prod.fst (x12.2) = x10.r1) && (cdec (Prod.fst (Prod.snd (x12.2)) = x10.r2) && (cdec (Prod.fst (Prod.snd (Prod.snd (x12.2))) = x10.r3) && (cdec (Prod.fst (Prod.snd (Prod.snd (Prod.snd (x12.2)))) = x10.r4) && (cdec (Prod.fst (Prod.snd (Prod.snd (Prod.snd (Prod.snd (x12.2))))) = x10.r5) && true)))))) ((∃ x13 : Bool, ((some true = some x13) ∧ Q (Value.bool x13)))) (Q (Value.bool false))) (Q (Value.bool false))))))))))))))))))))))))))))))))))))))) := by kernel_rfl
end Go.Proofs.YtfnacgojmdbjmaaGreatDoor
end

section
/- Conditions, reckoned by the kernel. -/
namespace Go.Proofs.YtfnacgojmdbjmaaGreatDoor
open Go.Det Go.RowKit Go.Proofs.YtfnacgojmdbjmaaGreatDoor.PRD Go.Proofs.YtfnacgojmdbjmaaGreatDoorW.PrintWords
set_option maxRecDepth 100000
end Go.Proofs.YtfnacgojmdbjmaaGreatDoor
end

section
/- The prefixes of a range, each as wide as can be: how many there are at most; that Cover tells them. No conditions. -/
namespace Go.Proofs.YtfnacgojmdbjmaaGreatDoor.PRD
open Go Go.RowKit Go.Proofs.YtfnacgojmdbjmaaGreatDoorW.PrintWords Go.Proofs.YtfnacgojmdbjmaaGreatDoorW.PrintLast Go.Proofs.YtfnacgojmdbjmaaGreatDoorW.PrintMore
open Go.Det (inQ inU M64 M128 qn addN highN clampN maskN inQ_quad qn_quad)
def Widest (B hi q n : Nat) : Prop := ∀ i, i < n → q % 2 ^ (B - i) = 0 → hi < q + (2 ^ (B - i) - 1)
inductive Greedy (V : Int) (B hi : Nat) : Nat → List S30 → Prop
  | last (q n : Nat) : n ≤ B → q % 2 ^ (B - n) = 0 → q + (2 ^ (B - n) - 1) = hi → Widest B hi q n → Greedy V B hi q [mkP V q n]
  | step (q n : Nat) (t : List S30) : n ≤ B → q % 2 ^ (B - n) = 0 → q + (2 ^ (B - n) - 1) < hi → Widest B hi q n → Greedy V B hi (q + 2 ^ (B - n)) t → Greedy V B hi q (mkP V q n :: t)
theorem Greedy.ne {V : Int} {B hi q : Nat} {t : List S30} (h : Greedy V B hi q t) : t ≠ [] := by cases h <;> simp
theorem pick {V : Int} {B q hi : Nat} (h : Kd' V B) (hq : q < 2 ^ B) (hle : q ≤ hi) : ∃ n, n ≤ B ∧ q % 2 ^ (B - n) = 0 ∧ q + (2 ^ (B - n) - 1) ≤ hi ∧ Widest B hi q n := by
  obtain ⟨m, m1, m2, m3, m4, _⟩ := widest_at h hq hle (Nat.le_refl _)
  exact ⟨m, m1, m2, m3, m4⟩
theorem mod_le {q i j : Nat} (h : i ≤ j) (hq : q % 2 ^ j = 0) : q % 2 ^ i = 0 :=
  Nat.mod_eq_zero_of_dvd (Nat.dvd_trans (Nat.pow_dvd_pow 2 h) (Nat.dvd_of_mod_eq_zero hq))
theorem mod_add {q j : Nat} (hq : q % 2 ^ j = 0) : (q + 2 ^ j) % 2 ^ j = 0 := by rw [Nat.add_mod_right]; exact hq
theorem mod_odd {q j : Nat} (hq : q % 2 ^ j = 0) (h : q % 2 ^ (j + 1) ≠ 0) : (q + 2 ^ j) % 2 ^ (j + 1) = 0 := by
  obtain ⟨m, rfl⟩ := Nat.dvd_of_mod_eq_zero hq
  have e : 2 ^ (j + 1) = 2 ^ j * 2 := Nat.pow_succ _ _
  rw [e] at h ⊢
  rw [Nat.mul_mod_mul_left] at h
  have hm : m % 2 = 1 := by
    rcases Nat.mod_two_eq_zero_or_one m with c | c
    · rw [c] at h; simp at h
    · exact c
  rw [show 2 ^ j * m + 2 ^ j = 2 ^ j * (m + 1) by rw [Nat.mul_add, Nat.mul_one], Nat.mul_mod_mul_left, show (m + 1) % 2 = 0 by omega, Nat.mul_zero]
theorem greedy_down {V : Int} {B hi : Nat} (h : Kd' V B) (hhi : hi < 2 ^ B) : ∀ (j q : Nat), j ≤ B → q ≤ hi → q % 2 ^ j = 0 → hi - q + 1 < 2 ^ j → ∃ t, Greedy V B hi q t ∧ t.length ≤ j := by
  intro j
  induction j using Nat.strongRecOn with
  | _ j ih =>
    intro q hj hle ha hR
    have hq : q < 2 ^ B := Nat.lt_of_le_of_lt hle hhi
    obtain ⟨n, n1, n2, n3, n4⟩ := pick h hq hle
    have hp := Nat.pow_pos (n := B - n) (show 0 < 2 by decide)
    have hlt : B - n < j := by
      rcases Nat.lt_or_ge (B - n) j with c | c
      · exact c
      · have : 2 ^ j ≤ 2 ^ (B - n) := Nat.pow_le_pow_right (by decide) c
        omega
    by_cases c : q + (2 ^ (B - n) - 1) = hi
    · exact ⟨_, .last q n n1 n2 c n4, by simp; omega⟩
    · have hn0 : 0 < n := by omega
      have hw := n4 (n - 1) (by omega) (mod_le (by omega) ha)
      have e : 2 ^ (B - (n - 1)) = 2 ^ (B - n) * 2 := by rw [show B - (n - 1) = (B - n) + 1 by omega, Nat.pow_succ]
      rw [e] at hw
      obtain ⟨t, t1, t2⟩ := ih (B - n) hlt (q + 2 ^ (B - n)) (by omega) (by omega) (mod_add n2) (by omega)
      exact ⟨_, .step q n t n1 n2 (by omega) n4 t1, by simp only [List.length_cons]; omega⟩
theorem greedy_up {V : Int} {B hi : Nat} (h : Kd' V B) (hhi : hi < 2 ^ B) : ∀ (d a q : Nat), B - a ≤ d → a + 1 ≤ B → q ≤ hi → q % 2 ^ a = 0 → (0 < q ∨ a = 0) → ∃ t, Greedy V B hi q t ∧ t.length + a ≤ 2 * (B - 1) := by
  have hB2 : 2 ≤ B := by rcases h with ⟨_, rfl⟩ | ⟨_, rfl⟩ <;> decide
  intro d
  induction d with
  | zero => intro a q hd ha; omega
  | succ d ih =>
    intro a q hd ha hle hal h0
    have hq : q < 2 ^ B := Nat.lt_of_le_of_lt hle hhi
    by_cases hR : hi - q + 1 < 2 ^ a
    · obtain ⟨t, t1, t2⟩ := greedy_down h hhi a q (by omega) hle hal hR
      exact ⟨t, t1, by omega⟩
    · obtain ⟨n, n1, n2, n3, n4⟩ := pick h hq hle
      have hp := Nat.pow_pos (n := B - n) (show 0 < 2 by decide)
      have hpa := Nat.pow_pos (n := a) (show 0 < 2 by decide)
      have hja : a ≤ B - n := by
        rcases Nat.lt_or_ge (B - n) a with c | c
        · have := n4 (B - a) (by omega) (by rw [show B - (B - a) = a by omega]; exact hal)
          rw [show B - (B - a) = a by omega] at this
          omega
        · exact c
      by_cases c : q + (2 ^ (B - n) - 1) = hi
      · exact ⟨_, .last q n n1 n2 c n4, by simp; omega⟩
      ·
        have hn0 : 0 < n := by
          rcases Nat.eq_zero_or_pos n with c0 | c0
          · subst c0
            rw [Nat.sub_zero] at n3 c
            omega
          · exact c0
        have e : 2 ^ (B - (n - 1)) = 2 ^ (B - n) * 2 := by rw [show B - (n - 1) = (B - n) + 1 by omega, Nat.pow_succ]
        by_cases hfit : hi < q + (2 ^ (B - n) * 2 - 1)
        ·
          obtain ⟨t, t1, t2⟩ := greedy_down h hhi (B - n) (q + 2 ^ (B - n)) (by omega) (by omega) (mod_add n2) (by omega)
          refine ⟨_, .step q n t n1 n2 (by omega) n4 t1, ?_⟩
          simp only [List.length_cons]
          by_cases hn1 : n = 1
          · subst hn1
            rcases h0 with h0 | h0
            · exfalso
              obtain ⟨m, rfl⟩ := Nat.dvd_of_mod_eq_zero n2
              have eB : 2 ^ B = 2 ^ (B - 1) * 2 := by rw [← Nat.pow_succ]; congr 1; omega
              have hm : m = 1 := by
                rw [eB] at hq
                have h2 : m < 2 := Nat.lt_of_mul_lt_mul_left hq
                rcases Nat.eq_zero_or_pos m with c1 | c1
                · subst c1; simp at h0
                · omega
              subst hm
              rw [eB] at hhi
              omega
            · omega
          · omega
        · have hodd : q % 2 ^ (B - n + 1) ≠ 0 := by
            intro hz
            have hw := n4 (n - 1) (by omega) (by rw [show B - (n - 1) = B - n + 1 by omega]; exact hz)
            rw [e] at hw
            exact hfit hw
          have hn2 : 2 ≤ n := by
            rcases Nat.lt_or_ge n 2 with c2 | c2
            · exfalso
              obtain rfl : n = 1 := by omega
              have eB : 2 ^ B = 2 ^ (B - 1) * 2 := by rw [← Nat.pow_succ]; congr 1; omega
              apply hodd
              have hq0 : q = 0 := by omega
              rw [hq0, Nat.zero_mod]
            · exact c2
          obtain ⟨t, t1, t2⟩ := ih (B - n + 1) (q + 2 ^ (B - n)) (by omega) (by omega) (by omega) (mod_odd n2 hodd) (.inl (by omega))
          exact ⟨_, .step q n t n1 n2 (by omega) n4 t1, by simp only [List.length_cons]; omega⟩
theorem greedy_at {V : Int} {B hi q : Nat} (h : Kd' V B) (hhi : hi < 2 ^ B) (hle : q ≤ hi) : ∃ t, Greedy V B hi q t ∧ t.length ≤ 254 := by
  have hB := h.le
  have hB2 : 2 ≤ B := by rcases h with ⟨_, rfl⟩ | ⟨_, rfl⟩ <;> decide
  obtain ⟨t, t1, t2⟩ := greedy_up h hhi B 0 q (by omega) (by omega) hle (by simp [Nat.mod_one]) (.inr rfl)
  exact ⟨t, t1, by omega⟩
theorem widest_one {B hi q m n : Nat} (hm1 : m ≤ B) (hn1 : n ≤ B) (ma : q % 2 ^ (B - m) = 0) (na : q % 2 ^ (B - n) = 0) (mf : q + (2 ^ (B - m) - 1) ≤ hi) (nf : q + (2 ^ (B - n) - 1) ≤ hi) (mw : Widest B hi q m) (nw : Widest B hi q n) : m = n := by
  rcases Nat.lt_trichotomy m n with c | c | c
  · have := nw m c ma; omega
  · exact c
  · have := mw n c na; omega
theorem cover_greedy {V : Int} {B hi : Nat} (h : Kd' V B) (hhi : hi < 2 ^ B) (a b c : Int) {q : Nat} {t : List S30} (hg : Greedy V B hi q t) : ∀ (k : Nat) (out : List S30), t.length + B + 4 ≤ k → out.length + t.length < 4398046511104 →
    rang_Cover.l0 k out a b c V (H hi) (L hi) V (H q) (L q) = some (out ++ t) := by
  induction hg with
  | last q n h1 h2 h3 h4 =>
    intro k out hk hlen
    obtain ⟨k, rfl⟩ : ∃ m, k = m + 2 := ⟨k - 2, by omega⟩
    have hp := Nat.pow_pos (n := B - n) (show 0 < 2 by decide)
    have hle : q ≤ hi := by omega
    have hq : q < 2 ^ B := Nat.lt_of_le_of_lt hle hhi
    simp only [List.length_singleton] at hk hlen
    obtain ⟨m, m1, m2, m3, m4, m5⟩ := widest_at h hq hle (k := k + 1) (by omega)
    obtain rfl := widest_one m1 h1 m2 h2 m3 (by omega) m4 h4
    have e2 := pLast h hq m1 m2
    have e3 := next_at h (show q + (2 ^ (B - m) - 1) < 2 ^ B by omega)
    have heq : q + (2 ^ (B - m) - 1) + 1 = q + 2 ^ (B - m) := by omega
    rw [heq] at e3
    have e4 := less_at V (a := hi) (b := q + 2 ^ (B - m))
    rw [rang_Cover.l0, m5, Option.bind_some, if_pos (by omega), Option.bind_some]
    simp only
    rw [e2, Option.bind_some]
    simp only
    rw [e3]
    by_cases c2 : q + 2 ^ (B - m) < 2 ^ B
    · rw [if_pos c2, Option.bind_some, if_pos rfl]
      simp only
      rw [e4, Option.bind_some, if_pos (decide_eq_true (by omega))]
      rfl
    · rw [if_neg c2, Option.bind_some, if_neg (by decide)]
      rfl
  | step q n t h1 h2 h3 h4 h5 ih =>
    intro k out hk hlen
    obtain ⟨k, rfl⟩ : ∃ m, k = m + 2 := ⟨k - 2, by omega⟩
    have hp := Nat.pow_pos (n := B - n) (show 0 < 2 by decide)
    have hle : q ≤ hi := by omega
    have hq : q < 2 ^ B := Nat.lt_of_le_of_lt hle hhi
    simp only [List.length_cons] at hk hlen
    obtain ⟨m, m1, m2, m3, m4, m5⟩ := widest_at h hq hle (k := k + 1) (by omega)
    obtain rfl := widest_one m1 h1 m2 h2 m3 (by omega) m4 h4
    have e2 := pLast h hq m1 m2
    have e3 := next_at h (show q + (2 ^ (B - m) - 1) < 2 ^ B by omega)
    have heq : q + (2 ^ (B - m) - 1) + 1 = q + 2 ^ (B - m) := by omega
    rw [heq] at e3
    have e4 := less_at V (a := hi) (b := q + 2 ^ (B - m))
    have t2 := ih (k + 1) (out ++ [mkP V q m]) (by omega) (by rw [List.length_append]; simp; omega)
    rw [rang_Cover.l0, m5, Option.bind_some, if_pos (by omega), Option.bind_some]
    simp only
    rw [e2, Option.bind_some]
    simp only
    rw [e3]
    rw [if_pos (show q + 2 ^ (B - m) < 2 ^ B by omega), Option.bind_some, if_pos rfl]
    simp only
    rw [e4, Option.bind_some, if_neg (by simp; omega)]
    rw [List.append_assoc] at t2
    exact t2
theorem cover_any {V : Int} {B q hi : Nat} (h : Kd' V B) (hhi : hi < 2 ^ B) (hle : q ≤ hi) :
    ∃ t, Greedy V B hi q t ∧ t.length ≤ 254 ∧ rang_Cover.f 400 V (H q) (L q) V (H hi) (L hi) = some t := by
  have hB := h.le
  obtain ⟨t, t1, t2⟩ := greedy_at h hhi hle
  refine ⟨t, t1, t2, ?_⟩
  unfold rang_Cover.f
  rw [rangOk_at h hhi hle, Option.bind_some, if_pos rfl]
  exact cover_greedy h hhi V (H q) (L q) t1 400 [] (by omega) (by simp; omega)
end Go.Proofs.YtfnacgojmdbjmaaGreatDoor.PRD
end

section
/- RangOver: the law's condition is met, whatever the numbers. No conditions. -/
namespace Go.Proofs.YtfnacgojmdbjmaaGreatDoor.PRD
open Go Go.RowKit Go.Proofs.YtfnacgojmdbjmaaGreatDoorW.PrintWords Go.Proofs.YtfnacgojmdbjmaaGreatDoorW.PrintLast Go.Proofs.YtfnacgojmdbjmaaGreatDoorW.PrintMore
open Go.Det (inQ inU M64 M128 qn addN highN clampN maskN inQ_quad qn_quad)
def Vof (v : Int) : Int := if Go.bits .and .i64 v 1 = 0 then 4 else 6
theorem addr_V {v a b V h l : Int} (h1 : glebelaw2_Addr.f 300 v a b = some (V, h, l)) (ha : 0 ≤ a) (ha2 : a < 18446744073709551616) (hb : 0 ≤ b) (hb2 : b < 18446744073709551616) : V = Vof v := by
  unfold glebelaw2_Addr.f at h1
  unfold Vof
  split at h1
  · rename_i c
    rw [if_pos c]
    rw [if_pos (wrapu_pos _)] at h1
    cases h1; rfl
  · rename_i c
    rw [if_neg c]
    obtain ⟨h', l', e, _⟩ := addr_l0 v 8 300 a b (by omega) (by omega) ha ha2 hb hb2
    rw [show (8 : Int) - ((8 : Nat) : Int) = 0 by decide] at e
    rw [e] at h1
    cases h1; rfl
theorem add_any {q n : Nat} (hq : q < M128) (hn : n < 18446744073709551616) : gleberef1_Add.f (H q) (L q) 0 (n : Int) = if q + n < M128 then some (H (q + n), L (q + n), true) else some (0, 0, false) := by
  have h1 := Nat.div_add_mod q M64
  have l1 := L_lt q
  have x1 := H_lt hq
  have h2 := Nat.div_add_mod (q + n) M64
  have l2 := L_lt (q + n)
  have hM : M64 = 18446744073709551616 := rfl
  have hM2 : M128 = 340282366920938463463374607431768211456 := by decide
  unfold gleberef1_Add.f H L
  generalize q / M64 = x at *
  generalize q % M64 = z at *
  generalize (q + n) / M64 = x' at *
  generalize (q + n) % M64 = z' at *
  rw [hM] at h1 h2
  rw [hM2]
  simp only [IntKind.wrap_u64]
  by_cases c : z + n < 18446744073709551616
  · rw [if_neg (by omega), if_neg (by omega), if_neg (by omega), if_pos (by omega)]
    simp only [Option.some.injEq, Prod.mk.injEq, and_true]
    omega
  · rw [if_pos (by omega), if_neg (by omega)]
    by_cases c2 : q + n < 340282366920938463463374607431768211456
    · rw [if_neg (by omega), if_pos c2]
      simp only [Option.some.injEq, Prod.mk.injEq, and_true]
      omega
    · rw [if_pos (by omega), if_neg c2]
theorem shrU {n s : Int} (h0 : 0 ≤ n) (h1 : n < 18446744073709551616) : ∃ N : Nat, N < 18446744073709551616 ∧ Go.Det.shrI .u64 n s = (N : Int) := by
  unfold Go.Det.shrI
  have hp : (0 : Int) < 2 ^ min s.toNat IntKind.u64.bits := Int.pow_pos (by decide)
  rw [Int.fdiv_eq_ediv_of_nonneg _ (by omega)]
  have a := Int.ediv_nonneg h0 (Int.le_of_lt hp)
  have b := Int.ediv_le_self (2 ^ min s.toNat IntKind.u64.bits) h0
  exact ⟨(n / 2 ^ min s.toNat IntKind.u64.bits).toNat, by omega, by omega⟩
theorem rang_at (v a b n : Int) (ha : 0 ≤ a) (ha2 : a < 18446744073709551616) (hb : 0 ≤ b) (hb2 : b < 18446744073709551616) (hn : 0 ≤ n) (hn2 : n < 18446744073709551616) :
    ∃ B q hi, Kd' (Vof v) B ∧ q ≤ hi ∧ hi < 2 ^ B ∧ glebelaw4_Rang.f v a b n = some (Vof v, H q, L q, Vof v, H hi, L hi) := by
  obtain ⟨V, B, q, h, hq, e1⟩ := addr_at (k := 300) (by decide) v a b ha ha2 hb hb2
  obtain rfl := addr_V e1 ha ha2 hb hb2
  obtain ⟨N, hN, eN⟩ := shrU (s := IntKind.u64.wrap (Go.Det.andI .i64 (Go.Det.shrI .i64 v 9) 63)) hn hn2
  have e2 := add_any (h.pow hq) hN
  unfold glebelaw4_Rang.f
  rw [e1, Option.bind_some]
  simp only
  rw [eN, e2]
  by_cases c : q + N < M128
  · rw [if_pos c, Option.bind_some]
    simp only
    rw [if_pos trivial, rOk_eq, okHL h c, Option.bind_some]
    by_cases c2 : q + N < 2 ^ B
    · rw [if_pos (decide_eq_true c2)]
      exact ⟨B, q, q + N, h, Nat.le_add_right _ _, c2, rfl⟩
    · rw [if_neg (by simpa using c2)]
      exact ⟨B, q, q, h, Nat.le_refl _, hq, rfl⟩
  · rw [if_neg c, Option.bind_some]
    exact ⟨B, q, q, h, Nat.le_refl _, hq, rfl⟩
theorem cov_some {V : Int} {q hi : Nat} {t : List S30} (h : rang_Cover.f 400 V (H q) (L q) V (H hi) (L hi) = some t) : covF (V, H q, L q, V, H hi, L hi) = some t := by
  refine lim_of (k := 400) (fun i j x y hx hy => ?_) h
  have key : ∀ i j x, i ≤ j → rang_Cover.f i V (H q) (L q) V (H hi) (L hi) = some x → rang_Cover.f j V (H q) (L q) V (H hi) (L hi) = some x := fun i j x hij hx =>
    or_eq_some (f := fun k => rang_Cover.f k V (H q) (L q) V (H hi) (L hi)) (fun k => rang_Cover.mono _ _ _ _ _ _ k) hx j hij
  rcases Nat.le_total i j with c | c
  · have := key i j x c hx
    have := this.symm.trans hy
    cases this; rfl
  · have := key j i y c hy
    have := this.symm.trans hx
    cases this; rfl
end Go.Proofs.YtfnacgojmdbjmaaGreatDoor.PRD
namespace Go.Proofs.YtfnacgojmdbjmaaGreatDoor
open Go.Det Go.RowKit Go.Proofs.YtfnacgojmdbjmaaGreatDoor.PRD Go.Proofs.YtfnacgojmdbjmaaGreatDoorW.PrintWords
set_option maxRecDepth 100000
theorem wrap1 {i : Nat} (h : i < 1000) : IntKind.wrap IntKind.i64 ((i : Int) + 1) = ((i + 1 : Nat) : Int) := by rw [IntKind.wrap_i64]; omega
theorem bif_yes {b : Bool} {A B : Prop} (h : b = true) (k : A) : bifW b A B := by rw [h]; exact k
theorem bif_no {b : Bool} {A B : Prop} (h : b = false) (k : B) : bifW b A B := by rw [h]; exact k
end Go.Proofs.YtfnacgojmdbjmaaGreatDoor
end

section
/- RangCover: the law's condition is met, whatever the numbers. No conditions. -/
namespace Go.Proofs.YtfnacgojmdbjmaaGreatDoor
open Go.Det Go.RowKit Go.Proofs.YtfnacgojmdbjmaaGreatDoor.PRD Go.Proofs.YtfnacgojmdbjmaaGreatDoorW.PrintWords
set_option maxRecDepth 100000
theorem okP_any {V : Int} {B q n : Nat} (h : Kd' V B) (hq : q < 2 ^ B) (hn : n ≤ B) (ha : q % 2 ^ (B - n) ≠ 0) : gleberef1_OkPrefix.f V (H q) (L q) (n : Int) = some false := by
  have e2 := and_cut (m := n) h hq
  have e3 := rAll h hn
  have hd := Nat.div_add_mod q (2 ^ (B - n))
  have hne : 2 ^ (B - n) * (q / 2 ^ (B - n)) ≠ q := by omega
  generalize 2 ^ (B - n) * (q / 2 ^ (B - n)) = c at *
  generalize 2 ^ B - 2 ^ (B - n) = d at *
  unfold gleberef1_OkPrefix.f
  rw [rOk_eq, PRD.okA h hq, Option.bind_some, if_pos rfl, if_pos (by omega), h.rbits, Option.bind_some, if_pos (by omega), e3, Option.bind_some, e2, Option.bind_some, HL_beq]
  exact congrArg some (decide_eq_false hne)
theorem okP_neg {V : Int} {B q : Nat} (h : Kd' V B) (hq : q < 2 ^ B) {n : Int} (hn : n < 0) : gleberef1_OkPrefix.f V (H q) (L q) n = some false := by
  unfold gleberef1_OkPrefix.f
  rw [rOk_eq, PRD.okA h hq, Option.bind_some, if_pos rfl, if_neg (by omega)]
theorem rnext_at {V : Int} {B q : Nat} (h : Kd' V B) (hq : q + 1 < 2 ^ B) : gleberef1_Next.f V (H q) (L q) = some (V, H (q + 1), L (q + 1), true) := by
  have hq0 : q < 2 ^ B := by omega
  have e := add_any (q := q) (n := 1) (h.pow hq0) (by omega)
  rw [if_pos (h.pow hq)] at e
  have e2 := PRD.okA h hq
  have ok := PRD.okA h hq0
  unfold gleberef1_Next.f
  rw [show (1 : Int) = ((1 : Nat) : Int) from rfl, e, Option.bind_some, rOk_eq, ok, Option.bind_some, if_pos rfl, if_pos rfl]
  simp only
  rw [rOk_eq, e2, Option.bind_some, if_pos rfl]
def rgV (V : Int) (q hi : Nat) (t : List S30) (i : Int) : RgV := ⟨V, H q, L q, V, H hi, L hi, t, i⟩
theorem wrapm {j : Nat} (h : j < 1000) : IntKind.wrap IntKind.i64 (((j + 1 : Nat) : Int) - 1) = ((j : Nat) : Int) := by rw [IntKind.wrap_i64]; omega
structure Ahead (V : Int) (B hi : Nat) (t : List S30) (i x : Nat) : Prop where
  ex : i = 0 ∨ ∃ j p m, i = j + 1 ∧ t[j]? = some (mkP V p m) ∧ m ≤ B ∧ p % 2 ^ (B - m) = 0 ∧ p + 2 ^ (B - m) = x ∧ Widest B hi p m
theorem rgStep {V : Int} {B q0 hi x n : Nat} {t : List S30} {i : Nat} (h : Kd' V B) (hhi : hi < 2 ^ B) (hn : n ≤ B) (hxa : x % 2 ^ (B - n) = 0) (hx : x + (2 ^ (B - n) - 1) ≤ hi)
    (hi' : i < 1000) (hg : t[i]? = some (mkP V x n)) (hA : Ahead V B hi t i x) :
    StepRg (rgV V q0 hi t (i : Int)) (rgV V q0 hi t ((i + 1 : Nat) : Int)) := by
  have hlt : i < t.length := by
    rcases Nat.lt_or_ge i t.length with c | c
    · exact c
    · rw [List.getElem?_eq_none c] at hg; cases hg
  have hx2 : x < 2 ^ B := by omega
  have e1 := rOkP h hx2 hn hxa
  have w := wrap1 hi'
  have bi : (0 : Int) ≤ (i : Int) ∧ (i : Int) < (t.length : Int) := ⟨by omega, by omega⟩
  have ei : 0 + Int.toNat (i : Int) * 4 = i * 4 := by rw [Int.toNat_natCast, Nat.zero_add]
  refine (vcRgB _ _ False).mpr ?_
  refine bifW_c (fun _ => ?_) (fun hc => absurd bi.2 hc)
  refine ⟨bi, rfl, t, rfl, i, ei, mkP V x n, hg, true, e1, bif_no rfl ?_⟩
  refine bifW_c (fun hc => ⟨⟨rfl, rfl, rfl, rfl, congrArg (Value.int IntKind.i64) w, trivial⟩, ⟨⟨rfl, rfl, rfl, rfl, rfl, rfl, trivial⟩, rfl, rfl⟩, rfl, rfl, rfl⟩) (fun hc => ?_)
  rcases hA.ex with h0 | ⟨j, p, m, hij, hgj, hm, hpa, hpx, hw⟩
  · exact absurd (show (i : Int) = 0 by omega) hc
  subst hij
  have hpos := Nat.pow_pos (n := B - m) (show 0 < 2 by decide)
  have hp : p < 2 ^ B := by omega
  have wj := wrapm (j := j) (by omega)
  have bj : (0 : Int) ≤ IntKind.wrap IntKind.i64 (((j + 1 : Nat) : Int) - 1) ∧ IntKind.wrap IntKind.i64 (((j + 1 : Nat) : Int) - 1) < (t.length : Int) := by rw [wj]; omega
  have ej : 0 + Int.toNat (IntKind.wrap IntKind.i64 (((j + 1 : Nat) : Int) - 1)) * 4 = j * 4 := by rw [wj, Int.toNat_natCast, Nat.zero_add]
  have eL := rLast h hp hm hpa
  have eN := rnext_at (q := p + (2 ^ (B - m) - 1)) h (by omega)
  have epx : p + (2 ^ (B - m) - 1) + 1 = x := by omega
  rw [epx] at eN
  have eq3 : (cdec (V = V) && (cdec (H x = H x) && (cdec (L x = L x) && Bool.true))) = true := by
    rw [cdec_true.2 (rfl : V = V), cdec_true.2 (rfl : H x = H x), cdec_true.2 (rfl : L x = L x)]; rfl
  have eOk : (n : Int) = (m : Int) → gleberef1_OkPrefix.f V (H p) (L p) (IntKind.wrap IntKind.i64 ((n : Int) - 1)) = some false := by
    intro hnm
    have hnm : n = m := by omega
    subst hnm
    have hB := h.le
    by_cases hn0 : n = 0
    · subst hn0
      exact okP_neg h hp (by rw [IntKind.wrap_i64]; omega)
    · have ew : IntKind.wrap IntKind.i64 ((n : Int) - 1) = ((n - 1 : Nat) : Int) := by rw [IntKind.wrap_i64]; omega
      rw [ew]
      refine okP_any h hp (by omega) fun hmod => ?_
      have := hw (n - 1) (by omega) hmod
      have e2 : B - (n - 1) = (B - n) + 1 := by omega
      rw [e2, Nat.pow_succ] at this
      omega
  generalize p + (2 ^ (B - m) - 1) = z at *
  refine ⟨bj, rfl, t, rfl, j, ej, mkP V p m, hgj, _, eL, _, eN, bj, rfl, t, rfl, j, congrArg (· + 0) ej, mkP V p m, hgj, bi, rfl, t, rfl, j + 1, congrArg (· + 3) ei, mkP V x n, hg, bif_no rfl ?_⟩
  refine ⟨bi, rfl, t, rfl, j + 1, congrArg (· + 0) ei, mkP V x n, hg, bif_no (by show (!(cdec (V = V) && (cdec (H x = H x) && (cdec (L x = L x) && Bool.true)))) = false; rw [eq3]; rfl) ?_⟩
  refine ⟨bi, rfl, t, rfl, j + 1, congrArg (· + 3) ei, mkP V x n, hg, bj, rfl, t, rfl, j, congrArg (· + 3) ej, mkP V p m, hgj, ?_⟩
  exact bifW_c (fun hN => ⟨false, eOk hN, bif_no rfl ⟨⟨rfl, rfl, rfl, rfl, congrArg (Value.int IntKind.i64) w, trivial⟩, ⟨⟨rfl, rfl, rfl, rfl, rfl, rfl, trivial⟩, rfl, rfl⟩, rfl, rfl, rfl⟩⟩) (fun _ => ⟨⟨rfl, rfl, rfl, rfl, congrArg (Value.int IntKind.i64) w, trivial⟩, ⟨⟨rfl, rfl, rfl, rfl, rfl, rfl, trivial⟩, rfl, rfl⟩, rfl, rfl, rfl⟩)
theorem rgStar {V : Int} {B q0 hi : Nat} {t : List S30} (h : Kd' V B) (hhi : hi < 2 ^ B) (ht : t.length ≤ 254) {q : Nat} {suf : List S30} (hg : Greedy V B hi q suf) :
    ∀ (pre : List S30), t = pre ++ suf → Ahead V B hi t pre.length q → Star StepRg (rgV V q0 hi t (pre.length : Int)) (rgV V q0 hi t (t.length : Int)) := by
  induction hg with
  | last q n h1 h2 h3 h4 =>
    intro pre e hA
    have hi' : pre.length < 1000 := by rw [e] at ht; simp at ht; omega
    have hs := rgStep (q0 := q0) h hhi h1 h2 (by omega) hi' (by rw [e]; simp) hA
    have hl : t.length = pre.length + 1 := by rw [e]; simp
    rw [hl]
    exact .step hs (.refl _)
  | step q n s h1 h2 h3 h4 h5 ih =>
    intro pre e hA
    have hi' : pre.length < 1000 := by rw [e] at ht; simp at ht; omega
    have hgi : t[pre.length]? = some (mkP V q n) := by rw [e]; simp
    have hs := rgStep (q0 := q0) h hhi h1 h2 (by omega) hi' hgi hA
    have := ih (pre ++ [mkP V q n]) (by rw [e]; simp) ⟨.inr ⟨pre.length, q, n, by simp, hgi, h1, h2, rfl, h4⟩⟩
    rw [List.length_append, List.length_singleton] at this
    exact .step hs this
theorem greedy_last {V : Int} {B hi q : Nat} {t : List S30} (hg : Greedy V B hi q t) : ∃ p m, t[t.length - 1]? = some (mkP V p m) ∧ m ≤ B ∧ p % 2 ^ (B - m) = 0 ∧ p + (2 ^ (B - m) - 1) = hi := by
  induction hg with
  | last q n h1 h2 h3 h4 => exact ⟨q, n, rfl, h1, h2, h3⟩
  | step q n s h1 h2 h3 h4 h5 ih =>
    obtain ⟨p, m, e, r⟩ := ih
    refine ⟨p, m, ?_, r⟩
    have hne := h5.ne
    cases s with
    | nil => exact absurd rfl hne
    | cons x s => simpa using e
theorem greedy_first {V : Int} {B hi q : Nat} {t : List S30} (hg : Greedy V B hi q t) : ∃ n, t[0]? = some (mkP V q n) := by
  cases hg <;> exact ⟨_, rfl⟩
theorem app_ba2 (a b : List UInt8) : (⟨⟨a⟩⟩ : ByteArray) ++ ({ data := #[45] } : ByteArray) ++ (⟨⟨b⟩⟩ : ByteArray) = ⟨⟨a ++ 45 :: b⟩⟩ := by
  have h : ((⟨⟨a⟩⟩ : ByteArray) ++ ({ data := #[45] } : ByteArray) ++ (⟨⟨b⟩⟩ : ByteArray)).data.toList = a ++ 45 :: b := by simp
  have e : ∀ x : ByteArray, x = ⟨⟨x.data.toList⟩⟩ := fun _ => rfl
  rw [e ((⟨⟨a⟩⟩ : ByteArray) ++ ({ data := #[45] } : ByteArray) ++ (⟨⟨b⟩⟩ : ByteArray)), h]
theorem rback_at {V : Int} {B q hi : Nat} (h : Kd' V B) (hhi : hi < 2 ^ B) (hle : q ≤ hi) :
    ∃ s, rang_Print.f V (H q) (L q) V (H hi) (L hi) = some s ∧ rang_Parse.f s = some (V, H q, L q, V, H hi, L hi, true) := by
  obtain ⟨s, hs, e1, e2⟩ := back_at h (Nat.lt_of_le_of_lt hle hhi)
  obtain ⟨u, hu, d1, d2⟩ := back_at h hhi
  have ok := rangOk_at h hhi hle
  have l1 := hs.len
  have l2 := hu.len
  have s1 : ByteArray.size ({ data := #[45] } : ByteArray) = 1 := rfl
  refine ⟨⟨⟨s ++ 45 :: u⟩⟩, ?_, ?_⟩
  · unfold rang_Print.f
    rw [ok, Option.bind_some, if_pos rfl, e1, Option.bind_some, if_pos (by rw [s1, bsize]; omega), d1, Option.bind_some, if_pos (by rw [ByteArray.size_append, s1, bsize, bsize]; omega)]
    exact congrArg some (app_ba2 s u)
  · unfold rang_Parse.f
    have hc := cutF_at (s ++ 45 :: u) [45] (by simp only [List.length_append, List.length_cons]; omega)
    rw [Txt.cut_one _ hs.da] at hc
    have hc' : strings_Cut.f ⟨⟨s ++ 45 :: u⟩⟩ { data := #[45] } = some (⟨⟨s⟩⟩, ⟨⟨u⟩⟩, true) := hc
    rw [hc', Option.bind_some]
    simp only
    rw [e2, Option.bind_some, d2, Option.bind_some]
    simp only [if_true]
    rw [ok, Option.bind_some, if_pos rfl]
theorem rg_w (v a b n : Int) (ha : (Lit.int .u64 a).wf = true) (hb : (Lit.int .u64 b).wf = true) (hn : (Lit.int .u64 n).wf = true) :
    codeW Tryz.prog (cwC L8) (bodyOf Tryz.f8) (inTab [.int .i64 v, .int .u64 a, .int .u64 b, .int .u64 n] 8) (birth [] 64) (retW Tryz.prog Tryz.f8 fun v' _ => v' = .bool true) := by
  refine codeX_codeW (cwC_mono L8) oxRg_ok _ lxRg_ok ((vcRg v a b n _).mpr ?_)
  have wf : ∀ {x : Int}, (Lit.int .u64 x).wf = true → 0 ≤ x ∧ x < 18446744073709551616 := by
    intro x h
    simp [Lit.wf, IntKind.min, IntKind.max, IntKind.signed, IntKind.bits] at h
    omega
  have ha := wf ha
  have hb := wf hb
  have hn := wf hn
  obtain ⟨B, q, hi, h, hle, hhi, e1⟩ := rang_at v a b n ha.1 ha.2 hb.1 hb.2 hn.1 hn.2
  obtain ⟨t, tg, tl, et⟩ := cover_any h hhi hle
  have st := rgStar (q0 := q) h hhi tl tg [] rfl ⟨.inl rfl⟩
  obtain ⟨p, m, el, hm, hpa, hpe⟩ := greedy_last tg
  obtain ⟨n0, ef⟩ := greedy_first tg
  obtain ⟨s, f1, f2⟩ := rback_at h hhi hle
  have hne := tg.ne
  have hl0 : 0 < t.length := List.length_pos_iff.2 hne
  have hp : p < 2 ^ B := by omega
  have eL := rLast h hp hm hpa
  rw [hpe] at eL
  have wl : IntKind.wrap IntKind.i64 ((t.length : Int) - 1) = ((t.length - 1 : Nat) : Int) := by rw [IntKind.wrap_i64]; omega
  have eq3 : ∀ x : Nat, (cdec (Vof v = Vof v) && (cdec (H x = H x) && (cdec (L x = L x) && Bool.true))) = true := by
    intro x
    rw [cdec_true.2 (rfl : Vof v = Vof v), cdec_true.2 (rfl : H x = H x), cdec_true.2 (rfl : L x = L x)]; rfl
  refine ⟨_, e1, t, cov_some et, hne, bifW_f (by omega) (bifW_f (by omega) ?_)⟩
  refine ⟨⟨by omega, by omega⟩, rfl, t, rfl, 0, rfl, mkP (Vof v) q n0, ef, bif_no (by show (!(cdec (Vof v = Vof v) && (cdec (H q = H q) && (cdec (L q = L q) && Bool.true)))) = false; rw [eq3 q]; rfl) ?_⟩
  refine ⟨by rw [wl]; omega, rfl, t, rfl, t.length - 1, by rw [wl, Int.toNat_natCast, Nat.zero_add], mkP (Vof v) p m, el, _, eL, bif_no (by show (!(cdec (Vof v = Vof v) && (cdec (H hi = H hi) && (cdec (L hi = L hi) && Bool.true)))) = false; rw [eq3 hi]; rfl) ?_⟩
  refine ⟨rgV (Vof v) q hi t 0, ⟨⟨rfl, rfl, rfl, rfl, rfl, trivial⟩, ⟨⟨rfl, rfl, rfl, rfl, rfl, rfl, trivial⟩, rfl, rfl⟩, rfl, rfl, rfl⟩, rgV (Vof v) q hi t (t.length : Int), st, ?_⟩
  refine bifW_f (show ¬ ((t.length : Int) < (t.length : Int)) by omega) ⟨s, f1, _, f2, bif_yes rfl (bif_yes ?_ ⟨true, rfl, rfl⟩)⟩
  show (cdec (Vof v = Vof v) && (cdec (H q = H q) && (cdec (L q = L q) && (cdec (Vof v = Vof v) && (cdec (H hi = H hi) && (cdec (L hi = L hi) && Bool.true)))))) = true
  rw [eq3 hi, cdec_true.2 (rfl : Vof v = Vof v), cdec_true.2 (rfl : H q = H q), cdec_true.2 (rfl : L q = L q)]; rfl
end Go.Proofs.YtfnacgojmdbjmaaGreatDoor
end

section
/- RangCover: at every start, whatever the numbers, the call returns true; the conditions: the tables that the row lists read as the program lays them. -/
namespace Go.Proofs.YtfnacgojmdbjmaaGreatDoor
open Go.ChangeShapes Go.WideShapes Go.ChangeAt Go.RowKit Go.Det
set_option maxRecDepth 100000

/-- what the condition comes to, the call comes to -/
theorem rangCover_calls {W : World} (hW : GoodW W) (x0 : Int) (x1 : Int) (x2 : Int) (x3 : Int) (h0 : (Lit.int .i64 x0).wf = true) (h1 : (Lit.int .u64 x1).wf = true) (h2 : (Lit.int .u64 x2).wf = true) (h3 : (Lit.int .u64 x3).wf = true) :
    Calls Tryz.prog 8 #[.int .i64 x0, .int .u64 x1, .int .u64 x2, .int .u64 x3] W fun e W' => e = .returned (.bool true) ∧ Kept W W' := by
  have L0 := Laying.empty (G := 6) hW.size
  refine (fnW_calls (P := Tryz.prog) (w0 := W) (φ0 := glob 6 W) (G := 6) (fn := Tryz.f8) (c := bodyOf Tryz.f8) (args := [.int .i64 x0, .int .u64 x1, .int .u64 x2, .int .u64 x3]) (cwC_ok L8) (ownCall_ok (own8 hW) (Later.refl W)) (ownCall_tr (own8 hW)) dt_mixed (glob_glob 6 W) (fun id q => glob_top 6 W (by decide) id q) Tryz.func8 (by kernel_rfl) (by kernel_rfl) (by kernel_rfl) L0.hr (flat2L_self (by rfl) _) (fun id q => glob_top 6 W (by decide) id q) (fun id q => L0.top id (Nat.le_trans (by decide) q)) (Nat.le_refl 64) (rg_w x0 x1 x2 x3 h1 h2 h3)).mono ?_
  rintro e W' ⟨v1, v', s1, φ', rfl, rfl, hv, H', _, _⟩
  rw [bool_inv hv]
  exact ⟨rfl, H'.kept⟩

theorem rangCover_lifted (os : Os) (started : os.Started) (H : Type) (enc : TypeId × Value → H) :
    ReturnsInHanded {} Tryz.checked os 8 .any (fun w args => (Rows.rangCoverSpec.pre enc Tryz.prog Tryz.f8 [] false w args ∧ laidMetH Tryz.prog Rows.rangCoverRow.laid w) ∧ sizedMet enc Tryz.prog Tryz.f8 (OpenSpec.ofChange Rows.rangCoverSpec) false w args)
      (Rows.rangCoverSpec.post enc Tryz.prog Tryz.f8 false true false false) := by
  refine wrap_shaped (C := Tryz.checked) (X := fun w _ => laidMetH Tryz.prog Rows.rangCoverRow.laid w) (fun _ _ _ hh h => h.of_heap hh) dt_own started (by kernel_rfl) Tryz.func8
    (ChangeSpec.witness_shaped (enc := enc) (C := Tryz.checked) (os := os) (X := fun w _ => laidMetH Tryz.prog Rows.rangCoverRow.laid w) false (World.laidAll Tryz.prog os laidA) #[.int .i64 0, .int .u64 0, .int .u64 0, .int .u64 0] 8 (World.laidAll_os _ _ _) (World.shaped_of_ZipB (by kernel_rfl) (by kernel_rfl)) (by kernel_rfl) (by kernel_rfl) (by kernel_rfl) (door_metA os _)) ?_
  intro W base args ds gs before hval0 hW hL hsh
  obtain ⟨t0, t2, t5, L, hs⟩ := laidA_at hL
  have hG : GoodW W := ⟨⟨t0, t2, t5, L⟩, hs, Len.of_shape hsh hs⟩
  have hval : ∀ (j : Nat) t v, Tryz.f8.params[j]? = some t → args[j]? = some v → Value.okWide Tryz.prog W .any base t v := hval0
  have hW' := hW
  obtain ⟨p, q, hA0, hV, rfl, hfz, hnd⟩ := hW
  have hA : DataW.TrodAll enc Tryz.prog W 0 (fun _ => true) true Tryz.f8.params.toList args.toList ds p := hA0
  rw [Tryz.params8] at hA hval
  obtain ⟨v0, vs0, d0, ds0, p0, q0, hargs, rfl, rfl, h0, k0⟩ := trodAll_cons hA
  obtain ⟨v1, vs1, d1, ds1, p1, q1, rfl, rfl, rfl, h1, k1⟩ := trodAll_cons k0
  obtain ⟨v2, vs2, d2, ds2, p2, q2, rfl, rfl, rfl, h2, k2⟩ := trodAll_cons k1
  obtain ⟨v3, vs3, d3, ds3, p3, q3, rfl, rfl, rfl, h3, k3⟩ := trodAll_cons k2
  obtain ⟨rfl, rfl, rfl⟩ := trodAll_nil k3
  obtain rfl : args = #[v0, v1, v2, v3] := by cases args; simp_all
  obtain ⟨rfl, rfl⟩ := trodVars_none hV
  obtain ⟨n0, rfl, rfl, rfl, wn0⟩ := open_int Tryz.underlying3 (hval 0 3 v0 rfl rfl) h0
  obtain ⟨n1, rfl, rfl, rfl, wn1⟩ := open_int Tryz.underlying23 (hval 1 23 v1 rfl rfl) h1
  obtain ⟨n2, rfl, rfl, rfl, wn2⟩ := open_int Tryz.underlying23 (hval 2 23 v2 rfl rfl) h2
  obtain ⟨n3, rfl, rfl, rfl, wn3⟩ := open_int Tryz.underlying23 (hval 3 23 v3 rfl rfl) h3
  refine (rangCover_calls hG n0 n1 n2 n3 wn0 wn1 wn2 wn3).mono fun e W' ⟨he, hw⟩ => ?_
  subst he
  exact ⟨_, rfl, _, _, _, [], [], [], hW', trodAll_mk1 (shut_bool Tryz.underlying4 true), ⟨[], [], shut_int Tryz.underlying3 wn0, ⟨[], [], shut_int Tryz.underlying23 wn1, ⟨[], [], shut_int Tryz.underlying23 wn2, ⟨[], [], shut_int Tryz.underlying23 wn3, rfl, rfl⟩, rfl⟩, rfl⟩, rfl⟩, rfl, hw.but _, fun h => by cases h⟩

theorem rangCover_holds : Rows.RangCoverSaid :=
  OpenClaim.holds_of_wide 8 Tryz.f8 rfl rfl rfl rfl rfl rfl rfl ⟨rfl, rfl, rfl, rfl, rfl⟩ rfl rfl rfl rfl rfl (by kernel_rfl) Tryz.func8 (by kernel_rfl)
    (of_decide_eq_true (by kernel_rfl)) (by unfold Func.isWrapper; first | (rw [if_pos (by decide +kernel)]; kernel_rfl) | (rw [if_neg (by decide +kernel)]; exact ⟨rfl, rfl⟩))
    (fun os started H enc _ => rangCover_lifted os started H enc)

theorem rangCover_card_holds : Rows.RangCoverCardSaid :=
  Claim7.holds_tied_plain_at .later [] [.data, .data, .data, .data, .pinned] true (true, "1c36de9660843907b8c3e0895a467f8eef6e8407a06d415001d0f361211703f3") false
    rangCover_holds (fun _ h => by cases h) (by kernel_rfl) (fun _ h => by cases h) rangCover_row_tie rfl ⟨rfl, rfl⟩ (by kernel_rfl) rfl
    (fun f fn hf hfn => by
      obtain rfl : f = 8 := Option.some.inj ((show Tryz.prog.funcNamed "glebe/glebelaw4.RangCover" = some 8 by kernel_rfl).symm.trans hf) |>.symm
      obtain rfl : fn = Tryz.f8 := (Option.some.inj (Tryz.func8.symm.trans hfn)).symm
      exact ⟨by kernel_rfl, fun j t ht => by
        rw [Tryz.params8] at ht
        have h3 : t = 3 ∨ t = 23 := by
          match j, ht with
          | 0, ht => simp at ht; subst ht; first | rfl | exact .inl rfl | exact .inr rfl | exact .inr (.inl rfl) | exact .inr (.inr rfl)
          | 1, ht => simp at ht; subst ht; first | rfl | exact .inl rfl | exact .inr rfl | exact .inr (.inl rfl) | exact .inr (.inr rfl)
          | 2, ht => simp at ht; subst ht; first | rfl | exact .inl rfl | exact .inr rfl | exact .inr (.inl rfl) | exact .inr (.inr rfl)
          | 3, ht => simp at ht; subst ht; first | rfl | exact .inl rfl | exact .inr rfl | exact .inr (.inl rfl) | exact .inr (.inr rfl)
          | j + 4, ht => simp at ht
        rcases h3 with rfl | rfl
        · exact (show Tryz.prog.wantsStandIn 3 = false by kernel_rfl)
        · exact (show Tryz.prog.wantsStandIn 23 = false by kernel_rfl)⟩)
    (by kernel_rfl)
#print axioms rangCover_card_holds

end Go.Proofs.YtfnacgojmdbjmaaGreatDoor
end
