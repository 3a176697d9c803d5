/- Texts of a proof, joined: words of the print (those that are named here) and printed functions. -/
import Derived.Lib.Split
import Derived.Lib.Join
import Derived.Test.YtfnacgojmdbjmaaGreatDoorRv3
import Derived.Test.YtfnacgojmdbjmaaGreatDoorRv2
set_option linter.unusedSimpArgs false
set_option linter.unusedVariables false

section
/- Texts joined by a sign and split at it again; texts cut at two signs. Plain laws, no program. -/
namespace Go.Det.Txt
open Go.Lib
theorem occ_one (c : UInt8) (s : List UInt8) (j : Nat) : occAt s [c] j = true ↔ s[j]? = some c := by
  unfold occAt
  cases h : s.drop j with
  | nil =>
    have : s.length ≤ j := List.drop_eq_nil_iff.1 h
    rw [List.getElem?_eq_none this]
    simp [List.isPrefixOf]
  | cons x t =>
    have : s[j]? = some x := by
      have : (s.drop j)[0]? = some x := by rw [h]; rfl
      simpa using this
    rw [this]
    simp [List.isPrefixOf]
    exact eq_comm
theorem index_no {c : UInt8} {s : List UInt8} (h : c ∉ s) : index s [c] = -1 := by
  refine index_none fun j _ => ?_
  cases hq : occAt s [c] j with
  | false => rfl
  | true => exact absurd (List.mem_of_getElem? ((occ_one c s j).1 hq)) h
theorem index_at {c : UInt8} {p t : List UInt8} (h : c ∉ p) : index (p ++ c :: t) [c] = (p.length : Int) := by
  refine index_first (by simp) ((occ_one _ _ _).2 (by simp)) fun j hj => ?_
  cases hq : occAt (p ++ c :: t) [c] j with
  | false => rfl
  | true =>
    have := (occ_one _ _ _).1 hq
    rw [List.getElem?_append_left hj] at this
    exact absurd (List.mem_of_getElem? this) h
theorem join_more (p q : List UInt8) (r : List (List UInt8)) (c : UInt8) : join (p :: q :: r) [c] = p ++ c :: join (q :: r) [c] := by
  rw [join_cons, join_cons]
  simp [joinTail, List.append_assoc]
theorem drop_at (p t : List UInt8) (c : UInt8) : (p ++ c :: t).drop (p.length + 1) = t := by
  rw [List.drop_append, List.drop_eq_nil_of_le (by omega), Nat.add_sub_cancel_left]; rfl
theorem split_join {c : UInt8} : ∀ (ps : List (List UInt8)), ps ≠ [] → (∀ p ∈ ps, c ∉ p) → split (join ps [c]) [c] = ps
  | [], h, _ => absurd rfl h
  | [p], _, h => by
    have hi := index_no (h p List.mem_cons_self)
    unfold split
    rw [join_one, count_miss hi]
    rfl
  | p :: q :: r, _, h => by
    have hp := h p List.mem_cons_self
    have ih := split_join (q :: r) (by simp) fun x hx => h x (List.mem_cons_of_mem _ hx)
    rw [join_more]
    have hi := index_at (t := join (q :: r) [c]) hp
    unfold split at ih ⊢
    rw [count_hit (by simp) hi]
    show splitK [c] 0 (1 + count ((p ++ c :: join (q :: r) [c]).drop (p.length + 1)) [c]) _ = _
    rw [drop_at, Nat.add_comm 1]
    unfold splitK
    have : ((index (p ++ c :: join (q :: r) [c]) [c]) == -1) = false := by rw [hi, beq_eq_false_iff_ne]; omega
    rw [this, hi]
    simp only [Bool.false_eq_true, if_false, Int.toNat_natCast, Nat.add_zero]
    show _ :: splitK [c] 0 _ ((p ++ c :: join (q :: r) [c]).drop (p.length + 1)) = _
    rw [drop_at, ih, List.take_append_of_le_length (Nat.le_refl _), List.take_length]
theorem splitB_join {c : UInt8} (ps : List (List UInt8)) (h : ps ≠ []) (hc : ∀ p ∈ ps, c ∉ p) : splitB ⟨#[c]⟩ 0 (countB ⟨(join ps [c]).toArray⟩ ⟨#[c]⟩) ⟨(join ps [c]).toArray⟩ = ps.map fun p => ⟨p.toArray⟩ := by
  have h1 := splitB_data ⟨#[c]⟩ 0 (countB ⟨(join ps [c]).toArray⟩ ⟨#[c]⟩) ⟨(join ps [c]).toArray⟩
  have h2 := split_join ps h hc
  unfold split at h2
  have h3 : (splitB ⟨#[c]⟩ 0 (countB ⟨(join ps [c]).toArray⟩ ⟨#[c]⟩) ⟨(join ps [c]).toArray⟩).map (·.data.toList) = ps := h1.trans h2
  have h4 := congrArg (List.map fun p : List UInt8 => (⟨p.toArray⟩ : ByteArray)) h3
  rw [List.map_map] at h4
  rw [← h4]
  exact (List.map_id'' (fun _ => rfl) _).symm
def twice (c : UInt8) : List UInt8 → Bool
  | x :: y :: t => (x == c && y == c) || twice c (y :: t)
  | _ => false
theorem twice_cons {c x : UInt8} (h : x ≠ c) (t : List UInt8) : twice c (x :: t) = twice c t := by
  cases t with
  | nil => rfl
  | cons y t => simp [twice, h]
theorem twice_append {c : UInt8} : ∀ {p : List UInt8}, c ∉ p → ∀ t, twice c (p ++ t) = twice c t
  | [], _, t => rfl
  | x :: p, h, t => by
    rw [List.cons_append, twice_cons (fun e => h (by rw [e]; exact List.mem_cons_self)), twice_append (fun e => h (List.mem_cons_of_mem _ e))]
theorem twice_join {c : UInt8} : ∀ (ps : List (List UInt8)), (∀ p ∈ ps, c ∉ p ∧ p ≠ []) → ∀ t, twice c (join ps [c] ++ t) = twice c t
  | [], _, t => rfl
  | [p], h, t => by rw [join_one]; exact twice_append (h p List.mem_cons_self).1 t
  | p :: q :: r, h, t => by
    rw [join_more, List.append_assoc, twice_append (h p List.mem_cons_self).1, List.cons_append]
    have ih := twice_join (q :: r) (fun x hx => h x (List.mem_cons_of_mem _ hx)) t
    obtain ⟨h1, h2⟩ := h q (List.mem_cons_of_mem _ List.mem_cons_self)
    cases q with
    | nil => exact absurd rfl h2
    | cons x q =>
      have hx : x ≠ c := fun e => h1 (by rw [e]; exact List.mem_cons_self)
      rw [join_cons] at ih ⊢
      rw [← ih]
      simp [twice, hx]
theorem occ_two {c : UInt8} : ∀ {s : List UInt8} {j : Nat}, occAt s [c, c] j = true → ∃ a b, s = a ++ c :: c :: b ∧ a.length = j
  | s, j, h => by
    unfold occAt at h
    obtain ⟨b, hb⟩ := List.isPrefixOf_iff_prefix.1 h
    refine ⟨s.take j, b, ?_, ?_⟩
    · have : s.drop j = c :: c :: b := by rw [← hb]; rfl
      rw [← this, List.take_append_drop]
    · rw [List.length_take]
      have : (s.drop j).length = b.length + 2 := by rw [← hb]; simp
      rw [List.length_drop] at this
      omega
theorem twice_mid {c : UInt8} : ∀ (a b : List UInt8), twice c (a ++ c :: c :: b) = true
  | [], b => by simp [twice]
  | [x], b => by simp [twice]
  | x :: y :: a, b => by
    have := twice_mid (c := c) (y :: a) b
    simp only [List.cons_append] at this ⊢
    simp [twice, this]
theorem occ_none {c : UInt8} {s : List UInt8} (h : twice c s = false) (j : Nat) : occAt s [c, c] j = false := by
  cases hq : occAt s [c, c] j with
  | false => rfl
  | true =>
    obtain ⟨a, b, rfl, _⟩ := occ_two hq
    rw [twice_mid] at h
    cases h
theorem cut_miss {c : UInt8} {s : List UInt8} (h : twice c s = false) : cut s [c, c] = (s, [], false) := by
  unfold cut
  rw [index_none fun j _ => occ_none h j]
  rfl
theorem cut_hit {c : UInt8} {a : List UInt8} (b : List UInt8) (h : twice c (a ++ [c]) = false) : cut (a ++ c :: c :: b) [c, c] = (a, b, true) := by
  have hi : index (a ++ c :: c :: b) [c, c] = (a.length : Int) := by
    refine index_first (by simp) ?_ fun j hj => ?_
    · unfold occAt
      rw [List.drop_left]
      simp [List.isPrefixOf]
    · cases hq : occAt (a ++ c :: c :: b) [c, c] j with
      | false => rfl
      | true =>
        exfalso
        obtain ⟨x, y, e, hx⟩ := occ_two hq
        have e1 : (a ++ [c]).take (j + 2) = x ++ [c, c] := by
          have : (a ++ c :: c :: b).take (j + 2) = x ++ [c, c] := by
            rw [e, List.take_append, List.take_of_length_le (by omega), hx, show j + 2 - j = 2 by omega]; rfl
          have e3 : ((a ++ [c]) ++ c :: b).take (j + 2) = (a ++ [c]).take (j + 2) := List.take_append_of_le_length (by rw [List.length_append, List.length_singleton]; omega)
          rw [← e3, ← this]
          simp
        have e2 : a ++ [c] = x ++ c :: c :: (a ++ [c]).drop (j + 2) := by
          conv => lhs; rw [← List.take_append_drop (j + 2) (a ++ [c]), e1]
          simp
        rw [e2, twice_mid] at h
        cases h
  unfold cut
  rw [if_pos (by rw [hi]; omega), hi, Int.toNat_natCast]
  simp only [List.take_left, List.length_cons, List.length_nil]
  rw [List.drop_append, List.drop_eq_nil_of_le (by omega), Nat.add_sub_cancel_left]
  rfl
theorem cut_one {c : UInt8} {a : List UInt8} (b : List UInt8) (h : c ∉ a) : cut (a ++ c :: b) [c] = (a, b, true) := by
  unfold cut
  rw [index_at h, if_pos (by omega), Int.toNat_natCast]
  simp only [List.take_left, List.length_cons, List.length_nil]
  rw [drop_at]
theorem contains_no {c : UInt8} {s : List UInt8} (h : c ∉ s) : contains s [c] = false := by
  unfold contains; rw [index_no h]; rfl
theorem contains_yes {c : UInt8} {s : List UInt8} (h : c ∈ s) : contains s [c] = true := by
  obtain ⟨a, b, rfl⟩ := List.append_of_mem h
  unfold contains
  rcases index_spec (a ++ c :: b) [c] with ⟨_, h2⟩ | ⟨i, h1, _⟩
  · have := h2 a.length (by simp)
    rw [(occ_one c _ _).2 (by simp)] at this
    cases this
  · rw [h1]; exact decide_eq_true (by omega)
theorem not_mem_join {c d : UInt8} (hd : d ≠ c) : ∀ (ps : List (List UInt8)), (∀ p ∈ ps, d ∉ p) → d ∉ join ps [c]
  | [], _ => by simp [join_nil]
  | [p], h => by rw [join_one]; exact h p List.mem_cons_self
  | p :: q :: r, h => by
    rw [join_more]
    simp only [List.mem_append, List.mem_cons, not_or]
    exact ⟨h p List.mem_cons_self, hd, not_mem_join hd (q :: r) fun x hx => h x (List.mem_cons_of_mem _ hx)⟩
end Go.Det.Txt
end

section
/- Numbers told in ten and in sixteen signs. Plain laws, no program. -/
namespace Go.Det.Txt
open Go.Lib
def dg (n : Nat) : UInt8 := if n < 10 then UInt8.ofNat (48 + n) else UInt8.ofNat (87 + n)
def decT (n : Nat) : List UInt8 := if n < 10 then [dg n] else if n < 100 then [dg (n / 10), dg (n % 10)] else [dg (n / 100), dg (n / 10 % 10), dg (n % 10)]
def hexT (n : Nat) : List UInt8 := if n < 16 then [dg n] else if n < 256 then [dg (n / 16), dg (n % 16)] else if n < 4096 then [dg (n / 256), dg (n / 16 % 16), dg (n % 16)] else [dg (n / 4096), dg (n / 256 % 16), dg (n / 16 % 16), dg (n % 16)]
def digits16 : List UInt8 := [48, 49, 50, 51, 52, 53, 54, 55, 56, 57, 97, 98, 99, 100, 101, 102]
theorem dg_all : ∀ k : Fin 16, indexByte digits16 (dg k.val ||| 32) = (k.val : Int) ∧ 48 ≤ (dg k.val).toNat ∧ (dg k.val).toNat ≤ 102 ∧ dg k.val ≠ 58 ∧ dg k.val ≠ 47 ∧ dg k.val ≠ 46 ∧ dg k.val ≠ 45 := by decide +kernel
def sgn (c : UInt8) : Bool := c == 58 || c == 47 || c == 46 || c == 45
theorem dg_sgn {k : Nat} (h : k < 16) {c : UInt8} (hc : sgn c = true) : c ≠ dg k := by
  obtain ⟨_, _, _, a, b, d, e⟩ := dg_all ⟨k, h⟩
  rintro rfl
  simp [sgn] at hc
  rcases hc with ((hc | hc) | hc) | hc
  · exact a hc
  · exact b hc
  · exact d hc
  · exact e hc
theorem hexT_sgn {n : Nat} (h : n < 65536) {c : UInt8} (hc : sgn c = true) : c ∉ hexT n := by
  unfold hexT
  have q := fun (k : Nat) (h : k < 16) => dg_sgn h hc
  split
  · simp [q n (by omega)]
  · split
    · simp [q (n / 16) (by omega), q (n % 16) (by omega)]
    · split
      · simp [q (n / 256) (by omega), q (n / 16 % 16) (by omega), q (n % 16) (by omega)]
      · simp [q (n / 4096) (by omega), q (n / 256 % 16) (by omega), q (n / 16 % 16) (by omega), q (n % 16) (by omega)]
theorem decT_sgn {n : Nat} (h : n < 256) {c : UInt8} (hc : sgn c = true) : c ∉ decT n := by
  unfold decT
  have q := fun (k : Nat) (h : k < 16) => dg_sgn h hc
  split
  · simp [q n (by omega)]
  · split
    · simp [q (n / 10) (by omega), q (n % 10) (by omega)]
    · simp [q (n / 100) (by omega), q (n / 10 % 10) (by omega), q (n % 10) (by omega)]
theorem hexT_ne (n : Nat) : hexT n ≠ [] := by
  unfold hexT
  split
  · simp
  · split
    · simp
    · split <;> simp
theorem decT_ne (n : Nat) : decT n ≠ [] := by
  unfold decT
  split
  · simp
  · split <;> simp
theorem hexT_len (n : Nat) : 1 ≤ (hexT n).length ∧ (hexT n).length ≤ 4 := by
  unfold hexT
  split
  · simp
  · split
    · simp
    · split <;> simp
end Go.Det.Txt
end

section
/- The library's functions on texts, as contracts of calls in W. No conditions. -/
namespace Go.Proofs.YtfnacgojmdbjmaaGreatDoor
open Go.Det Go.RowKit Go.Proofs.YtfnacgojmdbjmaaGreatDoorW.PrintWords
set_option maxRecDepth 100000
def dig16 : ByteArray := { data := #[48, 49, 50, 51, 52, 53, 54, 55, 56, 57, 97, 98, 99, 100, 101, 102] }
noncomputable def decSB : List Value → Option (ByteArray × Int)
  | [.string s, .int .u8 c] => some (s, c)
  | _ => none
noncomputable def decSS : List Value → Option (ByteArray × ByteArray)
  | [.string s, .string t] => some (s, t)
  | _ => none
def idxF (s : ByteArray) (c : Int) : Option Int := some (Lib.indexByte s.data.toList c.toNat.toUInt8)
def cutF (s t : ByteArray) : Option (ByteArray × ByteArray × Bool) := if s.size < 4294967281 then some (cutB s t) else none
def conF (s t : ByteArray) : Option Bool := if s.size < 4294967281 then some (Lib.contains s.data.toList t.data.toList) else none
def joinF (l : List ByteArray) (t : ByteArray) : Option ByteArray := if (joinB l t).size ≤ 140737488355328 ∧ l.length ≤ 140737488355328 then some (joinB l t) else none
noncomputable def conD92 : Con := Con.opt decSB (fun x => idxF x.1 x.2) fun r => .int .i64 r
noncomputable def conD60 : Con := Con.opt decSS (fun x => cutF x.1 x.2) fun y => .tuple #[.string y.1, .string y.2.1, .bool y.2.2]
noncomputable def conD51 : Con := Con.opt decSS (fun x => conF x.1 x.2) fun b => .bool b
theorem omD92 {W : World} (hW : GoodW W) : OwnAll Tryz.prog W 6 125 conD92.own := by
  refine own_of_calls (fn := Tryz.f125) (c := bodyOf Tryz.f125) hW Tryz.func125 (by kernel_rfl) (by kernel_rfl) fun args v h => ?_
  split at h
  case h_2 => cases h
  rename_i a ha
  split at h
  case h_2 => cases h
  rename_i b hb
  cases h
  unfold decSB at ha
  split at ha
  case h_2 => cases ha
  cases ha
  exact ⟨rfl, rfl, fun w hG => (st_indexByte hb).mono fun e w' h => ⟨h.1, h.2.below⟩⟩
theorem omD60 {W : World} (hW : GoodW W) : OwnAll Tryz.prog W 6 59 conD60.own := by
  refine own_of_calls (fn := Tryz.f59) (c := bodyOf Tryz.f59) hW Tryz.func59 (by kernel_rfl) (by kernel_rfl) fun args v h => ?_
  split at h
  case h_2 => cases h
  rename_i a ha
  split at h
  case h_2 => cases h
  rename_i b hb
  cases h
  unfold decSS at ha
  split at ha
  case h_2 => cases ha
  cases ha
  exact ⟨rfl, rfl, fun w hG => (st_cut hG hb).mono fun e w' h => ⟨h.1, h.2.below⟩⟩
theorem omD51 {W : World} (hW : GoodW W) : OwnAll Tryz.prog W 6 84 conD51.own := by
  refine own_of_calls (fn := Tryz.f84) (c := bodyOf Tryz.f84) hW Tryz.func84 (by kernel_rfl) (by kernel_rfl) fun args v h => ?_
  split at h
  case h_2 => cases h
  rename_i a ha
  split at h
  case h_2 => cases h
  rename_i b hb
  cases h
  unfold decSS at ha
  split at ha
  case h_2 => cases ha
  cases ha
  exact ⟨rfl, rfl, fun w hG => (st_contains hG hb).mono fun e w' h => ⟨h.1, h.2.below⟩⟩
noncomputable def dStr : Value → Option ByteArray
  | .string s => some s
  | _ => none
noncomputable def dS1 : List Value → Option ByteArray
  | [.string s] => some s
  | _ => none
noncomputable def conD55 : Con := Con.reads dStr dS1 joinF fun r => .string r
theorem omD55 {W : World} (hW : GoodW W) : OwnAll Tryz.prog W 6 90 conD55.own := by
  refine own_reads (fn := Tryz.f90) (c := bodyOf Tryz.f90) (e := Value.string) (er := fun s => [.string s]) (Gd := GoodW) (fun w k => hW.later k.size k.old) Tryz.func90 (by kernel_rfl) (by kernel_rfl) (fun v b h => ?_) (fun b => ⟨rfl, by intro h; cases h⟩) (fun r g h => ?_) (fun _ => rfl) fun l g r hF => ⟨rfl, (by intro h; cases h), fun w A c hG hc hR => ?_⟩
  · unfold dStr at h
    split at h
    · cases h; rfl
    · cases h
  · unfold dS1 at h
    split at h
    · cases h; rfl
    · cases h
  · unfold joinF at hF
    split at hF
    case isFalse => cases hF
    rename_i hs
    cases hF
    cases l with
    | nil =>
      refine (Tryz.strings_Join_none A c g w).mono ?_
      rintro e w' ⟨rfl, rfl⟩
      exact ⟨rfl, rfl, rfl, rfl, Nat.le_refl _, fun _ _ => rfl⟩
    | cons x t =>
      rcases hR with hR | ⟨b, o, rfl, hcell⟩
      · cases hR
      have h0 := hcell 0 x rfl
      refine (Tryz.strings_Join b o c (x :: t) g w hcell ?_ hs.2 hc ?_).mono ?_
      · exact World.block_lt_of_cell? w _ h0
      · have := hs.1
        unfold joinB at this
        simpa [ByteArray.size] using this
      · rintro e w' ⟨rfl, hB⟩
        exact ⟨rfl, hB.os, hB.tape, hB.output, hB.size, hB.block⟩
end Go.Proofs.YtfnacgojmdbjmaaGreatDoor
end

section
/- Conditions, reckoned by the kernel. -/
namespace Go.Proofs.YtfnacgojmdbjmaaGreatDoor
open Go.Det Go.RowKit  Go.Proofs.YtfnacgojmdbjmaaGreatDoorW.PrintWords
set_option maxRecDepth 100000
abbrev zl (l : List UInt8) : Int := (↑(ByteArray.size { data := { toList := l } }) : Int)
abbrev zF : Value := Value.tuple #[Value.int .u64 0, Value.bool false]
abbrev zu (a : UInt8) : Int := (↑(UInt8.toNat a) : Int)
abbrev zd (a : UInt8) : Int := IntKind.wrap .u64 (IntKind.wrap .u8 (zu a - 48))
abbrev zn (n : Int) (a : UInt8) : Int := IntKind.wrap .u64 (IntKind.wrap .u64 (10 * n) + zd a)
abbrev zs (Q : Value → Prop) (m n : Int) (a : UInt8) (r : Prop) : Prop := bifW (cdec (zu a < 48)) (Q zF) (bifW (cdec (57 < zu a)) (Q zF) (((10 : Int) ≠ 0) ∧ bifW (cdec (IntKind.wrap .u64 (Int.tdiv m 10) < n)) (Q zF) (bifW (cdec (IntKind.wrap .u64 (m - if m < zd a then m else zd a) < IntKind.wrap .u64 (10 * n))) (Q zF) r)))
abbrev zh (Q : Value → Prop) (a : UInt8) (r : Int → Prop) : Prop := ∃ x : Int, (idxF dig16 (orI .u8 (zu a) 32) = some x) ∧ bifW (cdec (x < 0)) (Q zF) (bifW (cdec (zu a < 48)) (Q zF) (((0 : Int) ≤ 4) ∧ r x))
noncomputable abbrev zN (n : Nat) (l : List UInt8) (m : Int) (Q : Value → Prop) : Prop := codeU Tryz.prog (cwC []) ox0 n (bodyOf Tryz.f61) (inTab [.string ⟨⟨l⟩⟩, .int .u64 m] 8) (birth [] 64) (retW Tryz.prog Tryz.f61 fun v _ => Q v)
noncomputable abbrev zH (n : Nat) (l : List UInt8) (Q : Value → Prop) : Prop := codeU Tryz.prog (cwC [(125, conD92)]) ox0 n (bodyOf Tryz.f115) (inTab [.string ⟨⟨l⟩⟩] 8) (birth [] 64) (retW Tryz.prog Tryz.f115 fun v _ => Q v)
theorem vh0 (Q : Value → Prop) : zH 5 [] Q = (bifW (cdec ((zl []) < 1)) (Q zF) (bifW (cdec (4 < (zl []))) (Q zF) (bifW (cdec (0 < (zl []))) (((((0 : Int) ≤ 0) ∧ (0 < (zl []))) ∧ False)) (Q (Value.tuple #[Value.int .u64 0, Value.bool true]))))) := by kernel_rfl
theorem vh1 (a : UInt8) (Q : Value → Prop) : zH 5 [a] Q = (bifW (cdec ((zl [a]) < 1)) (Q zF) (bifW (cdec (4 < (zl [a]))) (Q zF) (bifW (cdec (0 < (zl [a]))) (((((0 : Int) ≤ 0) ∧ (0 < (zl [a]))) ∧ (zh Q a fun x0 => bifW (cdec (1 < (zl [a]))) (((((0 : Int) ≤ 1) ∧ (1 < (zl [a]))) ∧ False)) (Q (Value.tuple #[Value.int .u64 (orI .u64 (shlI .u64 0 4) (IntKind.wrap .u64 x0)), Value.bool true]))))) (Q (Value.tuple #[Value.int .u64 0, Value.bool true]))))) := by kernel_rfl
theorem vh2 (a b : UInt8) (Q : Value → Prop) : zH 5 [a, b] Q = (bifW (cdec ((zl [a, b]) < 1)) (Q zF) (bifW (cdec (4 < (zl [a, b]))) (Q zF) (bifW (cdec (0 < (zl [a, b]))) (((((0 : Int) ≤ 0) ∧ (0 < (zl [a, b]))) ∧ (zh Q a fun x0 => bifW (cdec (1 < (zl [a, b]))) (((((0 : Int) ≤ 1) ∧ (1 < (zl [a, b]))) ∧ (zh Q b fun x1 => bifW (cdec (2 < (zl [a, b]))) (((((0 : Int) ≤ 2) ∧ (2 < (zl [a, b]))) ∧ False)) (Q (Value.tuple #[Value.int .u64 (orI .u64 (shlI .u64 (orI .u64 (shlI .u64 0 4) (IntKind.wrap .u64 x0)) 4) (IntKind.wrap .u64 x1)), Value.bool true]))))) (Q (Value.tuple #[Value.int .u64 (orI .u64 (shlI .u64 0 4) (IntKind.wrap .u64 x0)), Value.bool true]))))) (Q (Value.tuple #[Value.int .u64 0, Value.bool true]))))) := by kernel_rfl
theorem vh3 (a b c : UInt8) (Q : Value → Prop) : zH 5 [a, b, c] Q = (bifW (cdec ((zl [a, b, c]) < 1)) (Q zF) (bifW (cdec (4 < (zl [a, b, c]))) (Q zF) (bifW (cdec (0 < (zl [a, b, c]))) (((((0 : Int) ≤ 0) ∧ (0 < (zl [a, b, c]))) ∧ (zh Q a fun x0 => bifW (cdec (1 < (zl [a, b, c]))) (((((0 : Int) ≤ 1) ∧ (1 < (zl [a, b, c]))) ∧ (zh Q b fun x1 => bifW (cdec (2 < (zl [a, b, c]))) (((((0 : Int) ≤ 2) ∧ (2 < (zl [a, b, c]))) ∧ (zh Q c fun x2 => bifW (cdec (3 < (zl [a, b, c]))) (((((0 : Int) ≤ 3) ∧ (3 < (zl [a, b, c]))) ∧ False)) (Q (Value.tuple #[Value.int .u64 (orI .u64 (shlI .u64 (orI .u64 (shlI .u64 (orI .u64 (shlI .u64 0 4) (IntKind.wrap .u64 x0)) 4) (IntKind.wrap .u64 x1)) 4) (IntKind.wrap .u64 x2)), Value.bool true]))))) (Q (Value.tuple #[Value.int .u64 (orI .u64 (shlI .u64 (orI .u64 (shlI .u64 0 4) (IntKind.wrap .u64 x0)) 4) (IntKind.wrap .u64 x1)), Value.bool true]))))) (Q (Value.tuple #[Value.int .u64 (orI .u64 (shlI .u64 0 4) (IntKind.wrap .u64 x0)), Value.bool true]))))) (Q (Value.tuple #[Value.int .u64 0, Value.bool true]))))) := by kernel_rfl
theorem vh4 (a b c d : UInt8) (Q : Value → Prop) : zH 5 [a, b, c, d] Q = (bifW (cdec ((zl [a, b, c, d]) < 1)) (Q zF) (bifW (cdec (4 < (zl [a, b, c, d]))) (Q zF) (bifW (cdec (0 < (zl [a, b, c, d]))) (((((0 : Int) ≤ 0) ∧ (0 < (zl [a, b, c, d]))) ∧ (zh Q a fun x0 => bifW (cdec (1 < (zl [a, b, c, d]))) (((((0 : Int) ≤ 1) ∧ (1 < (zl [a, b, c, d]))) ∧ (zh Q b fun x1 => bifW (cdec (2 < (zl [a, b, c, d]))) (((((0 : Int) ≤ 2) ∧ (2 < (zl [a, b, c, d]))) ∧ (zh Q c fun x2 => bifW (cdec (3 < (zl [a, b, c, d]))) (((((0 : Int) ≤ 3) ∧ (3 < (zl [a, b, c, d]))) ∧ (zh Q d fun x3 => bifW (cdec (4 < (zl [a, b, c, d]))) (((((0 : Int) ≤ 4) ∧ (4 < (zl [a, b, c, d]))) ∧ False)) (Q (Value.tuple #[Value.int .u64 (orI .u64 (shlI .u64 (orI .u64 (shlI .u64 (orI .u64 (shlI .u64 (orI .u64 (shlI .u64 0 4) (IntKind.wrap .u64 x0)) 4) (IntKind.wrap .u64 x1)) 4) (IntKind.wrap .u64 x2)) 4) (IntKind.wrap .u64 x3)), Value.bool true]))))) (Q (Value.tuple #[Value.int .u64 (orI .u64 (shlI .u64 (orI .u64 (shlI .u64 (orI .u64 (shlI .u64 0 4) (IntKind.wrap .u64 x0)) 4) (IntKind.wrap .u64 x1)) 4) (IntKind.wrap .u64 x2)), Value.bool true]))))) (Q (Value.tuple #[Value.int .u64 (orI .u64 (shlI .u64 (orI .u64 (shlI .u64 0 4) (IntKind.wrap .u64 x0)) 4) (IntKind.wrap .u64 x1)), Value.bool true]))))) (Q (Value.tuple #[Value.int .u64 (orI .u64 (shlI .u64 0 4) (IntKind.wrap .u64 x0)), Value.bool true]))))) (Q (Value.tuple #[Value.int .u64 0, Value.bool true]))))) := by kernel_rfl
theorem vh5 (a b c d e : UInt8) (t : List UInt8) (Q : Value → Prop) : zH 0 (a :: b :: c :: d :: e :: t) Q = (bifW (cdec ((zl (a :: b :: c :: d :: e :: t)) < 1)) (Q zF) (bifW (cdec (4 < (zl (a :: b :: c :: d :: e :: t)))) (Q zF) (False))) := by kernel_rfl
theorem vn0 (m : Int) (Q : Value → Prop) : zN 1 [] m Q = (bifW (cdec (Array.toList (ByteArray.data { data := { toList := [] } }) = Array.toList (ByteArray.data { data := #[] }))) (Q zF) (((((0 : Int) ≤ 0) ∧ (0 < (↑(List.length (Array.toList (ByteArray.data { data := { toList := [] } }))) : Int))) ∧ bifW (cdec ((↑(UInt8.toNat (List.getD (Array.toList (ByteArray.data { data := { toList := [] } })) (Int.toNat 0) 0)) : Int) = 48)) (bifW (cdec (1 < (zl []))) (Q zF) (bifW (cdec (0 < (zl []))) (((((0 : Int) ≤ 0) ∧ (0 < (zl []))) ∧ False)) (bifW (cdec (m < 0)) (Q zF) (Q (Value.tuple #[Value.int .u64 0, Value.bool true]))))) (bifW (cdec (0 < (zl []))) (((((0 : Int) ≤ 0) ∧ (0 < (zl []))) ∧ False)) (bifW (cdec (m < 0)) (Q zF) (Q (Value.tuple #[Value.int .u64 0, Value.bool true]))))))) := by kernel_rfl
theorem vn1 (a : UInt8) (m : Int) (Q : Value → Prop) : zN 2 [a] m Q = (bifW (cdec (Array.toList (ByteArray.data { data := { toList := [a] } }) = Array.toList (ByteArray.data { data := #[] }))) (Q zF) (((((0 : Int) ≤ 0) ∧ (0 < (↑(List.length (Array.toList (ByteArray.data { data := { toList := [a] } }))) : Int))) ∧ bifW (cdec ((↑(UInt8.toNat (List.getD (Array.toList (ByteArray.data { data := { toList := [a] } })) (Int.toNat 0) 0)) : Int) = 48)) (bifW (cdec (1 < (zl [a]))) (Q zF) (bifW (cdec (0 < (zl [a]))) (((((0 : Int) ≤ 0) ∧ (0 < (zl [a]))) ∧ zs Q m 0 a (bifW (cdec (1 < (zl [a]))) (((((0 : Int) ≤ 1) ∧ (1 < (zl [a]))) ∧ False)) (bifW (cdec (m < zn 0 a)) (Q zF) (Q (Value.tuple #[Value.int .u64 (zn 0 a), Value.bool true])))))) (bifW (cdec (m < 0)) (Q zF) (Q (Value.tuple #[Value.int .u64 0, Value.bool true]))))) (bifW (cdec (0 < (zl [a]))) (((((0 : Int) ≤ 0) ∧ (0 < (zl [a]))) ∧ zs Q m 0 a (bifW (cdec (1 < (zl [a]))) (((((0 : Int) ≤ 1) ∧ (1 < (zl [a]))) ∧ False)) (bifW (cdec (m < zn 0 a)) (Q zF) (Q (Value.tuple #[Value.int .u64 (zn 0 a), Value.bool true])))))) (bifW (cdec (m < 0)) (Q zF) (Q (Value.tuple #[Value.int .u64 0, Value.bool true]))))))) := by kernel_rfl
theorem vn2 (a b : UInt8) (m : Int) (Q : Value → Prop) : zN 3 [a, b] m Q = (bifW (cdec (Array.toList (ByteArray.data { data := { toList := [a, b] } }) = Array.toList (ByteArray.data { data := #[] }))) (Q zF) (((((0 : Int) ≤ 0) ∧ (0 < (↑(List.length (Array.toList (ByteArray.data { data := { toList := [a, b] } }))) : Int))) ∧ bifW (cdec ((↑(UInt8.toNat (List.getD (Array.toList (ByteArray.data { data := { toList := [a, b] } })) (Int.toNat 0) 0)) : Int) = 48)) (bifW (cdec (1 < (zl [a, b]))) (Q zF) (bifW (cdec (0 < (zl [a, b]))) (((((0 : Int) ≤ 0) ∧ (0 < (zl [a, b]))) ∧ zs Q m 0 a (bifW (cdec (1 < (zl [a, b]))) (((((0 : Int) ≤ 1) ∧ (1 < (zl [a, b]))) ∧ zs Q m (zn 0 a) b (bifW (cdec (2 < (zl [a, b]))) (((((0 : Int) ≤ 2) ∧ (2 < (zl [a, b]))) ∧ False)) (bifW (cdec (m < zn (zn 0 a) b)) (Q zF) (Q (Value.tuple #[Value.int .u64 (zn (zn 0 a) b), Value.bool true])))))) (bifW (cdec (m < zn 0 a)) (Q zF) (Q (Value.tuple #[Value.int .u64 (zn 0 a), Value.bool true])))))) (bifW (cdec (m < 0)) (Q zF) (Q (Value.tuple #[Value.int .u64 0, Value.bool true]))))) (bifW (cdec (0 < (zl [a, b]))) (((((0 : Int) ≤ 0) ∧ (0 < (zl [a, b]))) ∧ zs Q m 0 a (bifW (cdec (1 < (zl [a, b]))) (((((0 : Int) ≤ 1) ∧ (1 < (zl [a, b]))) ∧ zs Q m (zn 0 a) b (bifW (cdec (2 < (zl [a, b]))) (((((0 : Int) ≤ 2) ∧ (2 < (zl [a, b]))) ∧ False)) (bifW (cdec (m < zn (zn 0 a) b)) (Q zF) (Q (Value.tuple #[Value.int .u64 (zn (zn 0 a) b), Value.bool true])))))) (bifW (cdec (m < zn 0 a)) (Q zF) (Q (Value.tuple #[Value.int .u64 (zn 0 a), Value.bool true])))))) (bifW (cdec (m < 0)) (Q zF) (Q (Value.tuple #[Value.int .u64 0, Value.bool true]))))))) := by kernel_rfl
theorem vn3 (a b c : UInt8) (m : Int) (Q : Value → Prop) : zN 4 [a, b, c] m Q = (bifW (cdec (Array.toList (ByteArray.data { data := { toList := [a, b, c] } }) = Array.toList (ByteArray.data { data := #[] }))) (Q zF) (((((0 : Int) ≤ 0) ∧ (0 < (↑(List.length (Array.toList (ByteArray.data { data := { toList := [a, b, c] } }))) : Int))) ∧ bifW (cdec ((↑(UInt8.toNat (List.getD (Array.toList (ByteArray.data { data := { toList := [a, b, c] } })) (Int.toNat 0) 0)) : Int) = 48)) (bifW (cdec (1 < (zl [a, b, c]))) (Q zF) (bifW (cdec (0 < (zl [a, b, c]))) (((((0 : Int) ≤ 0) ∧ (0 < (zl [a, b, c]))) ∧ zs Q m 0 a (bifW (cdec (1 < (zl [a, b, c]))) (((((0 : Int) ≤ 1) ∧ (1 < (zl [a, b, c]))) ∧ zs Q m (zn 0 a) b (bifW (cdec (2 < (zl [a, b, c]))) (((((0 : Int) ≤ 2) ∧ (2 < (zl [a, b, c]))) ∧ zs Q m (zn (zn 0 a) b) c (bifW (cdec (3 < (zl [a, b, c]))) (((((0 : Int) ≤ 3) ∧ (3 < (zl [a, b, c]))) ∧ False)) (bifW (cdec (m < zn (zn (zn 0 a) b) c)) (Q zF) (Q (Value.tuple #[Value.int .u64 (zn (zn (zn 0 a) b) c), Value.bool true])))))) (bifW (cdec (m < zn (zn 0 a) b)) (Q zF) (Q (Value.tuple #[Value.int .u64 (zn (zn 0 a) b), Value.bool true])))))) (bifW (cdec (m < zn 0 a)) (Q zF) (Q (Value.tuple #[Value.int .u64 (zn 0 a), Value.bool true])))))) (bifW (cdec (m < 0)) (Q zF) (Q (Value.tuple #[Value.int .u64 0, Value.bool true]))))) (bifW (cdec (0 < (zl [a, b, c]))) (((((0 : Int) ≤ 0) ∧ (0 < (zl [a, b, c]))) ∧ zs Q m 0 a (bifW (cdec (1 < (zl [a, b, c]))) (((((0 : Int) ≤ 1) ∧ (1 < (zl [a, b, c]))) ∧ zs Q m (zn 0 a) b (bifW (cdec (2 < (zl [a, b, c]))) (((((0 : Int) ≤ 2) ∧ (2 < (zl [a, b, c]))) ∧ zs Q m (zn (zn 0 a) b) c (bifW (cdec (3 < (zl [a, b, c]))) (((((0 : Int) ≤ 3) ∧ (3 < (zl [a, b, c]))) ∧ False)) (bifW (cdec (m < zn (zn (zn 0 a) b) c)) (Q zF) (Q (Value.tuple #[Value.int .u64 (zn (zn (zn 0 a) b) c), Value.bool true])))))) (bifW (cdec (m < zn (zn 0 a) b)) (Q zF) (Q (Value.tuple #[Value.int .u64 (zn (zn 0 a) b), Value.bool true])))))) (bifW (cdec (m < zn 0 a)) (Q zF) (Q (Value.tuple #[Value.int .u64 (zn 0 a), Value.bool true])))))) (bifW (cdec (m < 0)) (Q zF) (Q (Value.tuple #[Value.int .u64 0, Value.bool true]))))))) := by kernel_rfl
theorem vn4 (a b c d : UInt8) (t : List UInt8) (m : Int) (Q : Value → Prop) : zN 4 (a :: b :: c :: d :: t) m Q = (bifW (cdec (Array.toList (ByteArray.data { data := { toList := a :: b :: c :: d :: t } }) = Array.toList (ByteArray.data { data := #[] }))) (Q zF) (((((0 : Int) ≤ 0) ∧ (0 < (↑(List.length (Array.toList (ByteArray.data { data := { toList := a :: b :: c :: d :: t } }))) : Int))) ∧ bifW (cdec ((↑(UInt8.toNat (List.getD (Array.toList (ByteArray.data { data := { toList := a :: b :: c :: d :: t } })) (Int.toNat 0) 0)) : Int) = 48)) (bifW (cdec (1 < (zl (a :: b :: c :: d :: t)))) (Q zF) (bifW (cdec (0 < (zl (a :: b :: c :: d :: t)))) (((((0 : Int) ≤ 0) ∧ (0 < (zl (a :: b :: c :: d :: t)))) ∧ zs Q m 0 a (bifW (cdec (1 < (zl (a :: b :: c :: d :: t)))) (((((0 : Int) ≤ 1) ∧ (1 < (zl (a :: b :: c :: d :: t)))) ∧ zs Q m (zn 0 a) b (bifW (cdec (2 < (zl (a :: b :: c :: d :: t)))) (((((0 : Int) ≤ 2) ∧ (2 < (zl (a :: b :: c :: d :: t)))) ∧ zs Q m (zn (zn 0 a) b) c (bifW (cdec (3 < (zl (a :: b :: c :: d :: t)))) (((((0 : Int) ≤ 3) ∧ (3 < (zl (a :: b :: c :: d :: t)))) ∧ zs Q m (zn (zn (zn 0 a) b) c) d (False))) (bifW (cdec (m < zn (zn (zn 0 a) b) c)) (Q zF) (Q (Value.tuple #[Value.int .u64 (zn (zn (zn 0 a) b) c), Value.bool true])))))) (bifW (cdec (m < zn (zn 0 a) b)) (Q zF) (Q (Value.tuple #[Value.int .u64 (zn (zn 0 a) b), Value.bool true])))))) (bifW (cdec (m < zn 0 a)) (Q zF) (Q (Value.tuple #[Value.int .u64 (zn 0 a), Value.bool true])))))) (bifW (cdec (m < 0)) (Q zF) (Q (Value.tuple #[Value.int .u64 0, Value.bool true]))))) (bifW (cdec (0 < (zl (a :: b :: c :: d :: t)))) (((((0 : Int) ≤ 0) ∧ (0 < (zl (a :: b :: c :: d :: t)))) ∧ zs Q m 0 a (bifW (cdec (1 < (zl (a :: b :: c :: d :: t)))) (((((0 : Int) ≤ 1) ∧ (1 < (zl (a :: b :: c :: d :: t)))) ∧ zs Q m (zn 0 a) b (bifW (cdec (2 < (zl (a :: b :: c :: d :: t)))) (((((0 : Int) ≤ 2) ∧ (2 < (zl (a :: b :: c :: d :: t)))) ∧ zs Q m (zn (zn 0 a) b) c (bifW (cdec (3 < (zl (a :: b :: c :: d :: t)))) (((((0 : Int) ≤ 3) ∧ (3 < (zl (a :: b :: c :: d :: t)))) ∧ zs Q m (zn (zn (zn 0 a) b) c) d (False))) (bifW (cdec (m < zn (zn (zn 0 a) b) c)) (Q zF) (Q (Value.tuple #[Value.int .u64 (zn (zn (zn 0 a) b) c), Value.bool true])))))) (bifW (cdec (m < zn (zn 0 a) b)) (Q zF) (Q (Value.tuple #[Value.int .u64 (zn (zn 0 a) b), Value.bool true])))))) (bifW (cdec (m < zn 0 a)) (Q zF) (Q (Value.tuple #[Value.int .u64 (zn 0 a), Value.bool true])))))) (bifW (cdec (m < 0)) (Q zF) (Q (Value.tuple #[Value.int .u64 0, Value.bool true]))))))) := by kernel_rfl
theorem vparts (a b c0 c1 c2 c3 c4 c5 c6 c7 : Int) : codeU Tryz.prog (cwC []) ox0 5 (bodyOf Tryz.f91) (inTab [.agg #[.int .u64 a, .int .u64 b]] 8) (birth [] 64) (retW Tryz.prog Tryz.f91 fun v s => v = .slice (some ⟨65, 0, none⟩) 8 8 ∧ blkW s 65 [.int .u64 c0, .int .u64 c1, .int .u64 c2, .int .u64 c3, .int .u64 c4, .int .u64 c5, .int .u64 c6, .int .u64 c7] 47 false) = (bifW (cdec ((0 : Int) < 4)) ((((0 : Int) ≤ 0) ∧ (((0 : Int) ≤ 0) ∧ ((((0 : Int) ≤ 3) ∧ (3 < (↑(Int.toNat 8) : Int))) ∧ ((((0 : Int) ≤ 7) ∧ (7 < (↑(Int.toNat 8) : Int))) ∧ bifW (cdec ((1 : Int) < 4)) ((((0 : Int) ≤ 16) ∧ (((0 : Int) ≤ 16) ∧ ((((0 : Int) ≤ 2) ∧ (2 < (↑(Int.toNat 8) : Int))) ∧ ((((0 : Int) ≤ 6) ∧ (6 < (↑(Int.toNat 8) : Int))) ∧ bifW (cdec ((2 : Int) < 4)) ((((0 : Int) ≤ 32) ∧ (((0 : Int) ≤ 32) ∧ ((((0 : Int) ≤ 1) ∧ (1 < (↑(Int.toNat 8) : Int))) ∧ ((((0 : Int) ≤ 5) ∧ (5 < (↑(Int.toNat 8) : Int))) ∧ bifW (cdec ((3 : Int) < 4)) ((((0 : Int) ≤ 48) ∧ (((0 : Int) ≤ 48) ∧ ((((0 : Int) ≤ 0) ∧ (0 < (↑(Int.toNat 8) : Int))) ∧ ((((0 : Int) ≤ 4) ∧ (4 < (↑(Int.toNat 8) : Int))) ∧ bifW (cdec ((4 : Int) < 4)) ((((0 : Int) ≤ 64) ∧ (((0 : Int) ≤ 64) ∧ (((0 ≤ (-1)) ∧ ((-1) < (↑(Int.toNat 8) : Int))) ∧ ((((0 : Int) ≤ 3) ∧ (3 < (↑(Int.toNat 8) : Int))) ∧ False))))) (((Value.slice (some { block := 65, off := 0 }) (Int.toNat 8) (Int.toNat 8) = Value.slice (some { block := 65, off := 0 }) 8 8) ∧ (((Value.int .u64 (andI .u64 (shrI .u64 a (48)) 65535) = Value.int .u64 c0) ∧ ((Value.int .u64 (andI .u64 (shrI .u64 a (32)) 65535) = Value.int .u64 c1) ∧ ((Value.int .u64 (andI .u64 (shrI .u64 a (16)) 65535) = Value.int .u64 c2) ∧ ((Value.int .u64 (andI .u64 (shrI .u64 a (0)) 65535) = Value.int .u64 c3) ∧ ((Value.int .u64 (andI .u64 (shrI .u64 b (48)) 65535) = Value.int .u64 c4) ∧ ((Value.int .u64 (andI .u64 (shrI .u64 b (32)) 65535) = Value.int .u64 c5) ∧ ((Value.int .u64 (andI .u64 (shrI .u64 b (16)) 65535) = Value.int .u64 c6) ∧ ((Value.int .u64 (andI .u64 (shrI .u64 b (0)) 65535) = Value.int .u64 c7) ∧ True)))))))) ∧ ((2 * 23 + 1 = 47) ∧ (false = false)))))))))) (((Value.slice (some { block := 65, off := 0 }) (Int.toNat 8) (Int.toNat 8) = Value.slice (some { block := 65, off := 0 }) 8 8) ∧ (((Value.int .u64 0 = Value.int .u64 c0) ∧ ((Value.int .u64 (andI .u64 (shrI .u64 a (32)) 65535) = Value.int .u64 c1) ∧ ((Value.int .u64 (andI .u64 (shrI .u64 a (16)) 65535) = Value.int .u64 c2) ∧ ((Value.int .u64 (andI .u64 (shrI .u64 a (0)) 65535) = Value.int .u64 c3) ∧ ((Value.int .u64 0 = Value.int .u64 c4) ∧ ((Value.int .u64 (andI .u64 (shrI .u64 b (32)) 65535) = Value.int .u64 c5) ∧ ((Value.int .u64 (andI .u64 (shrI .u64 b (16)) 65535) = Value.int .u64 c6) ∧ ((Value.int .u64 (andI .u64 (shrI .u64 b (0)) 65535) = Value.int .u64 c7) ∧ True)))))))) ∧ ((2 * 23 + 1 = 47) ∧ (false = false)))))))))) (((Value.slice (some { block := 65, off := 0 }) (Int.toNat 8) (Int.toNat 8) = Value.slice (some { block := 65, off := 0 }) 8 8) ∧ (((Value.int .u64 0 = Value.int .u64 c0) ∧ ((Value.int .u64 0 = Value.int .u64 c1) ∧ ((Value.int .u64 (andI .u64 (shrI .u64 a (16)) 65535) = Value.int .u64 c2) ∧ ((Value.int .u64 (andI .u64 (shrI .u64 a (0)) 65535) = Value.int .u64 c3) ∧ ((Value.int .u64 0 = Value.int .u64 c4) ∧ ((Value.int .u64 0 = Value.int .u64 c5) ∧ ((Value.int .u64 (andI .u64 (shrI .u64 b (16)) 65535) = Value.int .u64 c6) ∧ ((Value.int .u64 (andI .u64 (shrI .u64 b (0)) 65535) = Value.int .u64 c7) ∧ True)))))))) ∧ ((2 * 23 + 1 = 47) ∧ (false = false)))))))))) (((Value.slice (some { block := 65, off := 0 }) (Int.toNat 8) (Int.toNat 8) = Value.slice (some { block := 65, off := 0 }) 8 8) ∧ (((Value.int .u64 0 = Value.int .u64 c0) ∧ ((Value.int .u64 0 = Value.int .u64 c1) ∧ ((Value.int .u64 0 = Value.int .u64 c2) ∧ ((Value.int .u64 (andI .u64 (shrI .u64 a (0)) 65535) = Value.int .u64 c3) ∧ ((Value.int .u64 0 = Value.int .u64 c4) ∧ ((Value.int .u64 0 = Value.int .u64 c5) ∧ ((Value.int .u64 0 = Value.int .u64 c6) ∧ ((Value.int .u64 (andI .u64 (shrI .u64 b (0)) 65535) = Value.int .u64 c7) ∧ True)))))))) ∧ ((2 * 23 + 1 = 47) ∧ (false = false)))))))))) (((Value.slice (some { block := 65, off := 0 }) (Int.toNat 8) (Int.toNat 8) = Value.slice (some { block := 65, off := 0 }) 8 8) ∧ (((Value.int .u64 0 = Value.int .u64 c0) ∧ ((Value.int .u64 0 = Value.int .u64 c1) ∧ ((Value.int .u64 0 = Value.int .u64 c2) ∧ ((Value.int .u64 0 = Value.int .u64 c3) ∧ ((Value.int .u64 0 = Value.int .u64 c4) ∧ ((Value.int .u64 0 = Value.int .u64 c5) ∧ ((Value.int .u64 0 = Value.int .u64 c6) ∧ ((Value.int .u64 0 = Value.int .u64 c7) ∧ True)))))))) ∧ ((2 * 23 + 1 = 47) ∧ (false = false)))))) := by kernel_rfl
end Go.Proofs.YtfnacgojmdbjmaaGreatDoor
end

section
/- Closed runs as calls; numbers below 256 told in ten signs: a table of closed runs. No conditions. -/
namespace Go.Proofs.YtfnacgojmdbjmaaGreatDoor
open Go.Det Go.RowKit Go.Proofs.YtfnacgojmdbjmaaGreatDoorW.PrintWords
set_option maxRecDepth 100000
theorem isRes_ex {r : Option (Value × St)} {v : Value} (h : isRes r v = true) : ∃ s, r = some (v, s) := by
  unfold isRes at h
  split at h
  case h_2 => cases h
  rename_i x
  exact ⟨x.2, by rw [← eqV_eq h]⟩
theorem calls_run {f : FuncId} {fn : Func} {c : Code} {args : List Value} {v : Value} {w : World} (hG : GoodW w) (hf : Tryz.prog.funcs[f]? = some fn) (hb : fn.body = some c) (hn : (fn.name == "runtime.NumGoroutine") = false)
    (h1 : flat2L args = true) (h2 : flat v = true) (h3 : v ≠ und) (e : ∀ t0 t2 t5, ∃ s, callD Tryz.prog (mkIntr maskA (extL extsA)) 1000 60 f args (birth (heapA t0 t2 t5) 64) = some (v, s)) :
    Calls Tryz.prog f ⟨args⟩ w fun e w' => e = .returned v ∧ Below w.heap.size w w' := by
  obtain ⟨t0, t2, t5, L⟩ := hG.lay
  obtain ⟨s, hx2⟩ := e t0 t2 t5
  refine (run_call (args := args) dt_mixed okA extsA_tr (extsA_ok (hG.len.later (Nat.le_refl _) fun _ _ => rfl) 6) hf hb hn L.hr (glob_glob 6 w) (flat2L_self h1 _) (fun id q => glob_top 6 w (by decide) id q) (fun id q => L.top id (Nat.le_trans (by decide) q)) hx2).mono ?_
  rintro e W' ⟨v', φ', rfl, _, hv, H'⟩
  rw [flat_inv h2 hv h3]
  exact ⟨rfl, H'.os, H'.tape, H'.output, H'.size, fun j hj => H'.old j hj⟩
noncomputable def tabT : Tbl := (List.range 256).map fun (n : Nat) => ([.int .u64 (n : Int)], .string ⟨⟨Txt.decT n⟩⟩)
theorem tabT_run (t0 t2 t5 : TypeId) : tabOk (fun args => callD Tryz.prog (mkIntr maskA (extL extsA)) 1000 60 71 args (birth (heapA t0 t2 t5) 64)) tabT = true := by kernel_rfl
def txtF (n : Int) : Option ByteArray := if 0 ≤ n ∧ n < 256 then some ⟨⟨Txt.decT n.toNat⟩⟩ else none
theorem st_txt {n : Int} {r : ByteArray} {w : World} (hG : GoodW w) (h : txtF n = some r) : Calls Tryz.prog 71 #[.int .u64 n] w fun e w' => e = .returned (.string r) ∧ Below w.heap.size w w' := by
  unfold txtF at h
  split at h
  case isFalse => cases h
  rename_i hn
  cases h
  obtain ⟨k, rfl⟩ := Int.eq_ofNat_of_zero_le hn.1
  have hk : k < 256 := by omega
  refine calls_run (fn := Tryz.f71) (c := bodyOf Tryz.f71) (args := [.int .u64 (k : Int)]) hG Tryz.func71 (by kernel_rfl) (by kernel_rfl) rfl rfl (by intro h; cases h) fun t0 t2 t5 => ?_
  obtain ⟨_, _, s, hs⟩ := tabOk_mem (tabT_run t0 t2 t5) ([.int .u64 (k : Int)], .string ⟨⟨Txt.decT k⟩⟩) (List.mem_map.2 ⟨k, List.mem_range.2 hk, rfl⟩)
  exact ⟨s, hs⟩
end Go.Proofs.YtfnacgojmdbjmaaGreatDoor
end

section
/- Numbers told in sixteen signs: the library's functions, as contracts: what is powers of two at 16. No conditions. -/
namespace Go.Proofs.YtfnacgojmdbjmaaGreatDoor
open Go.Det Go.RowKit Go.Proofs.YtfnacgojmdbjmaaGreatDoorW.PrintWords
set_option maxRecDepth 100000
def dig36 : ByteArray := { data := #[48, 49, 50, 51, 52, 53, 54, 55, 56, 57, 97, 98, 99, 100, 101, 102, 103, 104, 105, 106, 107, 108, 109, 110, 111, 112, 113, 114, 115, 116, 117, 118, 119, 120, 121, 122] }
theorem dig_len : (List.length (Array.toList (ByteArray.data dig36))) = 36 := rfl
noncomputable def d16 : List Value → Option Unit
  | [.int .i64 n] => match Int.decEq n 16 with | Decidable.isTrue _ => some () | Decidable.isFalse _ => none
  | _ => none
noncomputable def d16u : List Value → Option Unit
  | [.int .u64 n] => match Int.decEq n 16 with | Decidable.isTrue _ => some () | Decidable.isFalse _ => none
  | _ => none
theorem d16_enc {args : List Value} {a : Unit} (h : d16 args = some a) : args = [.int .i64 16] := by
  unfold d16 at h
  split at h
  case h_2 => cases h
  split at h
  · rename_i hn _; rw [hn]
  · cases h
theorem d16u_enc {args : List Value} {a : Unit} (h : d16u args = some a) : args = [.int .u64 16] := by
  unfold d16u at h
  split at h
  case h_2 => cases h
  split at h
  · rename_i hn _; rw [hn]
  · cases h
noncomputable def conD109 : Con := Con.flat d16 (fun _ => true) fun _ => .bool true
noncomputable def conD110 : Con := Con.flat d16u (fun _ => true) fun _ => .int .i64 4
theorem run109 (t0 t2 t5 : TypeId) : isRes (callD Tryz.prog (mkIntr maskA (extL extsA)) 1000 60 133 [.int .i64 16] (birth (heapA t0 t2 t5) 64)) (.bool true) = true := by kernel_rfl
theorem run110 (t0 t2 t5 : TypeId) : isRes (callD Tryz.prog (mkIntr maskA (extL extsA)) 1000 60 134 [.int .u64 16] (birth (heapA t0 t2 t5) 64)) (.int .i64 4) = true := by kernel_rfl
theorem omD109 {W : World} (hW : GoodW W) : OwnAll Tryz.prog W 6 133 conD109.own := by
  refine own_of_calls (fn := Tryz.f133) (c := bodyOf Tryz.f133) hW Tryz.func133 (by kernel_rfl) (by kernel_rfl) fun args v h => ?_
  split at h
  case h_2 => cases h
  rename_i a ha
  cases h
  obtain rfl := d16_enc ha
  exact ⟨rfl, rfl, fun w hG => calls_run (fn := Tryz.f133) (c := bodyOf Tryz.f133) hG Tryz.func133 (by kernel_rfl) (by kernel_rfl) rfl rfl (by intro h; cases h) fun t0 t2 t5 => isRes_ex (run109 t0 t2 t5)⟩
theorem omD110 {W : World} (hW : GoodW W) : OwnAll Tryz.prog W 6 134 conD110.own := by
  refine own_of_calls (fn := Tryz.f134) (c := bodyOf Tryz.f134) hW Tryz.func134 (by kernel_rfl) (by kernel_rfl) fun args v h => ?_
  split at h
  case h_2 => cases h
  rename_i a ha
  cases h
  obtain rfl := d16u_enc ha
  exact ⟨rfl, rfl, fun w hG => calls_run (fn := Tryz.f134) (c := bodyOf Tryz.f134) hG Tryz.func134 (by kernel_rfl) (by kernel_rfl) rfl rfl (by intro h; cases h) fun t0 t2 t5 => isRes_ex (run110 t0 t2 t5)⟩
end Go.Proofs.YtfnacgojmdbjmaaGreatDoor
end

section
/- Conditions, reckoned by the kernel. -/
namespace Go.Proofs.YtfnacgojmdbjmaaGreatDoor
open Go.Det Go.RowKit  Go.Proofs.YtfnacgojmdbjmaaGreatDoorW.PrintWords
set_option maxRecDepth 100000
theorem vf98 (u : Int) (Q : Value → Prop) : codeU Tryz.prog (cwC [(133, conD109), (134, conD110)]) (oxE []) 4 (bodyOf Tryz.f122) (inTab [.slice none 0 0, .int .u64 u, .int .i64 16, .bool false, .bool false] 8) (birth [] 64) (retW Tryz.prog Tryz.f122 fun v _ => Q v) = (bifW (cdec ((16 : Int) < 2)) (False) (bifW (cdec ((16 : Int) = 10)) (False) (bifW (cdec ((36 : Int) < 16)) (False) (((true = true) ∧ ((true = true) ∧ bifW (cdec (IntKind.wrap .u64 16 ≤ u)) ((((0 ≤ andI .u64 u (IntKind.wrap .u64 (IntKind.wrap .u64 16 - 1))) ∧ (andI .u64 u (IntKind.wrap .u64 (IntKind.wrap .u64 16 - 1)) < (↑(List.length (Array.toList (ByteArray.data dig36))) : Int))) ∧ ((((0 : Int) ≤ 64) ∧ (64 < (↑65 : Int))) ∧ ((0 ≤ IntKind.wrap .u64 4) ∧ bifW (cdec (IntKind.wrap .u64 16 ≤ shrI .u64 u (IntKind.wrap .u64 4))) ((((0 ≤ andI .u64 (shrI .u64 u (IntKind.wrap .u64 4)) (IntKind.wrap .u64 (IntKind.wrap .u64 16 - 1))) ∧ (andI .u64 (shrI .u64 u (IntKind.wrap .u64 4)) (IntKind.wrap .u64 (IntKind.wrap .u64 16 - 1)) < (↑(List.length (Array.toList (ByteArray.data dig36))) : Int))) ∧ ((((0 : Int) ≤ 63) ∧ (63 < (↑65 : Int))) ∧ ((0 ≤ IntKind.wrap .u64 4) ∧ bifW (cdec (IntKind.wrap .u64 16 ≤ shrI .u64 (shrI .u64 u (IntKind.wrap .u64 4)) (IntKind.wrap .u64 4))) ((((0 ≤ andI .u64 (shrI .u64 (shrI .u64 u (IntKind.wrap .u64 4)) (IntKind.wrap .u64 4)) (IntKind.wrap .u64 (IntKind.wrap .u64 16 - 1))) ∧ (andI .u64 (shrI .u64 (shrI .u64 u (IntKind.wrap .u64 4)) (IntKind.wrap .u64 4)) (IntKind.wrap .u64 (IntKind.wrap .u64 16 - 1)) < (↑(List.length (Array.toList (ByteArray.data dig36))) : Int))) ∧ ((((0 : Int) ≤ 62) ∧ (62 < (↑65 : Int))) ∧ ((0 ≤ IntKind.wrap .u64 4) ∧ bifW (cdec (IntKind.wrap .u64 16 ≤ shrI .u64 (shrI .u64 (shrI .u64 u (IntKind.wrap .u64 4)) (IntKind.wrap .u64 4)) (IntKind.wrap .u64 4))) ((((0 ≤ andI .u64 (shrI .u64 (shrI .u64 (shrI .u64 u (IntKind.wrap .u64 4)) (IntKind.wrap .u64 4)) (IntKind.wrap .u64 4)) (IntKind.wrap .u64 (IntKind.wrap .u64 16 - 1))) ∧ (andI .u64 (shrI .u64 (shrI .u64 (shrI .u64 u (IntKind.wrap .u64 4)) (IntKind.wrap .u64 4)) (IntKind.wrap .u64 4)) (IntKind.wrap .u64 (IntKind.wrap .u64 16 - 1)) < (↑(List.length (Array.toList (ByteArray.data dig36))) : Int))) ∧ ((((0 : Int) ≤ 61) ∧ (61 < (↑65 : Int))) ∧ ((0 ≤ IntKind.wrap .u64 4) ∧ False)))) ((((0 ≤ shrI .u64 (shrI .u64 (shrI .u64 u (IntKind.wrap .u64 4)) (IntKind.wrap .u64 4)) (IntKind.wrap .u64 4)) ∧ (shrI .u64 (shrI .u64 (shrI .u64 u (IntKind.wrap .u64 4)) (IntKind.wrap .u64 4)) (IntKind.wrap .u64 4) < (↑(List.length (Array.toList (ByteArray.data dig36))) : Int))) ∧ ((((0 : Int) ≤ 61) ∧ (61 < (↑65 : Int))) ∧ Q (Value.tuple #[Value.slice none 0 0, Value.string { data := #[UInt8.ofNat (Int.toNat (↑(UInt8.toNat (List.getD (Array.toList (ByteArray.data dig36)) (Int.toNat (shrI .u64 (shrI .u64 (shrI .u64 u (IntKind.wrap .u64 4)) (IntKind.wrap .u64 4)) (IntKind.wrap .u64 4))) 0)) : Int)), UInt8.ofNat (Int.toNat (↑(UInt8.toNat (List.getD (Array.toList (ByteArray.data dig36)) (Int.toNat (andI .u64 (shrI .u64 (shrI .u64 u (IntKind.wrap .u64 4)) (IntKind.wrap .u64 4)) (IntKind.wrap .u64 (IntKind.wrap .u64 16 - 1)))) 0)) : Int)), UInt8.ofNat (Int.toNat (↑(UInt8.toNat (List.getD (Array.toList (ByteArray.data dig36)) (Int.toNat (andI .u64 (shrI .u64 u (IntKind.wrap .u64 4)) (IntKind.wrap .u64 (IntKind.wrap .u64 16 - 1)))) 0)) : Int)), UInt8.ofNat (Int.toNat (↑(UInt8.toNat (List.getD (Array.toList (ByteArray.data dig36)) (Int.toNat (andI .u64 u (IntKind.wrap .u64 (IntKind.wrap .u64 16 - 1)))) 0)) : Int))] }])))))))) ((((0 ≤ shrI .u64 (shrI .u64 u (IntKind.wrap .u64 4)) (IntKind.wrap .u64 4)) ∧ (shrI .u64 (shrI .u64 u (IntKind.wrap .u64 4)) (IntKind.wrap .u64 4) < (↑(List.length (Array.toList (ByteArray.data dig36))) : Int))) ∧ ((((0 : Int) ≤ 62) ∧ (62 < (↑65 : Int))) ∧ Q (Value.tuple #[Value.slice none 0 0, Value.string { data := #[UInt8.ofNat (Int.toNat (↑(UInt8.toNat (List.getD (Array.toList (ByteArray.data dig36)) (Int.toNat (shrI .u64 (shrI .u64 u (IntKind.wrap .u64 4)) (IntKind.wrap .u64 4))) 0)) : Int)), UInt8.ofNat (Int.toNat (↑(UInt8.toNat (List.getD (Array.toList (ByteArray.data dig36)) (Int.toNat (andI .u64 (shrI .u64 u (IntKind.wrap .u64 4)) (IntKind.wrap .u64 (IntKind.wrap .u64 16 - 1)))) 0)) : Int)), UInt8.ofNat (Int.toNat (↑(UInt8.toNat (List.getD (Array.toList (ByteArray.data dig36)) (Int.toNat (andI .u64 u (IntKind.wrap .u64 (IntKind.wrap .u64 16 - 1)))) 0)) : Int))] }])))))))) ((((0 ≤ shrI .u64 u (IntKind.wrap .u64 4)) ∧ (shrI .u64 u (IntKind.wrap .u64 4) < (↑(List.length (Array.toList (ByteArray.data dig36))) : Int))) ∧ ((((0 : Int) ≤ 63) ∧ (63 < (↑65 : Int))) ∧ Q (Value.tuple #[Value.slice none 0 0, Value.string { data := #[UInt8.ofNat (Int.toNat (↑(UInt8.toNat (List.getD (Array.toList (ByteArray.data dig36)) (Int.toNat (shrI .u64 u (IntKind.wrap .u64 4))) 0)) : Int)), UInt8.ofNat (Int.toNat (↑(UInt8.toNat (List.getD (Array.toList (ByteArray.data dig36)) (Int.toNat (andI .u64 u (IntKind.wrap .u64 (IntKind.wrap .u64 16 - 1)))) 0)) : Int))] }])))))))) ((((0 ≤ u) ∧ (u < (↑(List.length (Array.toList (ByteArray.data dig36))) : Int))) ∧ ((((0 : Int) ≤ 64) ∧ (64 < (↑65 : Int))) ∧ Q (Value.tuple #[Value.slice none 0 0, Value.string { data := #[UInt8.ofNat (Int.toNat (↑(UInt8.toNat (List.getD (Array.toList (ByteArray.data dig36)) (Int.toNat u) 0)) : Int))] }])))))))))) := by kernel_rfl
end Go.Proofs.YtfnacgojmdbjmaaGreatDoor
end

section
/- Shifts and masks of 64 bits at natural numbers. Plain. -/
namespace Go.Det
theorem shr_nat {k : Nat} (s : Nat) (hs : s ≤ 64) : shrI .u64 (k : Int) (s : Int) = ((k / 2 ^ s : Nat) : Int) := by
  unfold shrI
  show Int.fdiv (k : Int) (2 ^ (min (Int.toNat (s : Int)) 64)) = _
  rw [Int.toNat_natCast, Nat.min_eq_left hs, Int.fdiv_eq_ediv_of_nonneg _ (Int.le_of_lt (Int.pow_pos (by decide)))]
  push_cast
  rfl
theorem wrapU {x : Int} (h : 0 ≤ x ∧ x < 18446744073709551616) : IntKind.u64.wrap x = x := by
  obtain ⟨n, rfl⟩ := Int.eq_ofNat_of_zero_le h.1
  exact wrap_u64 (by unfold M64; omega)
theorem and_low {k : Nat} (hk : k < 18446744073709551616) (j : Nat) (hj : j ≤ 32) : andI .u64 (k : Int) ((2 ^ j - 1 : Nat) : Int) = ((k % 2 ^ j : Nat) : Int) := by
  have hp : 2 ^ j ≤ 2 ^ 32 := Nat.pow_le_pow_right (by decide) hj
  have hp' : 2 ^ j ≤ 4294967296 := hp
  rw [andI_u64 (inU_iff.2 ⟨by omega, by omega⟩) (inU_iff.2 ⟨by omega, by omega⟩), Int.toNat_natCast, Int.toNat_natCast, Nat.and_two_pow_sub_one_eq_mod]
theorem or_join {a b : Nat} (s : Nat) (hb : b < 2 ^ s) (h : a * 2 ^ s + b < 18446744073709551616) : orI .u64 ((a * 2 ^ s : Nat) : Int) (b : Int) = ((a * 2 ^ s + b : Nat) : Int) := by
  have e : a * 2 ^ s ||| b = a * 2 ^ s + b := by rw [← Nat.shiftLeft_eq, ← Nat.shiftLeft_add_eq_or_of_lt hb]
  obtain ⟨c, hc⟩ : ∃ c, c = a * 2 ^ s := ⟨_, rfl⟩
  rw [← hc] at h e ⊢
  rw [orI_u64 (inU_iff.2 ⟨by omega, by omega⟩) (inU_iff.2 ⟨by omega, by omega⟩), Int.toNat_natCast, Int.toNat_natCast, e]
theorem shl_nat {k : Nat} (s : Nat) (hs : s ≤ 64) (h : k * 2 ^ s < 18446744073709551616) : shlI .u64 (k : Int) (s : Int) = ((k * 2 ^ s : Nat) : Int) := by
  unfold shlI
  show IntKind.u64.wrap ((k : Int) * 2 ^ (min (Int.toNat (s : Int)) 64)) = _
  rw [Int.toNat_natCast, Nat.min_eq_left hs]
  have e : ((k : Int) * 2 ^ s) = ((k * 2 ^ s : Nat) : Int) := by push_cast; rfl
  rw [e]
  exact wrap_u64 h
end Go.Det
end

section
/- Numbers below 65536 told in sixteen signs: strconv.FormatUint at 16. No conditions but the number's size. -/
namespace Go.Proofs.YtfnacgojmdbjmaaGreatDoor
open Go.Det Go.RowKit Go.Proofs.YtfnacgojmdbjmaaGreatDoorW.PrintWords
set_option maxRecDepth 100000
theorem hw16 : IntKind.wrap .u64 16 = 16 := by decide
theorem hw4 : IntKind.wrap .u64 4 = 4 := by decide
theorem hw15 : IntKind.wrap .u64 (16 - 1) = 15 := by decide
theorem hi64 : IntKind.wrap .i64 (65 - 1) = 64 := by decide
theorem hi63 : IntKind.wrap .i64 (64 - 1) = 63 := by decide
theorem hi62 : IntKind.wrap .i64 (63 - 1) = 62 := by decide
theorem hi61 : IntKind.wrap .i64 (62 - 1) = 61 := by decide
theorem shr4 (k : Nat) : shrI .u64 (k : Int) 4 = ((k / 16 : Nat) : Int) := shr_nat 4 (by decide)
theorem and15 {k : Nat} (h : k < 65536) : andI .u64 (k : Int) 15 = ((k % 16 : Nat) : Int) := and_low (by omega) 4 (by decide)
theorem dig_all : ∀ m : Fin 16, UInt8.ofNat (Int.toNat (↑(UInt8.toNat (List.getD (Array.toList (ByteArray.data dig36)) m.val 0)) : Int)) = Txt.dg m.val := by decide +kernel
theorem dig_eq {m : Nat} (h : m < 16) : UInt8.ofNat (Int.toNat (↑(UInt8.toNat (List.getD (Array.toList (ByteArray.data dig36)) (Int.toNat ((m : Nat) : Int)) 0)) : Int)) = Txt.dg m := dig_all ⟨m, h⟩
theorem wD98 (k : Nat) (hk : k < 65536) : codeU Tryz.prog (cwC [(133, conD109), (134, conD110)]) (oxE []) 4 (bodyOf Tryz.f122) (inTab [.slice none 0 0, .int .u64 (k : Int), .int .i64 16, .bool false, .bool false] 8) (birth [] 64) (retW Tryz.prog Tryz.f122 fun v _ => v = .tuple #[.slice none 0 0, .string ⟨⟨Txt.hexT k⟩⟩]) := by
  refine (vf98 (k : Int) _).mpr ?_
  have a0 := and15 hk
  have a1 := and15 (k := k / 16) (by omega)
  have a2 := and15 (k := k / 16 / 16) (by omega)
  have a3 := and15 (k := k / 16 / 16 / 16) (by omega)
  simp only [hw16, hw4, hw15, hi64, hi63, hi62, hi61, shr4, a0, a1, a2, a3, dig_len]
  refine bifW_f (by decide) (bifW_f (by decide) (bifW_f (by decide) ⟨trivial, trivial, ?_⟩))
  have e1 : k / 16 / 16 = k / 256 := by omega
  have e2 : k / 16 / 16 / 16 = k / 4096 := by omega
  refine bifW_c (fun h1 => ⟨⟨by omega, by omega⟩, ⟨by decide, by decide⟩, by decide, ?_⟩) (fun h1 => ⟨⟨by omega, by omega⟩, ⟨by decide, by decide⟩, ?_⟩)
  · refine bifW_c (fun h2 => ⟨⟨by omega, by omega⟩, ⟨by decide, by decide⟩, by decide, ?_⟩) (fun h2 => ⟨⟨by omega, by omega⟩, ⟨by decide, by decide⟩, ?_⟩)
    · refine bifW_c (fun h3 => ⟨⟨by omega, by omega⟩, ⟨by decide, by decide⟩, by decide, ?_⟩) (fun h3 => ⟨⟨by omega, by omega⟩, ⟨by decide, by decide⟩, ?_⟩)
      · refine bifW_f (by omega) ⟨⟨by omega, by omega⟩, ⟨by decide, by decide⟩, ?_⟩
        rw [dig_eq (m := k / 16 / 16 / 16) (by omega), dig_eq (m := k / 16 / 16 % 16) (by omega), dig_eq (m := k / 16 % 16) (by omega), dig_eq (m := k % 16) (by omega), e2, e1]
        unfold Txt.hexT
        rw [if_neg (by omega), if_neg (by omega), if_neg (by omega)]
      · rw [dig_eq (m := k / 16 / 16) (by omega), dig_eq (m := k / 16 % 16) (by omega), dig_eq (m := k % 16) (by omega), e1]
        unfold Txt.hexT
        rw [if_neg (by omega), if_neg (by omega), if_pos (by omega)]
    · rw [dig_eq (m := k / 16) (by omega), dig_eq (m := k % 16) (by omega)]
      unfold Txt.hexT
      rw [if_neg (by omega), if_pos (by omega)]
  · rw [dig_eq (m := k) (by omega)]
    unfold Txt.hexT
    rw [if_pos (by omega)]
end Go.Proofs.YtfnacgojmdbjmaaGreatDoor
end

section
/- Numbers below 65536 told in sixteen signs, as contracts of calls. No conditions but the number's size. -/
namespace Go.Proofs.YtfnacgojmdbjmaaGreatDoor
open Go.Det Go.RowKit Go.Proofs.YtfnacgojmdbjmaaGreatDoorW.PrintWords
set_option maxRecDepth 100000
def fmtF (n b : Int) : Option ByteArray := if b = 16 ∧ (0 ≤ n ∧ n < 65536) then some ⟨⟨Txt.hexT n.toNat⟩⟩ else none
noncomputable def d98 : List Value → Option Int
  | [.slice none 0 0, .int .u64 u, .int .i64 b, .bool false, .bool false] => match Int.decEq b 16 with | Decidable.isTrue _ => some u | Decidable.isFalse _ => none
  | _ => none
noncomputable def e98 (u : Int) : List Value := [.slice none 0 0, .int .u64 u, .int .i64 16, .bool false, .bool false]
theorem d98_enc {args : List Value} {a : Int} (h : d98 args = some a) : args = e98 a := by
  unfold d98 at h
  split at h
  case h_2 => cases h
  split at h
  · rename_i hn _; cases h; unfold e98; rw [hn]
  · cases h
noncomputable def conD98 : Con := Con.opt d98 (fun u => fmtF u 16) fun y => .tuple #[.slice none 0 0, .string y]
theorem omD98 {W : World} (hW : GoodW W) : OwnAll Tryz.prog W 6 122 conD98.own :=
  con_opt e98 (Laying.empty hW.size) hW.size (by decide) dt_mixed (OwnsAll.con (omD109 hW) (OwnsAll.con (omD110 hW) (ownsAll_nil W 6))) Tryz.func122 (fn := Tryz.f122) (c := bodyOf Tryz.f122) (by kernel_rfl) (by kernel_rfl) (fun _ _ h => d98_enc h) (fun a => ⟨rfl, (by kernel_rfl)⟩) (fun b => rfl) fun a b h => by
    unfold fmtF at h
    split at h
    case isFalse => cases h
    rename_i hn
    cases h
    obtain ⟨k, rfl⟩ := Int.eq_ofNat_of_zero_le hn.2.1
    exact codeU_codeW (cwC_mono _) (oxE_ok _) (by kernel_rfl) (wD98 k (by omega))
noncomputable def d85 : List Value → Option Int
  | [.int .u64 u, .int .i64 b] => match Int.decEq b 16 with | Decidable.isTrue _ => some u | Decidable.isFalse _ => none
  | _ => none
noncomputable def e85 (u : Int) : List Value := [.int .u64 u, .int .i64 16]
theorem d85_enc {args : List Value} {a : Int} (h : d85 args = some a) : args = e85 a := by
  unfold d85 at h
  split at h
  case h_2 => cases h
  split at h
  · rename_i hn _; cases h; unfold e85; rw [hn]
  · cases h
noncomputable def conD85 : Con := Con.opt d85 (fun u => fmtF u 16) fun y => .string y
theorem wD85 (u : Int) (Q : Value → Prop) : codeU Tryz.prog (cwC [(122, conD98)]) (oxE [10]) 1 (bodyOf Tryz.f108) (inTab [.int .u64 u, .int .i64 16] 8) (birth [] 64) (retW Tryz.prog Tryz.f108 fun v _ => Q v) = (true = true ∧ ∃ y : ByteArray, fmtF u 16 = some y ∧ Q (.string y)) := by kernel_rfl
theorem omD85 {W : World} (hW : GoodW W) : OwnAll Tryz.prog W 6 108 conD85.own :=
  con_opt e85 (Laying.empty hW.size) hW.size (by decide) dt_mixed (OwnsAll.con (omD98 hW) (ownsAll_nil W 6)) Tryz.func108 (fn := Tryz.f108) (c := bodyOf Tryz.f108) (by kernel_rfl) (by kernel_rfl) (fun _ _ h => d85_enc h) (fun a => ⟨rfl, (by kernel_rfl)⟩) (fun b => rfl) fun a b h =>
    codeU_codeW (cwC_mono _) (oxE_ok _) (n := 1) (by kernel_rfl) ((wD85 a _).mpr ⟨rfl, b, h, rfl⟩)
noncomputable def conD77 : Con := Con.opt d85 (fun u => fmtF u 16) fun y => .string y
theorem wD77 (u : Int) (Q : Value → Prop) : codeU Tryz.prog (cwC [(108, conD85)]) (oxE []) 1 (bodyOf Tryz.f94) (inTab [.int .u64 u, .int .i64 16] 8) (birth [] 64) (retW Tryz.prog Tryz.f94 fun v _ => Q v) = (∃ y : ByteArray, fmtF u 16 = some y ∧ Q (.string y)) := by kernel_rfl
theorem omD77 {W : World} (hW : GoodW W) : OwnAll Tryz.prog W 6 94 conD77.own :=
  con_opt e85 (Laying.empty hW.size) hW.size (by decide) dt_mixed (OwnsAll.con (omD85 hW) (ownsAll_nil W 6)) Tryz.func94 (fn := Tryz.f94) (c := bodyOf Tryz.f94) (by kernel_rfl) (by kernel_rfl) (fun _ _ h => d85_enc h) (fun a => ⟨rfl, (by kernel_rfl)⟩) (fun b => rfl) fun a b h =>
    codeU_codeW (cwC_mono _) (oxE_ok _) (n := 1) (by kernel_rfl) ((wD77 a _).mpr ⟨b, h, rfl⟩)
theorem st_fmt {n b : Int} {r : ByteArray} {w : World} (hG : GoodW w) (h : fmtF n b = some r) : Calls Tryz.prog 94 #[.int .u64 n, .int .i64 b] w fun e w' => e = .returned (.string r) ∧ Below w.heap.size w w' := by
  have hb : b = 16 := by
    unfold fmtF at h
    split at h
    · rename_i q; exact q.1
    · cases h
  subst hb
  exact calls_of_own (fn := Tryz.f94) (c := bodyOf Tryz.f94) (omD77 hG) hG Tryz.func94 (by kernel_rfl) (by kernel_rfl) (args := e85 n) (v := .string r) (opt_own (dec := d85) (f := fun u => fmtF u 16) (enc := fun y => .string y) (a := n) (b := r) rfl h _) rfl rfl (by intro h; cases h)
end Go.Proofs.YtfnacgojmdbjmaaGreatDoor
end

section
/- Groups of four signs, numbers in ten signs, an address's groups: what the functions answer. No conditions. -/
namespace Go.Proofs.YtfnacgojmdbjmaaGreatDoor
open Go.Det Go.RowKit Go.Proofs.YtfnacgojmdbjmaaGreatDoorW.PrintWords
set_option maxRecDepth 100000
def hexL : Int → List UInt8 → Option (Int × Bool)
  | n, [] => some (n, true)
  | n, c :: t => (idxF dig16 (orI .u8 (c.toNat : Int) 32)).bind fun x => if x < 0 then some (0, false) else if (c.toNat : Int) < 48 then some (0, false) else hexL (orI .u64 (shlI .u64 n 4) (IntKind.wrap .u64 x)) t
def hexF (s : ByteArray) : Option (Int × Bool) := if s.data.toList.length < 1 ∨ 4 < s.data.toList.length then some (0, false) else hexL 0 s.data.toList
theorem bsize (l : List UInt8) : ByteArray.size { data := { toList := l } } = l.length := rfl
theorem blen (l : List UInt8) : Array.toList (ByteArray.data { data := { toList := l } }) = l := rfl
theorem bcT {A B : Prop} : bifW (cdec True) A B = A := by rw [cdec_true.2 trivial]; rfl
theorem bcF {A B : Prop} : bifW (cdec False) A B = B := by rw [cdec_false.2 id]; rfl
theorem wi0 : IntKind.wrap .i64 0 = 0 := by decide
theorem wi5 : IntKind.wrap .i64 5 = 5 := by decide
theorem wi6 : IntKind.wrap .i64 6 = 6 := by decide
theorem wi7 : IntKind.wrap .i64 7 = 7 := by decide
theorem wi16 : IntKind.wrap .i64 16 = 16 := by decide
theorem wi32 : IntKind.wrap .i64 32 = 32 := by decide
theorem wi48 : IntKind.wrap .i64 48 = 48 := by decide
theorem wi1 : IntKind.wrap .i64 1 = 1 := by decide
theorem wi2 : IntKind.wrap .i64 2 = 2 := by decide
theorem wi3 : IntKind.wrap .i64 3 = 3 := by decide
theorem wi4 : IntKind.wrap .i64 4 = 4 := by decide
noncomputable def decB : List Value → Option ByteArray
  | [.string s] => some s
  | _ => none
theorem decB_enc {args : List Value} {a : ByteArray} (h : decB args = some a) : args = [.string a] := by
  unfold decB at h
  split at h
  case h_2 => cases h
  cases h; rfl
noncomputable def enIB (y : Int × Bool) : Value := .tuple #[.int .u64 y.1, .bool y.2]
theorem wD83 (s : ByteArray) (y : Int × Bool) (hx : hexF s = some y) : codeW Tryz.prog (cwC [(125, conD92)]) (bodyOf Tryz.f115) (inTab [.string s] 8) (birth [] 64) (retW Tryz.prog Tryz.f115 fun v' _ => v' = enIB y) := by
  obtain ⟨⟨l⟩⟩ := s
  unfold hexF at hx
  rw [blen] at hx
  match l, hx with
  | [], hx =>
    refine codeU_codeW (cwC_mono _) ox0_ok (by kernel_rfl) ((vh0 _).mpr ?_)
    simp only [zl, zF, zu, zd, zn, zs, zh]
    rw [if_pos (by simp)] at hx
    cases hx
    simp only [bsize, List.length_nil, Int.cast_ofNat_Int]
    exact bifW_t (by decide) rfl
  | [a], hx =>
    refine codeU_codeW (cwC_mono _) ox0_ok (by kernel_rfl) ((vh1 a _).mpr ?_)
    simp only [zl, zF, zu, zd, zn, zs, zh]
    rw [if_neg (by simp)] at hx
    simp only [hexL] at hx
    simp only [bsize, List.length_cons, List.length_nil, Nat.reduceAdd, Int.reduceAdd, wi1, wi2, wi3, wi4, Int.cast_ofNat_Int, Int.reduceLT, Int.reduceLE, bcT, bcF, true_and, and_true, and_false, false_and]
    repeat' first
      | (obtain ⟨y, hy, hx⟩ := Option.bind_eq_some_iff.1 hx; refine ⟨y, hy, ?_⟩)
      | ((refine bifW_c (fun hc => ?_) (fun hc => ?_)) <;> first | rw [if_pos hc] at hx | rw [if_neg hc] at hx)
      | (cases hx; rfl)
  | [a, b], hx =>
    refine codeU_codeW (cwC_mono _) ox0_ok (by kernel_rfl) ((vh2 a b _).mpr ?_)
    simp only [zl, zF, zu, zd, zn, zs, zh]
    rw [if_neg (by simp)] at hx
    simp only [hexL] at hx
    simp only [bsize, List.length_cons, List.length_nil, Nat.reduceAdd, Int.reduceAdd, wi1, wi2, wi3, wi4, Int.cast_ofNat_Int, Int.reduceLT, Int.reduceLE, bcT, bcF, true_and, and_true, and_false, false_and]
    repeat' first
      | (obtain ⟨y, hy, hx⟩ := Option.bind_eq_some_iff.1 hx; refine ⟨y, hy, ?_⟩)
      | ((refine bifW_c (fun hc => ?_) (fun hc => ?_)) <;> first | rw [if_pos hc] at hx | rw [if_neg hc] at hx)
      | (cases hx; rfl)
  | [a, b, c], hx =>
    refine codeU_codeW (cwC_mono _) ox0_ok (by kernel_rfl) ((vh3 a b c _).mpr ?_)
    simp only [zl, zF, zu, zd, zn, zs, zh]
    rw [if_neg (by simp)] at hx
    simp only [hexL] at hx
    simp only [bsize, List.length_cons, List.length_nil, Nat.reduceAdd, Int.reduceAdd, wi1, wi2, wi3, wi4, Int.cast_ofNat_Int, Int.reduceLT, Int.reduceLE, bcT, bcF, true_and, and_true, and_false, false_and]
    repeat' first
      | (obtain ⟨y, hy, hx⟩ := Option.bind_eq_some_iff.1 hx; refine ⟨y, hy, ?_⟩)
      | ((refine bifW_c (fun hc => ?_) (fun hc => ?_)) <;> first | rw [if_pos hc] at hx | rw [if_neg hc] at hx)
      | (cases hx; rfl)
  | [a, b, c, d], hx =>
    refine codeU_codeW (cwC_mono _) ox0_ok (by kernel_rfl) ((vh4 a b c d _).mpr ?_)
    simp only [zl, zF, zu, zd, zn, zs, zh]
    rw [if_neg (by simp)] at hx
    simp only [hexL] at hx
    simp only [bsize, List.length_cons, List.length_nil, Nat.reduceAdd, Int.reduceAdd, wi1, wi2, wi3, wi4, Int.cast_ofNat_Int, Int.reduceLT, Int.reduceLE, bcT, bcF, true_and, and_true, and_false, false_and]
    repeat' first
      | (obtain ⟨y, hy, hx⟩ := Option.bind_eq_some_iff.1 hx; refine ⟨y, hy, ?_⟩)
      | ((refine bifW_c (fun hc => ?_) (fun hc => ?_)) <;> first | rw [if_pos hc] at hx | rw [if_neg hc] at hx)
      | (cases hx; rfl)
  | a :: b :: c :: d :: e :: t, hx =>
    refine codeU_codeW (cwC_mono _) ox0_ok (by kernel_rfl) ((vh5 a b c d e t _).mpr ?_)
    simp only [zl, zF, zu, zd, zn, zs, zh]
    rw [if_pos (by simp)] at hx
    cases hx
    simp only [bsize, List.length_cons]
    exact bifW_f (by omega) (bifW_t (by omega) rfl)
noncomputable def conD83 : Con := Con.opt decB hexF enIB
theorem omD83 {W : World} (hW : GoodW W) : OwnAll Tryz.prog W 6 115 conD83.own :=
  con_opt (fun s => [.string s]) (Laying.empty hW.size) hW.size (by decide) dt_mixed (OwnsAll.con (omD92 hW) (ownsAll_nil W 6)) Tryz.func115 (fn := Tryz.f115) (c := bodyOf Tryz.f115) (by kernel_rfl) (by kernel_rfl) (fun _ _ h => decB_enc h) (fun a => ⟨rfl, (by kernel_rfl)⟩) (fun b => rfl) wD83
theorem st_hex {s : ByteArray} {r1 : Int} {r2 : Bool} {w : World} (hG : GoodW w) (h : hexF s = some (r1, r2)) : Calls Tryz.prog 115 #[.string s] w fun e w' => e = .returned (.tuple #[.int .u64 r1, .bool r2]) ∧ Below w.heap.size w w' :=
  calls_of_own (fn := Tryz.f115) (c := bodyOf Tryz.f115) (omD83 hG) hG Tryz.func115 (by kernel_rfl) (by kernel_rfl) (args := [.string s]) (v := enIB (r1, r2)) (opt_own (dec := decB) (f := hexF) (enc := enIB) (a := s) (b := (r1, r2)) rfl h _) rfl rfl (by intro h; cases h)
def numL (m : Int) : Int → List UInt8 → Option (Int × Bool)
  | n, [] => if m < n then some (0, false) else some (n, true)
  | n, c :: t => if (c.toNat : Int) < 48 then some (0, false) else if 57 < (c.toNat : Int) then some (0, false) else if IntKind.wrap .u64 (m.tdiv 10) < n then some (0, false) else if IntKind.wrap .u64 (m - if m < IntKind.wrap .u64 (IntKind.wrap .u8 ((c.toNat : Int) - 48)) then m else IntKind.wrap .u64 (IntKind.wrap .u8 ((c.toNat : Int) - 48))) < IntKind.wrap .u64 (10 * n) then some (0, false) else numL m (IntKind.wrap .u64 (IntKind.wrap .u64 (10 * n) + IntKind.wrap .u64 (IntKind.wrap .u8 ((c.toNat : Int) - 48)))) t
def numF (s : ByteArray) (m : Int) : Option (Int × Bool) :=
  if 0 ≤ m ∧ m ≤ 255 then (match s.data.toList with
    | [] => some (0, false)
    | c :: t => if (c.toNat : Int) = 48 then (if t = [] then numL m 0 [c] else some (0, false)) else numL m 0 (c :: t))
  else none
noncomputable def decBM : List Value → Option (ByteArray × Int)
  | [.string s, .int .u64 m] => some (s, m)
  | _ => none
theorem decBM_enc {args : List Value} {a : ByteArray × Int} (h : decBM args = some a) : args = [.string a.1, .int .u64 a.2] := by
  unfold decBM at h
  split at h
  case h_2 => cases h
  cases h; rfl
theorem nil_ba : Array.toList (ByteArray.data { data := #[] }) = [] := rfl
theorem getD0 (a : UInt8) (t : List UInt8) : List.getD (a :: t) 0 0 = a := rfl
theorem cons_nil (a : UInt8) (t : List UInt8) : ((a :: t) = []) = False := by simp
theorem xd (c : UInt8) (h1 : ¬ (c.toNat : Int) < 48) (h2 : ¬ 57 < (c.toNat : Int)) : IntKind.wrap .u64 (IntKind.wrap .u8 ((c.toNat : Int) - 48)) = (c.toNat : Int) - 48 := by
  have e : IntKind.wrap .u8 ((c.toNat : Int) - 48) = (c.toNat : Int) - 48 := by
    unfold IntKind.wrap
    simp [IntKind.signed, IntKind.bits]
    omega
  rw [e, Go.Det.wrapU ⟨by omega, by omega⟩]
theorem num4 {m : Int} (hm : 0 ≤ m ∧ m ≤ 255) {a b c : UInt8} (h0 : ¬ (a.toNat : Int) = 48) (a1 : ¬ (a.toNat : Int) < 48) (a2 : ¬ 57 < (a.toNat : Int)) (b1 : ¬ (b.toNat : Int) < 48) (b2 : ¬ 57 < (b.toNat : Int)) (c1 : ¬ (c.toNat : Int) < 48) (c2 : ¬ 57 < (c.toNat : Int)) :
    IntKind.wrap .u64 (m.tdiv 10) < IntKind.wrap .u64 (IntKind.wrap .u64 (10 * IntKind.wrap .u64 (IntKind.wrap .u64 (10 * IntKind.wrap .u64 (IntKind.wrap .u64 (10 * 0) + IntKind.wrap .u64 (IntKind.wrap .u8 ((a.toNat : Int) - 48)))) + IntKind.wrap .u64 (IntKind.wrap .u8 ((b.toNat : Int) - 48)))) + IntKind.wrap .u64 (IntKind.wrap .u8 ((c.toNat : Int) - 48))) := by
  obtain ⟨k, rfl⟩ := Int.eq_ofNat_of_zero_le hm.1
  rw [xd a a1 a2, xd b b1 b2, xd c c1 c2, show Int.tdiv (k : Int) 10 = ((k / 10 : Nat) : Int) from rfl, Go.Det.wrapU (x := ((k / 10 : Nat) : Int)) ⟨by omega, by omega⟩, Go.Det.wrapU (x := 10 * 0) ⟨by omega, by omega⟩]
  rw [Go.Det.wrapU (x := 10 * 0 + ((a.toNat : Int) - 48)) ⟨by omega, by omega⟩, Go.Det.wrapU (x := 10 * (10 * 0 + ((a.toNat : Int) - 48))) ⟨by omega, by omega⟩, Go.Det.wrapU (x := 10 * (10 * 0 + ((a.toNat : Int) - 48)) + ((b.toNat : Int) - 48)) ⟨by omega, by omega⟩, Go.Det.wrapU (x := 10 * (10 * (10 * 0 + ((a.toNat : Int) - 48)) + ((b.toNat : Int) - 48))) ⟨by omega, by omega⟩, Go.Det.wrapU ⟨by omega, by omega⟩]
  omega
theorem wD61 (x : ByteArray × Int) (y : Int × Bool) (hx : numF x.1 x.2 = some y) : codeW Tryz.prog (cwC []) (bodyOf Tryz.f61) (inTab [.string x.1, .int .u64 x.2] 8) (birth [] 64) (retW Tryz.prog Tryz.f61 fun v' _ => v' = enIB y) := by
  obtain ⟨⟨⟨l⟩⟩, m⟩ := x
  unfold numF at hx
  simp only [blen] at hx
  split at hx
  case isFalse => cases hx
  rename_i hm
  match l, hx with
  | [], hx =>
    refine codeU_codeW (cwC_mono _) ox0_ok (by kernel_rfl) ((vn0 m _).mpr ?_)
    simp only [zl, zF, zu, zd, zn, zs, zh]
    cases hx
    simp only [blen, nil_ba, bcT]
    rfl
  | [a], hx =>
    refine codeU_codeW (cwC_mono _) ox0_ok (by kernel_rfl) ((vn1 a m _).mpr ?_)
    simp only [zl, zF, zu, zd, zn, zs, zh]
    simp only [numL, if_true, reduceCtorEq, if_false] at hx
    simp only [bsize, blen, nil_ba, cons_nil, Int.toNat_zero, getD0, List.length_cons, List.length_nil, Nat.reduceAdd, Int.reduceAdd, wi1, wi2, wi3, wi4, Int.cast_ofNat_Int, Int.reduceLT, Int.reduceLE, bcT, bcF, true_and, and_true, and_false, false_and, ne_eq, Int.reduceEq, not_false_eq_true]
    repeat' first
      | ((refine bifW_c (fun hc => ?_) (fun hc => ?_)) <;> first | rw [if_pos hc] at hx | rw [if_neg hc] at hx)
      | (cases hx; rfl)
  | [a, b], hx =>
    refine codeU_codeW (cwC_mono _) ox0_ok (by kernel_rfl) ((vn2 a b m _).mpr ?_)
    simp only [zl, zF, zu, zd, zn, zs, zh]
    simp only [numL, if_true, reduceCtorEq, if_false] at hx
    simp only [bsize, blen, nil_ba, cons_nil, Int.toNat_zero, getD0, List.length_cons, List.length_nil, Nat.reduceAdd, Int.reduceAdd, wi1, wi2, wi3, wi4, Int.cast_ofNat_Int, Int.reduceLT, Int.reduceLE, bcT, bcF, true_and, and_true, and_false, false_and, ne_eq, Int.reduceEq, not_false_eq_true]
    repeat' first
      | ((refine bifW_c (fun hc => ?_) (fun hc => ?_)) <;> first | rw [if_pos hc] at hx | rw [if_neg hc] at hx)
      | (cases hx; rfl)
  | [a, b, c], hx =>
    refine codeU_codeW (cwC_mono _) ox0_ok (by kernel_rfl) ((vn3 a b c m _).mpr ?_)
    simp only [zl, zF, zu, zd, zn, zs, zh]
    simp only [numL, if_true, reduceCtorEq, if_false] at hx
    simp only [bsize, blen, nil_ba, cons_nil, Int.toNat_zero, getD0, List.length_cons, List.length_nil, Nat.reduceAdd, Int.reduceAdd, wi1, wi2, wi3, wi4, Int.cast_ofNat_Int, Int.reduceLT, Int.reduceLE, bcT, bcF, true_and, and_true, and_false, false_and, ne_eq, Int.reduceEq, not_false_eq_true]
    repeat' first
      | ((refine bifW_c (fun hc => ?_) (fun hc => ?_)) <;> first | rw [if_pos hc] at hx | rw [if_neg hc] at hx)
      | (cases hx; rfl)
  | a :: b :: c :: d :: t, hx =>
    refine codeU_codeW (cwC_mono _) ox0_ok (by kernel_rfl) ((vn4 a b c d t m _).mpr ?_)
    simp only [zl, zF, zu, zd, zn, zs, zh]
    simp only [numL, if_true, reduceCtorEq, if_false] at hx
    simp only [bsize, blen, nil_ba, cons_nil, Int.toNat_zero, getD0, List.length_cons, List.length_nil, Nat.reduceAdd, Int.reduceAdd, wi1, wi2, wi3, wi4, Int.cast_ofNat_Int, Int.reduceLT, Int.reduceLE, bcT, bcF, true_and, and_true, and_false, false_and, ne_eq, Int.reduceEq, not_false_eq_true]
    have hz : ((0 : Int) < ((t.length + 1 + 1 + 1 + 1 : Nat) : Int)) := by omega
    have ho : ((1 : Int) < ((t.length + 1 + 1 + 1 + 1 : Nat) : Int)) := by omega
    have h2 : ((2 : Int) < ((t.length + 1 + 1 + 1 + 1 : Nat) : Int)) := by omega
    have h3 : ((3 : Int) < ((t.length + 1 + 1 + 1 + 1 : Nat) : Int)) := by omega
    simp only [eq_true hz, eq_true ho, eq_true h2, eq_true h3, bcT, and_true, true_and]
    repeat' first
      | ((refine bifW_c (fun hc => ?_) (fun hc => ?_)) <;> first | rw [if_pos hc] at hx | rw [if_neg hc] at hx)
      | (cases hx; rfl)
    exact absurd (num4 hm ‹¬ (a.toNat : Int) = 48› ‹¬ (a.toNat : Int) < 48› ‹¬ 57 < (a.toNat : Int)› ‹¬ (b.toNat : Int) < 48› ‹¬ 57 < (b.toNat : Int)› ‹¬ (c.toNat : Int) < 48› ‹¬ 57 < (c.toNat : Int)›) (by assumption)
noncomputable def conD61 : Con := Con.opt decBM (fun x => numF x.1 x.2) enIB
theorem omD61 {W : World} (hW : GoodW W) : OwnAll Tryz.prog W 6 61 conD61.own :=
  con_opt (fun x : ByteArray × Int => [.string x.1, .int .u64 x.2]) (Laying.empty hW.size) hW.size (by decide) dt_mixed (ownsAll_nil W 6) Tryz.func61 (fn := Tryz.f61) (c := bodyOf Tryz.f61) (by kernel_rfl) (by kernel_rfl) (fun _ _ h => decBM_enc h) (fun a => ⟨rfl, (by kernel_rfl)⟩) (fun b => rfl) wD61
theorem st_num {s : ByteArray} {m r1 : Int} {r2 : Bool} {w : World} (hG : GoodW w) (h : numF s m = some (r1, r2)) : Calls Tryz.prog 61 #[.string s, .int .u64 m] w fun e w' => e = .returned (.tuple #[.int .u64 r1, .bool r2]) ∧ Below w.heap.size w w' :=
  calls_of_own (fn := Tryz.f61) (c := bodyOf Tryz.f61) (omD61 hG) hG Tryz.func61 (by kernel_rfl) (by kernel_rfl) (args := [.string s, .int .u64 m]) (v := enIB (r1, r2)) (opt_own (dec := decBM) (f := fun x => numF x.1 x.2) (enc := enIB) (a := (s, m)) (b := (r1, r2)) rfl h _) rfl rfl (by intro h; cases h)
def partL (a : Int) : List Int := [andI .u64 (shrI .u64 a 48) 65535, andI .u64 (shrI .u64 a 32) 65535, andI .u64 (shrI .u64 a 16) 65535, andI .u64 (shrI .u64 a 0) 65535]
def partsF (x : Int × Int) : Option (List Value) := some ((partL x.1 ++ partL x.2).map (Value.int .u64))
theorem wD56 (x : Int × Int) (cs : List Value) (hx : partsF x = some cs) : codeW Tryz.prog (cwC []) (bodyOf Tryz.f91) (inTab [.agg #[.int .u64 x.1, .int .u64 x.2]] 8) (birth [] 64) (retW Tryz.prog Tryz.f91 fun v' s' => ∃ k, v' = .slice (some ⟨k, 0, none⟩) 8 8 ∧ s'.h.get k = some (.cells cs 47 false)) := by
  obtain ⟨a, b⟩ := x
  cases hx
  have h := vparts a b (andI .u64 (shrI .u64 a 48) 65535) (andI .u64 (shrI .u64 a 32) 65535) (andI .u64 (shrI .u64 a 16) 65535) (andI .u64 (shrI .u64 a 0) 65535) (andI .u64 (shrI .u64 b 48) 65535) (andI .u64 (shrI .u64 b 32) 65535) (andI .u64 (shrI .u64 b 16) 65535) (andI .u64 (shrI .u64 b 0) 65535)
  refine codeW_mono (cwC_mono _) _ (fun e l s q => retW_mono (fun v s q => ?_) q) (codeU_codeW (cwC_mono _) ox0_ok (by kernel_rfl) (h.mpr ?_))
  · exact ⟨65, q.1, blkW_get q.2⟩
  · simp only [Int.reduceMul, Int.reduceAdd, Int.reduceSub, wi0, wi1, wi2, wi3, wi4, wi5, wi6, wi7, wi16, wi32, wi48, Int.reduceLT, Int.reduceLE, Int.reduceToNat, Int.cast_ofNat_Int, bcT, bcF, true_and, and_true]
noncomputable def decQ2 : List Value → Option (Int × Int)
  | [.agg ⟨[.int .u64 a, .int .u64 b]⟩] => some (a, b)
  | _ => none
theorem decQ2_enc {args : List Value} {a : Int × Int} (h : decQ2 args = some a) : args = [.agg #[.int .u64 a.1, .int .u64 a.2]] := by
  unfold decQ2 at h
  split at h
  case h_2 => cases h
  cases h; rfl
noncomputable def conD56 : Con := Con.made decQ2 partsF 8 47
theorem omD56 {W : World} (hW : GoodW W) : OwnAll Tryz.prog W 6 91 conD56.own :=
  own_made (cw := cwC []) (l := extC []) (fun x : Int × Int => [.agg #[.int .u64 x.1, .int .u64 x.2]]) (Laying.empty hW.size) hW.size (by decide) dt_mixed (ownsAll_nil W 6) (cwC_ok []) Tryz.func91 (fn := Tryz.f91) (c := bodyOf Tryz.f91) (by kernel_rfl) (by kernel_rfl) (by decide) (fun _ _ h => decQ2_enc h) (fun a => ⟨rfl, (by kernel_rfl)⟩) fun a cs h => ⟨fun v hv => by
    cases h
    obtain ⟨x, _, rfl⟩ := List.mem_map.1 hv
    rfl, wD56 a cs h⟩
end Go.Proofs.YtfnacgojmdbjmaaGreatDoor
end
