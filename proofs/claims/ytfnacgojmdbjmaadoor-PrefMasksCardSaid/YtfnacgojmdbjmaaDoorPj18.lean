/- Contracts of the library's functions on texts, at worlds in which the listed tables lie, in the words of the printed functions. -/
import Derived.Test.YtfnacgojmdbjmaaDoorPj6
import Derived.Test.YtfnacgojmdbjmaaDoorDetShelfD
import Derived.Test.YtfnacgojmdbjmaaDoorPj16
import Derived.Test.YtfnacgojmdbjmaaDoorPj17
namespace Go.Proofs.YtfnacgojmdbjmaaDoor
set_option maxRecDepth 100000
open Go.Det Go.RowKit Go.Proofs.YtfnacgojmdbjmaaDoorW.PrintWords

def cutB (s sep : ByteArray) : ByteArray × ByteArray × Bool := (⟨(Lib.cut s.data.toList sep.data.toList).1.toArray⟩, ⟨(Lib.cut s.data.toList sep.data.toList).2.1.toArray⟩, (Lib.cut s.data.toList sep.data.toList).2.2)
theorem st_cut {s sep r1 r2 : ByteArray} {r3 : Bool} {w : World} (hG : GoodW w) (h : (if s.size < 4294967281 then some (cutB s sep) else none) = some (r1, r2, r3)) :
    Calls Tryd.prog 60 #[.string s, .string sep] w fun e w' => e = .returned (.tuple #[.string r1, .string r2, .bool r3]) ∧ Drawn0 w w' := by
  split at h
  case isFalse => cases h
  rename_i hs
  cases h
  obtain ⟨_, m, hm⟩ := hG.len
  refine (Tryd.strings_Cut s sep m w hs hm).mono ?_
  rintro e w' ⟨rfl, n, rfl⟩
  exact ⟨rfl, ⟨n, rfl⟩⟩
theorem st_contains {s sep : ByteArray} {r : Bool} {w : World} (hG : GoodW w) (h : (if s.size < 4294967281 then some (Lib.contains s.data.toList sep.data.toList) else none) = some r) :
    Calls Tryd.prog 51 #[.string s, .string sep] w fun e w' => e = .returned (.bool r) ∧ Drawn0 w w' := by
  split at h
  case isFalse => cases h
  rename_i hs
  cases h
  obtain ⟨_, m, hm⟩ := hG.len
  refine (Tryd.strings_Contains s sep m w hs hm).mono ?_
  rintro e w' ⟨rfl, rfl⟩
  exact ⟨rfl, Drawn0.refl _⟩
theorem st_split {s sep : ByteArray} {r : List ByteArray} {w : World} (hG : GoodW w) (h : (if s.size < 4294967281 ∧ 1 ≤ sep.size then some (Lib.splitB sep 0 (Lib.countB s sep) s) else none) = some r) :
    Calls Tryd.prog 76 #[.string s, .string sep] w fun e w' => ∃ v0_ : Value, e = .returned (v0_) ∧ Kd.R Kd.string 9 w' w.heap.size (fun _ => True) v0_ r ∧ Below w.heap.size w w' := by
  split at h
  case isFalse => cases h
  rename_i hs
  cases h
  obtain ⟨_, m, hm⟩ := hG.len
  refine (Tryd.strings_Split s sep m w hs.1 hm hs.2).mono ?_
  rintro e w' ⟨rfl, rfl⟩
  have hl := Lib.splitB_all sep hs.2 0 (Lib.countB s sep) s rfl
  have hcb := Lib.countB_le sep hs.2 s.size s (Nat.le_refl _)
  refine ⟨_, rfl, ?_, below_alloc (Below.refl _ _) _⟩
  have hrep := Kd.reps_scalar (enc := Value.string) (Lib.splitB sep 0 (Lib.countB s sep) s)
  rw [← hl]
  exact ⟨fun _ _ => trivial, OwnRow.lit w w.heap.size hrep (Nat.le_refl _) (by rw [hl]; omega)⟩
theorem st_indexByte {s : ByteArray} {c r : Int} {w : World} (h : some (Lib.indexByte s.data.toList c.toNat.toUInt8) = some r) :
    Calls Tryd.prog 92 #[.string s, .int .u8 c] w fun e w' => e = .returned (.int .i64 r) ∧ Drawn0 w w' := by
  cases h
  refine (Tryd.strings_IndexByte s c w).mono ?_
  rintro e w' ⟨rfl, rfl⟩
  exact ⟨rfl, Drawn0.refl _⟩
def joinB (l : List ByteArray) (sep : ByteArray) : ByteArray := ⟨(Lib.join (l.map (·.data.toList)) sep.data.toList).toArray⟩
theorem st_join {A0 : Option Addr} {c0 : Nat} {l0 : List ByteArray} {sep r : ByteArray} {w : World} (hr : Kd.C Kd.string w A0 l0.length l0) (hc : l0.length ≤ c0)
    (h : (if (joinB l0 sep).size ≤ 140737488355328 ∧ l0.length ≤ 140737488355328 then some (joinB l0 sep) else none) = some r) :
    Calls Tryd.prog 55 #[.slice A0 l0.length c0, .string sep] w fun e w' => e = .returned (.string r) ∧ Below w.heap.size w w' := by
  split at h
  case isFalse => cases h
  rename_i hs
  cases h
  obtain ⟨hl, hm, hcell⟩ := hr
  cases l0 with
  | nil =>
    refine (Tryd.strings_Join_none A0 c0 sep w).mono ?_
    rintro e w' ⟨rfl, rfl⟩
    exact ⟨rfl, Below.refl _ _⟩
  | cons x t =>
    obtain ⟨ad, rfl, hc1⟩ := hcell (by simp)
    have at_ : ∀ (j : Nat) p, (x :: t)[j]? = some p → w.cell? (ad.add j) = some (.string p) := by
      intro j p hj
      obtain ⟨c, h1, h2, h3⟩ := hc1 j p hj
      have h2 : c = [Value.string p] := h2
      have := h3 0 (.string p) (by rw [h2]; rfl)
      simpa [Kd.string, Kd.scalar] using this
    have h0 := at_ 0 x rfl
    have hsp := World.cell?_spot h0
    obtain ⟨bk, o, sp⟩ := ad
    have hsp : sp = none := by simpa [Addr.add] using hsp
    subst hsp
    have hadd : ∀ j, (⟨bk, o, none⟩ : Addr).add j = ⟨bk, o + j, none⟩ := by
      intro j
      unfold Addr.add
      split
      · rename_i q; subst q; rfl
      · rfl
    refine (Tryd.strings_Join bk o c0 (x :: t) sep w (fun j p hj => by rw [← hadd]; exact at_ j p hj) ?_ hs.2 hc ?_).mono ?_
    · rw [hadd] at h0; exact World.block_lt_of_cell? w _ h0
    · have := hs.1
      unfold joinB at this
      simpa [ByteArray.size] using this
    · rintro e w' ⟨rfl, hB⟩
      exact ⟨rfl, hB⟩

/-! numbers of 128 bits -/
theorem st_not24 {a b r1 r2 : Int} {w : World} (hG : GoodW w) (h : (if inQ a b = true then some ((((M128 - 1 - qn a b) / M64 : Nat) : Int), (((M128 - 1 - qn a b) % M64 : Nat) : Int)) else none) = some (r1, r2)) :
    Calls Tryd.prog 24 #[.agg #[.int .u64 a, .int .u64 b]] w fun e w' => e = .returned (.agg #[.int .u64 r1, .int .u64 r2]) ∧ Below w.heap.size w w' := by
  split at h
  case isFalse => cases h
  rename_i hq
  cases h
  have hs : 1 ≤ w.heap.size := Nat.le_trans (by decide) hG.size
  refine own_calls (fn := Tryd.f24) (c := bodyOf Tryd.f24) ((o24 hs).2 w (Later.refl w)) (by decide) hs Tryd.func24 (by kernel_rfl) (by kernel_rfl) (args := encQ (a, b)) (v := quadV (M128 - 1 - qn a b)) (s' := birth [] 64) ?_ rfl rfl (by intro h; cases h)
  unfold conNot Con.flat pureD
  show (match (match decQ (encQ (a, b)) with | some a => (match domQ a with | true => some (quadV (M128 - 1 - qn a.1 a.2)) | false => none) | none => none) with | some v => some (v, birth [] 64) | none => none) = _
  have : domQ (a, b) = true := hq
  simp only [decQ, encQ, this]
theorem st_high50 {n r : Int} {w : World} (hG : GoodW w) (h : some ((highN (clampN n 64) : Nat) : Int) = some r) :
    Calls Tryd.prog 50 #[.int .i64 n] w fun e w' => e = .returned (.int .u64 r) ∧ Below w.heap.size w w' := by
  cases h
  have hs : 1 ≤ w.heap.size := Nat.le_trans (by decide) hG.size
  exact own_calls (fn := Tryd.f50) (c := bodyOf Tryd.f50) ((o50 hs).2 w (Later.refl w)) (by decide) hs Tryd.func50 (by kernel_rfl) (by kernel_rfl) (args := encI n) (v := .int .u64 (highN (clampN n 64) : Nat)) (s' := birth [] 64) rfl rfl rfl (by intro h; cases h)
theorem st_add16 {a b c d r1 r2 : Int} {r3 : Bool} {w : World} (hG : GoodW w)
    (h : (if (inQ a b && inQ c d) = true then some ((((addN (qn a b) (qn c d)) / M64 : Nat) : Int), (((addN (qn a b) (qn c d)) % M64 : Nat) : Int), decide (qn a b + qn c d < M128)) else none) = some (r1, r2, r3)) :
    Calls Tryd.prog 16 #[.agg #[.int .u64 a, .int .u64 b], .agg #[.int .u64 c, .int .u64 d]] w fun e w' => e = .returned (.tuple #[.agg #[.int .u64 r1, .int .u64 r2], .bool r3]) ∧ Below w.heap.size w w' := by
  split at h
  case isFalse => cases h
  rename_i hq
  cases h
  have hs : 1 ≤ w.heap.size := Nat.le_trans (by decide) hG.size
  rw [cdec_eq]
  refine own_calls (fn := Tryd.f16) (c := bodyOf Tryd.f16) ((o16 hs).2 w (Later.refl w)) (by decide) hs Tryd.func16 (by kernel_rfl) (by kernel_rfl) (args := encQQ (a, b, c, d)) (v := .tuple #[quadV (addN (qn a b) (qn c d)), .bool (cdec (qn a b + qn c d < M128))]) (s' := birth [] 64) ?_ rfl rfl (by intro h; cases h)
  unfold conAdd Con.flat pureD
  have : domQQ (a, b, c, d) = true := hq
  simp only [decQQ, encQQ, this]

theorem vc72 (ah al : Int) (Q : Value → Prop) : codeW Tryd.prog (cwC []) (bodyOf Tryd.f72) (inTab (encQ (ah, al)) 8) (birth [] 64) (retW Tryd.prog Tryd.f72 fun v _ => Q v) = (Q (Value.agg #[Value.int IntKind.u64 (IntKind.wrap IntKind.u64 (↑(BitVec.toNat (BitVec.ofInt 64 (if Bool.false = Bool.true then -1 else if Bool.false = Bool.true then 2 ^ (64 - 1) - 1 else 2 ^ 64 - 1) ^^^ BitVec.ofInt 64 ah)) : Int)), Value.int IntKind.u64 (IntKind.wrap IntKind.u64 (↑(BitVec.toNat (BitVec.ofInt 64 (if Bool.false = Bool.true then -1 else if Bool.false = Bool.true then 2 ^ (64 - 1) - 1 else 2 ^ 64 - 1) ^^^ BitVec.ofInt 64 al)) : Int))])) := by kernel_rfl
theorem w72 (a : Int × Int) (h : domQ a = true) : codeW Tryd.prog (cwC []) (bodyOf Tryd.f72) (inTab (encQ a) 8) (birth [] 64) (retW Tryd.prog Tryd.f72 fun v _ => v = quadV (M128 - 1 - qn a.1 a.2)) := by
  obtain ⟨ah, al⟩ := a
  refine (vc72 ah al _).mpr ?_
  have h := domQ_iff.1 h
  rw [maxU, notI_u64 (inU_of h.1), notI_u64 (inU_of h.2)]
  refine quad_of ?_ ?_ <;> (simp only [qn, M64, M128]; omega)
theorem o72 {W : World} (hW : 1 ≤ W.heap.size) : OwnAll Tryd.prog W 1 72 conNot.own :=
  con_flat encQ (Laying.empty hW) hW (by decide) dt_mixed own0 Tryd.func72 (fn := Tryd.f72) (c := bodyOf Tryd.f72) (by kernel_rfl) (by kernel_rfl) (fun _ _ h => decQ_enc h) (fun a => ⟨rfl, rfl, (by kernel_rfl)⟩) w72
theorem st_not72 {a b r1 r2 : Int} {w : World} (hG : GoodW w) (h : (if inQ a b = true then some ((((M128 - 1 - qn a b) / M64 : Nat) : Int), (((M128 - 1 - qn a b) % M64 : Nat) : Int)) else none) = some (r1, r2)) :
    Calls Tryd.prog 72 #[.agg #[.int .u64 a, .int .u64 b]] w fun e w' => e = .returned (.agg #[.int .u64 r1, .int .u64 r2]) ∧ Below w.heap.size w w' := by
  split at h
  case isFalse => cases h
  rename_i hq
  cases h
  have hs : 1 ≤ w.heap.size := Nat.le_trans (by decide) hG.size
  refine own_calls (fn := Tryd.f72) (c := bodyOf Tryd.f72) ((o72 hs).2 w (Later.refl w)) (by decide) hs Tryd.func72 (by kernel_rfl) (by kernel_rfl) (args := encQ (a, b)) (v := quadV (M128 - 1 - qn a b)) (s' := birth [] 64) ?_ rfl rfl (by intro h; cases h)
  unfold conNot Con.flat pureD
  have : domQ (a, b) = true := hq
  simp only [decQ, encQ, this]
theorem wakeP_run' (t0 t2 t5 : TypeId) : isTrue (callD Tryd.prog (mkIntr maskA (extL extsA)) 1000 60 39 [] (birth (heapA t0 t2 t5) 64)) = true := by kernel_rfl
theorem st_awake39 (w : World) (hG : GoodW w) : Calls Tryd.prog 39 #[] w fun e w' => e = .returned (.bool true) ∧ Below w.heap.size w w' := by
  obtain ⟨t0, t2, t5, L⟩ := hG.lay
  have k : OwnOk Tryd.prog w 6 39 doneD := done_ok (fn := Tryd.f39) (c := match Tryd.f39.body with | some c => c | none => .skip) L hG.size (by decide : 6 ≤ 64) dt_mixed okA extsA_tr (fun w h1 h2 => extsA_ok (hG.len.later h1 h2) 6) Tryd.func39 (by kernel_rfl) (by kernel_rfl) (wakeP_run' t0 t2 t5)
  exact own_calls (fn := Tryd.f39) (c := match Tryd.f39.body with | some c => c | none => .skip) k (by decide) hG.size Tryd.func39 (by kernel_rfl) (by kernel_rfl) (s' := birth [] 64) rfl rfl rfl (by intro h; cases h)

end Go.Proofs.YtfnacgojmdbjmaaDoor
