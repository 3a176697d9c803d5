/- The contracts of the numbers of 128 bits. -/
import Derived.Test.YtfnacgojmdbjmaaGreatDoorRo12
namespace Go.Det

noncomputable def con48 : Con where
  own := pureD addH
  w := fun args s K => match args with
    | [.int .u64 x, .int .u64 y, .int .u64 c] => Nat.ble c.toNat 1 = true ∧ K (.tuple #[.int .u64 (((x.toNat + y.toNat + c.toNat) % 18446744073709551616 : Nat) : Int), .int .u64 (((x.toNat + y.toNat + c.toNat) / 18446744073709551616 : Nat) : Int)]) s
    | _ => False
  ok := by
    intro args s K h
    split at h
    · obtain ⟨h1, h2⟩ := h
      exact ⟨_, _, by simp only [pureD, addH, h1], h2, fun K' k => ⟨h1, k⟩⟩
    · exact h.elim
  mono := by
    intro args s K K' k h
    split at h
    · exact ⟨h.1, k _ _ h.2⟩
    · exact h.elim
def borrowN (x y c : Int) : Nat := match Nat.ble (y.toNat + c.toNat) x.toNat with | true => 0 | false => 1
noncomputable def con49 : Con where
  own := pureD subH
  w := fun args s K => match args with
    | [.int .u64 x, .int .u64 y, .int .u64 c] => Nat.ble c.toNat 1 = true ∧ K (.tuple #[.int .u64 (((x.toNat + 18446744073709551616 - y.toNat - c.toNat) % 18446744073709551616 : Nat) : Int), .int .u64 (borrowN x y c : Nat)]) s
    | _ => False
  ok := by
    intro args s K h
    split at h
    · obtain ⟨h1, h2⟩ := h
      refine ⟨_, _, ?_, h2, fun K' k => ⟨h1, k⟩⟩
      simp only [pureD, subH, h1, borrowN]
      rfl
    · exact h.elim
  mono := by
    intro args s K K' k h
    split at h
    · exact ⟨h.1, k _ _ h.2⟩
    · exact h.elim

def domQQ (x : Int × Int × Int × Int) : Bool := inQ x.1 x.2.1 && inQ x.2.2.1 x.2.2.2
def domQ (x : Int × Int) : Bool := inQ x.1 x.2
noncomputable def conLess : Con := Con.flat decQQ domQQ fun x => .bool (cdec (qn x.1 x.2.1 < qn x.2.2.1 x.2.2.2))
noncomputable def conAnd : Con := Con.flat decQQ domQQ fun x => quadV (qn x.1 x.2.1 &&& qn x.2.2.1 x.2.2.2)
noncomputable def conOr : Con := Con.flat decQQ domQQ fun x => quadV (qn x.1 x.2.1 ||| qn x.2.2.1 x.2.2.2)
noncomputable def conNot : Con := Con.flat decQ domQ fun x => quadV (M128 - 1 - qn x.1 x.2)
/-- a number between lo and hi -/
def clampN (n : Int) (hi : Nat) : Nat := min n.toNat hi
def highN (n : Nat) : Nat := M64 - 2 ^ (64 - n)
def maskN (n : Nat) : Nat := M128 - 2 ^ (128 - n)
noncomputable def conHigh : Con := Con.flat decI (fun _ => true) fun n => .int .u64 (highN (clampN n 64) : Nat)
def domMask (n : Int) : Bool := decide (-1000 ≤ n ∧ n ≤ 1000)
noncomputable def conMask : Con := Con.flat decI domMask fun n => quadV (maskN (clampN n 128))
def bitN (n : Int) : Nat := if 0 ≤ n ∧ n ≤ 127 then 2 ^ n.toNat else 0
noncomputable def conBit : Con := Con.flat decI (fun _ => true) fun n => quadV (bitN n)
def addN (a b : Nat) : Nat := if a + b < M128 then a + b else 0
noncomputable def conAdd : Con := Con.flat decQQ domQQ fun x => .tuple #[quadV (addN (qn x.1 x.2.1) (qn x.2.2.1 x.2.2.2)), .bool (cdec (qn x.1 x.2.1 + qn x.2.2.1 x.2.2.2 < M128))]
def subN (a b : Nat) : Nat := if a < b then 0 else a - b
noncomputable def conSub : Con := Con.flat decQQ domQQ fun x => .tuple #[quadV (subN (qn x.1 x.2.1) (qn x.2.2.1 x.2.2.2)), .bool (cdec (qn x.2.2.1 x.2.2.2 ≤ qn x.1 x.2.1))]

/-- what is waked: answered true, once for all -/
noncomputable def conDone : Con where
  own := doneD
  w := fun args s K => match args with
    | [] => K (.bool true) s
    | _ => False
  ok := by
    intro args s K h
    split at h
    · exact ⟨_, _, rfl, h, fun K' k => k⟩
    · exact h.elim
  mono := by
    intro args s K K' k h
    split at h
    · exact k _ _ h
    · exact h.elim

/-- the lowest bit that is set; 128: none is -/
def lowN (n : Nat) : Nat := if n = 0 then 128 else (List.range 128).findIdx fun i => n.testBit i
/-- the masks, and behind them the bits -/
def edgeN (i : Nat) : Nat := if i ≤ 128 then maskN i else 2 ^ (i - 129)
noncomputable def domLow (x : Int × Int) : Bool := cdec (inQ x.1 x.2 = true ∧ ∃ i, i < 257 ∧ qn x.1 x.2 = edgeN i)
noncomputable def conLow : Con := Con.flat decQ domLow fun x => .int .i64 (lowN (qn x.1 x.2) : Nat)

end Go.Det
