/- Contracts of functions: what they answer by themselves, and the same as a law. -/
import Derived.Test.YtfnacgojmdbjmaaGreatDoorRo10
namespace Go.Det
variable {P : Program}

/-- a contract: an own entry, and the law that a caller sees -/
structure Con where
  own : Own
  w : List Value → St → KV → Prop
  ok : ∀ args s (K : KV), w args s K → ∃ v s', own args s = some (v, s') ∧ K v s' ∧ ∀ K' : KV, K' v s' → w args s K'
  mono : ∀ args s (K K' : KV), (∀ v s, K v s → K' v s) → w args s K → w args s K'

noncomputable def cwC : List (Nat × Con) → Cw
  | [] => fun _ _ _ _ => False
  | x :: t => fun g args s K => match Nat.beq x.1 g with | true => x.2.w args s K | false => cwC t g args s K
noncomputable def extC : List (Nat × Con) → List (Nat × Own)
  | [] => []
  | x :: t => (x.1, x.2.own) :: extC t
theorem extC_mem : ∀ {l : List (Nat × Con)} {x : Nat × Own}, x ∈ extC l → ∃ c, (x.1, c) ∈ l ∧ x.2 = c.own
  | [], x, h => by cases h
  | y :: t, x, h => by
    rcases List.mem_cons.1 h with rfl | h
    · exact ⟨y.2, List.mem_cons_self, rfl⟩
    · obtain ⟨c, h1, h2⟩ := extC_mem h; exact ⟨c, List.mem_cons_of_mem _ h1, h2⟩
theorem cwC_mono : ∀ l, CwMono (cwC l)
  | [] => fun _ _ _ _ _ _ h => h
  | x :: t => fun g args s K K' k h => by
    unfold cwC at h ⊢
    split at h
    · exact x.2.mono args s K K' k h
    · exact cwC_mono t g args s K K' k h
theorem cwC_ok (l : List (Nat × Con)) : CwOk (ownCall (extC l)) (cwC l) := by
  refine ⟨?_, cwC_mono l⟩
  induction l with
  | nil => exact fun _ _ _ _ h => h.elim
  | cons x t ih =>
    intro g args s K h
    unfold cwC at h ⊢
    unfold ownCall extC extL
    split at h
    · rename_i hb
      simp only [hb]
      exact x.2.ok args s K h
    · rename_i hb
      simp only [hb]
      exact ih g args s K h

/-- an answer that hangs on numbers, bools and strings alone -/
noncomputable def Con.flat {α : Type} (dec : List Value → Option α) (dom : α → Bool) (res : α → Value) : Con where
  own := pureD fun args => match dec args with
    | some a => (match dom a with | true => some (res a) | false => none)
    | none => none
  w := fun args s K => match dec args with
    | some a => dom a = true ∧ K (res a) s
    | none => False
  ok := by
    intro args s K h
    unfold pureD
    split at h
    · rename_i a ha
      exact ⟨res a, s, by simp only [ha, h.1], h.2, fun K' k => ⟨h.1, k⟩⟩
    · exact h.elim
  mono := by
    intro args s K K' k h
    split at h
    · exact ⟨h.1, k _ _ h.2⟩
    · exact h.elim

/-- A contract is kept: its body comes to what it says. -/
theorem con_flat {W : World} {G : Nat} {l : List (Nat × Con)} {h : Heap} {f : FuncId} {fn : Func} {c : Code} {α : Type} {dec : List Value → Option α} {dom : α → Bool} {res : α → Value} (enc : α → List Value)
    (L : Laying G W h) (hGW : G ≤ W.heap.size) (hG64 : G ≤ 64)
    (hm : P.follows .mixedOrders = true) (hl : OwnsAll P W G (extC l)) (hf : P.funcs[f]? = some fn) (hb : fn.body = some c) (hok : okFunc G fn = true)
    (hdec : ∀ args a, dec args = some a → args = enc a) (hflat : ∀ a, flat2L (enc a) = true ∧ flat (res a) = true ∧ Nat.ble (enc a).length fn.ntmps = true)
    (hF : ∀ a, dom a = true → codeW P (cwC l) c (inTab (enc a) 8) (birth h 64) (retW P fn fun v' _ => v' = res a)) : OwnAll P W G f (Con.flat dec dom res).own := by
  refine own_flat L hGW hG64 hm hl (cwC_ok l) hf hb hok fun args v hv => ?_
  split at hv
  case h_2 => cases hv
  rename_i a ha
  split at hv
  case h_2 => cases hv
  rename_i hd
  cases hv
  obtain rfl := hdec _ _ ha
  exact ⟨(hflat a).1, (hflat a).2.1, (hflat a).2.2, hF a hd⟩

theorem OwnsAll.con {W : World} {G : Nat} {l : List (Nat × Con)} {f : Nat} {c : Con} (h : OwnAll P W G f c.own) (k : OwnsAll P W G (extC l)) : OwnsAll P W G (extC ((f, c) :: l)) := OwnsAll.cons h k

/-! shapes of arguments -/
noncomputable def decQQ : List Value → Option (Int × Int × Int × Int)
  | [.agg ⟨[.int .u64 a, .int .u64 b]⟩, .agg ⟨[.int .u64 c, .int .u64 d]⟩] => some (a, b, c, d)
  | _ => none
noncomputable def encQQ (x : Int × Int × Int × Int) : List Value := [.agg ⟨[.int .u64 x.1, .int .u64 x.2.1]⟩, .agg ⟨[.int .u64 x.2.2.1, .int .u64 x.2.2.2]⟩]
theorem decQQ_enc {args a} (h : decQQ args = some a) : args = encQQ a := by
  unfold decQQ at h; split at h
  · cases h; rfl
  · cases h
noncomputable def decQ : List Value → Option (Int × Int)
  | [.agg ⟨[.int .u64 a, .int .u64 b]⟩] => some (a, b)
  | _ => none
noncomputable def encQ (x : Int × Int) : List Value := [.agg ⟨[.int .u64 x.1, .int .u64 x.2]⟩]
theorem decQ_enc {args a} (h : decQ args = some a) : args = encQ a := by
  unfold decQ at h; split at h
  · cases h; rfl
  · cases h
noncomputable def decI : List Value → Option Int
  | [.int .i64 a] => some a
  | _ => none
noncomputable def encI (x : Int) : List Value := [.int .i64 x]
theorem decI_enc {args a} (h : decI args = some a) : args = encI a := by
  unfold decI at h; split at h
  · cases h; rfl
  · cases h
noncomputable def decU3 : List Value → Option (Int × Int × Int)
  | [.int .u64 a, .int .u64 b, .int .u64 c] => some (a, b, c)
  | _ => none
noncomputable def encU3 (x : Int × Int × Int) : List Value := [.int .u64 x.1, .int .u64 x.2.1, .int .u64 x.2.2]
theorem decU3_enc {args a} (h : decU3 args = some a) : args = encU3 a := by
  unfold decU3 at h; split at h
  · cases h; rfl
  · cases h
noncomputable def decU : List Value → Option Int
  | [.int .u64 a] => some a
  | _ => none
noncomputable def encU (x : Int) : List Value := [.int .u64 x]
theorem decU_enc {args a} (h : decU args = some a) : args = encU a := by
  unfold decU at h; split at h
  · cases h; rfl
  · cases h

end Go.Det
