/- Functions without loops, told as plain functions, and the contracts of these and of the printed ones. No conditions. -/
import Derived.Test.YtfnacgojmdbjmaaGreatDoorRo22
namespace Go.Proofs.YtfnacgojmdbjmaaGreatDoor.PRD
open Go.RowKit Go.Proofs.YtfnacgojmdbjmaaGreatDoorW.PrintWords Go.Proofs.YtfnacgojmdbjmaaGreatDoorW.PrintLast Go.Proofs.YtfnacgojmdbjmaaGreatDoorW.PrintMore
open Go.Det (inQ M64 M128 qn addN highN clampN)
def gleberef1_Has.f (a0_0 : Int) (a0_1 : Int) (a0_2 : Int) (a0_3 : Int) (a1_0 : Int) (a1_1 : Int) (a1_2 : Int) : Option (Bool) := (gleberef1_OkPrefix.f a0_0 a0_1 a0_2 a0_3).bind fun t103 => (if t103 = true then ((gleberef1_Ok.f a1_0 a1_1 a1_2).bind fun t104 => (if t104 = true then (if a1_0 = a0_0 then ((gleberef1_all.f a1_0 a0_3).bind fun bt105 => ((gleberef1_And.f a1_1 a1_2 bt105.1 bt105.2).bind fun bt107 => (some (bt107.1 == a0_1 && (bt107.2 == a0_2))))) else (some false)) else (some false))) else (some false))
def glebelaw4_Rang.f (a0 : Int) (a1 : Int) (a2 : Int) (a3 : Int) : Option (Int × Int × Int × Int × Int × Int) := (glebelaw2_Addr.f 300 a0 a1 a2).bind fun bt144 => ((gleberef1_Add.f bt144.2.1 bt144.2.2 0 (Go.Det.shrI .u64 a3 (IntKind.u64.wrap (Go.Det.andI .i64 (Go.Det.shrI .i64 a0 9) 63)))).bind fun bt149 => (if bt149.2.2 = true then ((gleberef1_Ok.f bt144.1 bt149.1 bt149.2.1).bind fun t153 => (if t153 = true then (some (bt144.1, bt144.2.1, bt144.2.2, bt144.1, bt149.1, bt149.2.1)) else (some (bt144.1, bt144.2.1, bt144.2.2, bt144.1, bt144.2.1, bt144.2.2)))) else (some (bt144.1, bt144.2.1, bt144.2.2, bt144.1, bt144.2.1, bt144.2.2))))
def gleberef1_Less.f (a0_0 : Int) (a0_1 : Int) (a1_0 : Int) (a1_1 : Int) : Option (Bool) := if a0_0 < a1_0 then (some true) else (if a0_0 = a1_0 then (some (decide (a0_1 < a1_1))) else (some false))
def glebelaw4_RangOver_S1.f (a0_0 : Int) (a0_1 : Int) (a0_2 : Int) (a0_3 : Int) (a0_4 : Int) (a0_5 : Int) (a1_0 : Int) (a1_1 : Int) (a1_2 : Int) : Option (Bool) := if a0_0 = a1_0 then ((gleberef1_Less.f a1_1 a1_2 a0_1 a0_2).bind fun t1 => (if t1 = true then (some false) else ((gleberef1_Less.f a0_4 a0_5 a1_1 a1_2).bind fun t2 => (some (!t2))))) else (some false)
def rang_Over.f (a0_0 : Int) (a0_1 : Int) (a0_2 : Int) (a0_3 : Int) (a0_4 : Int) (a0_5 : Int) (a1_0 : Int) (a1_1 : Int) (a1_2 : Int) (a1_3 : Int) (a1_4 : Int) (a1_5 : Int) : Option (Bool) := (rang_Ok.f a0_0 a0_1 a0_2 a0_3 a0_4 a0_5).bind fun t156 => (if t156 = true then ((rang_Ok.f a1_0 a1_1 a1_2 a1_3 a1_4 a1_5).bind fun t157 => (if t157 = true then (if a0_0 = a1_0 then ((addr_Less.f a0_3 a0_4 a0_5 a1_0 a1_1 a1_2).bind fun t158 => (if t158 = true then (some false) else ((addr_Less.f a1_3 a1_4 a1_5 a0_0 a0_1 a0_2).bind fun t159 => (some (!t159))))) else (some false)) else (some false))) else (some false))
def pref_Has.f (a0_0 : Int) (a0_1 : Int) (a0_2 : Int) (a0_3 : Int) (a1_0 : Int) (a1_1 : Int) (a1_2 : Int) : Option (Bool) := (pref_Ok.f a0_0 a0_1 a0_2 a0_3).bind fun t162 => (if t162 = true then ((addr_Ok.f a1_0 a1_1 a1_2).bind fun t163 => (if t163 = true then (if a1_0 = a0_0 then ((pref_mask.f a0_0 a0_3).bind fun bt164 => ((quad_And.f a1_1 a1_2 bt164.1 bt164.2).bind fun bt166 => (some (bt166.1 == a0_1 && (bt166.2 == a0_2))))) else (some false)) else (some false))) else (some false))
def rang_In.f (a0_0 : Int) (a0_1 : Int) (a0_2 : Int) (a0_3 : Int) (a0_4 : Int) (a0_5 : Int) (a1_0 : Int) (a1_1 : Int) (a1_2 : Int) (a1_3 : Int) : Option (Bool) := (rang_Ok.f a0_0 a0_1 a0_2 a0_3 a0_4 a0_5).bind fun t170 => (if t170 = true then ((pref_Has.f a1_0 a1_1 a1_2 a1_3 a0_0 a0_1 a0_2).bind fun t171 => (if t171 = true then ((pref_Has.f a1_0 a1_1 a1_2 a1_3 a0_3 a0_4 a0_5).bind fun t172 => (some t172)) else (some false))) else (some false))
def rang_Less.f (a0_0 : Int) (a0_1 : Int) (a0_2 : Int) (a0_3 : Int) (a0_4 : Int) (a0_5 : Int) (a1_0 : Int) (a1_1 : Int) (a1_2 : Int) (a1_3 : Int) (a1_4 : Int) (a1_5 : Int) : Option (Bool) := (rang_Ok.f a0_0 a0_1 a0_2 a0_3 a0_4 a0_5).bind fun t175 => (if t175 = true then ((rang_Ok.f a1_0 a1_1 a1_2 a1_3 a1_4 a1_5).bind fun t176 => (if t176 = true then ((addr_Less.f a0_0 a0_1 a0_2 a1_0 a1_1 a1_2).bind fun t179 => (if t179 = true then (some true) else (if (a0_0 == a1_0 && ((a0_1 == a1_1 && (a0_2 == a1_2)))) = true then ((addr_Less.f a0_3 a0_4 a0_5 a1_3 a1_4 a1_5).bind fun t180 => (some t180)) else (some false)))) else (some false))) else (some false))
end Go.Proofs.YtfnacgojmdbjmaaGreatDoor.PRD
namespace Go.Proofs.YtfnacgojmdbjmaaGreatDoor
open Go.Det Go.RowKit Go.Proofs.YtfnacgojmdbjmaaGreatDoor.PRD Go.Proofs.YtfnacgojmdbjmaaGreatDoorW.PrintWords
set_option maxRecDepth 100000

noncomputable def dec27 : List Value → Option (Int × Int × Int × Int × Int × Int × Int)
  | [.agg ⟨[.int .i64 a, .int .u64 b, .int .u64 c, .int .i64 d]⟩, .agg ⟨[.int .i64 e, .int .u64 f, .int .u64 g]⟩] => some (a, b, c, d, e, f, g)
  | _ => none
noncomputable def enc27 (x : Int × Int × Int × Int × Int × Int × Int) : List Value := [.agg #[.int .i64 x.1, .int .u64 x.2.1, .int .u64 x.2.2.1, .int .i64 x.2.2.2.1], .agg #[.int .i64 x.2.2.2.2.1, .int .u64 x.2.2.2.2.2.1, .int .u64 x.2.2.2.2.2.2]]
theorem dec27_enc {args : List Value} {a : Int × Int × Int × Int × Int × Int × Int} (h : dec27 args = some a) : args = enc27 a := by
  unfold dec27 at h
  split at h
  case h_2 => cases h
  cases h; rfl
noncomputable def enr27 (y : Bool) : Value := .bool y
noncomputable def con27 : Con := Con.opt dec27 (fun x => gleberef1_Has.f x.1 x.2.1 x.2.2.1 x.2.2.2.1 x.2.2.2.2.1 x.2.2.2.2.2.1 x.2.2.2.2.2.2) enr27
noncomputable def L27 : List (Nat × Con) := [(16, con16), (44, con44), (65, con65), (55, con55)]
noncomputable def dec36 : List Value → Option (Int × Int × Int × Int)
  | [.int .i64 a, .int .u64 b, .int .u64 c, .int .u64 d] => some (a, b, c, d)
  | _ => none
noncomputable def enc36 (x : Int × Int × Int × Int) : List Value := [.int .i64 x.1, .int .u64 x.2.1, .int .u64 x.2.2.1, .int .u64 x.2.2.2]
theorem dec36_enc {args : List Value} {a : Int × Int × Int × Int} (h : dec36 args = some a) : args = enc36 a := by
  unfold dec36 at h
  split at h
  case h_2 => cases h
  cases h; rfl
noncomputable def enr36 (y : Int × Int × Int × Int × Int × Int) : Value := .agg #[.int .i64 y.1, .int .u64 y.2.1, .int .u64 y.2.2.1, .int .i64 y.2.2.2.1, .int .u64 y.2.2.2.2.1, .int .u64 y.2.2.2.2.2]
noncomputable def con36 : Con := Con.opt dec36 (fun x => glebelaw4_Rang.f x.1 x.2.1 x.2.2.1 x.2.2.2) enr36
noncomputable def L36 : List (Nat × Con) := [(42, con42), (43, con43), (44, con44)]
noncomputable def dec38 : List Value → Option (Int × Int × Int × Int)
  | [.agg ⟨[.int .u64 a, .int .u64 b]⟩, .agg ⟨[.int .u64 c, .int .u64 d]⟩] => some (a, b, c, d)
  | _ => none
noncomputable def enc38 (x : Int × Int × Int × Int) : List Value := [.agg #[.int .u64 x.1, .int .u64 x.2.1], .agg #[.int .u64 x.2.2.1, .int .u64 x.2.2.2]]
theorem dec38_enc {args : List Value} {a : Int × Int × Int × Int} (h : dec38 args = some a) : args = enc38 a := by
  unfold dec38 at h
  split at h
  case h_2 => cases h
  cases h; rfl
noncomputable def enr38 (y : Bool) : Value := .bool y
noncomputable def con38 : Con := Con.opt dec38 (fun x => gleberef1_Less.f x.1 x.2.1 x.2.2.1 x.2.2.2) enr38
noncomputable def L38 : List (Nat × Con) := []
noncomputable def dec37 : List Value → Option (Int × Int × Int × Int × Int × Int × Int × Int × Int)
  | [.agg ⟨[.int .i64 a, .int .u64 b, .int .u64 c, .int .i64 d, .int .u64 e, .int .u64 f]⟩, .agg ⟨[.int .i64 g, .int .u64 h, .int .u64 i]⟩] => some (a, b, c, d, e, f, g, h, i)
  | _ => none
noncomputable def enc37 (x : Int × Int × Int × Int × Int × Int × Int × Int × Int) : List Value := [.agg #[.int .i64 x.1, .int .u64 x.2.1, .int .u64 x.2.2.1, .int .i64 x.2.2.2.1, .int .u64 x.2.2.2.2.1, .int .u64 x.2.2.2.2.2.1], .agg #[.int .i64 x.2.2.2.2.2.2.1, .int .u64 x.2.2.2.2.2.2.2.1, .int .u64 x.2.2.2.2.2.2.2.2]]
theorem dec37_enc {args : List Value} {a : Int × Int × Int × Int × Int × Int × Int × Int × Int} (h : dec37 args = some a) : args = enc37 a := by
  unfold dec37 at h
  split at h
  case h_2 => cases h
  cases h; rfl
noncomputable def enr37 (y : Bool) : Value := .bool y
noncomputable def con37 : Con := Con.opt dec37 (fun x => glebelaw4_RangOver_S1.f x.1 x.2.1 x.2.2.1 x.2.2.2.1 x.2.2.2.2.1 x.2.2.2.2.2.1 x.2.2.2.2.2.2.1 x.2.2.2.2.2.2.2.1 x.2.2.2.2.2.2.2.2) enr37
noncomputable def L37 : List (Nat × Con) := [(38, con38)]
noncomputable def dec39 : List Value → Option (Int × Int × Int × Int × Int × Int × Int × Int × Int × Int × Int × Int)
  | [.agg ⟨[.int .i64 a, .int .u64 b, .int .u64 c, .int .i64 d, .int .u64 e, .int .u64 f]⟩, .agg ⟨[.int .i64 g, .int .u64 h, .int .u64 i, .int .i64 j, .int .u64 k, .int .u64 l]⟩] => some (a, b, c, d, e, f, g, h, i, j, k, l)
  | _ => none
noncomputable def enc39 (x : Int × Int × Int × Int × Int × Int × Int × Int × Int × Int × Int × Int) : List Value := [.agg #[.int .i64 x.1, .int .u64 x.2.1, .int .u64 x.2.2.1, .int .i64 x.2.2.2.1, .int .u64 x.2.2.2.2.1, .int .u64 x.2.2.2.2.2.1], .agg #[.int .i64 x.2.2.2.2.2.2.1, .int .u64 x.2.2.2.2.2.2.2.1, .int .u64 x.2.2.2.2.2.2.2.2.1, .int .i64 x.2.2.2.2.2.2.2.2.2.1, .int .u64 x.2.2.2.2.2.2.2.2.2.2.1, .int .u64 x.2.2.2.2.2.2.2.2.2.2.2]]
theorem dec39_enc {args : List Value} {a : Int × Int × Int × Int × Int × Int × Int × Int × Int × Int × Int × Int} (h : dec39 args = some a) : args = enc39 a := by
  unfold dec39 at h
  split at h
  case h_2 => cases h
  cases h; rfl
noncomputable def enr39 (y : Bool) : Value := .bool y
noncomputable def con39 : Con := Con.opt dec39 (fun x => rang_Over.f x.1 x.2.1 x.2.2.1 x.2.2.2.1 x.2.2.2.2.1 x.2.2.2.2.2.1 x.2.2.2.2.2.2.1 x.2.2.2.2.2.2.2.1 x.2.2.2.2.2.2.2.2.1 x.2.2.2.2.2.2.2.2.2.1 x.2.2.2.2.2.2.2.2.2.2.1 x.2.2.2.2.2.2.2.2.2.2.2) enr39
noncomputable def L39 : List (Nat × Con) := [(48, con48), (75, con75)]
noncomputable def dec26 : List Value → Option (Int × Int × Int × Int × Int × Int × Int)
  | [.agg ⟨[.int .i64 a, .int .u64 b, .int .u64 c, .int .i64 d]⟩, .agg ⟨[.int .i64 e, .int .u64 f, .int .u64 g]⟩] => some (a, b, c, d, e, f, g)
  | _ => none
noncomputable def enc26 (x : Int × Int × Int × Int × Int × Int × Int) : List Value := [.agg #[.int .i64 x.1, .int .u64 x.2.1, .int .u64 x.2.2.1, .int .i64 x.2.2.2.1], .agg #[.int .i64 x.2.2.2.2.1, .int .u64 x.2.2.2.2.2.1, .int .u64 x.2.2.2.2.2.2]]
theorem dec26_enc {args : List Value} {a : Int × Int × Int × Int × Int × Int × Int} (h : dec26 args = some a) : args = enc26 a := by
  unfold dec26 at h
  split at h
  case h_2 => cases h
  cases h; rfl
noncomputable def enr26 (y : Bool) : Value := .bool y
noncomputable def con26 : Con := Con.opt dec26 (fun x => pref_Has.f x.1 x.2.1 x.2.2.1 x.2.2.2.1 x.2.2.2.2.1 x.2.2.2.2.2.1 x.2.2.2.2.2.2) enr26
noncomputable def L26 : List (Nat × Con) := [(22, con22), (68, con68), (67, con67), (66, con66)]
noncomputable def dec40 : List Value → Option (Int × Int × Int × Int × Int × Int × Int × Int × Int × Int)
  | [.agg ⟨[.int .i64 a, .int .u64 b, .int .u64 c, .int .i64 d, .int .u64 e, .int .u64 f]⟩, .agg ⟨[.int .i64 g, .int .u64 h, .int .u64 i, .int .i64 j]⟩] => some (a, b, c, d, e, f, g, h, i, j)
  | _ => none
noncomputable def enc40 (x : Int × Int × Int × Int × Int × Int × Int × Int × Int × Int) : List Value := [.agg #[.int .i64 x.1, .int .u64 x.2.1, .int .u64 x.2.2.1, .int .i64 x.2.2.2.1, .int .u64 x.2.2.2.2.1, .int .u64 x.2.2.2.2.2.1], .agg #[.int .i64 x.2.2.2.2.2.2.1, .int .u64 x.2.2.2.2.2.2.2.1, .int .u64 x.2.2.2.2.2.2.2.2.1, .int .i64 x.2.2.2.2.2.2.2.2.2]]
theorem dec40_enc {args : List Value} {a : Int × Int × Int × Int × Int × Int × Int × Int × Int × Int} (h : dec40 args = some a) : args = enc40 a := by
  unfold dec40 at h
  split at h
  case h_2 => cases h
  cases h; rfl
noncomputable def enr40 (y : Bool) : Value := .bool y
noncomputable def con40 : Con := Con.opt dec40 (fun x => rang_In.f x.1 x.2.1 x.2.2.1 x.2.2.2.1 x.2.2.2.2.1 x.2.2.2.2.2.1 x.2.2.2.2.2.2.1 x.2.2.2.2.2.2.2.1 x.2.2.2.2.2.2.2.2.1 x.2.2.2.2.2.2.2.2.2) enr40
noncomputable def L40 : List (Nat × Con) := [(48, con48), (26, con26)]
noncomputable def dec41 : List Value → Option (Int × Int × Int × Int × Int × Int × Int × Int × Int × Int × Int × Int)
  | [.agg ⟨[.int .i64 a, .int .u64 b, .int .u64 c, .int .i64 d, .int .u64 e, .int .u64 f]⟩, .agg ⟨[.int .i64 g, .int .u64 h, .int .u64 i, .int .i64 j, .int .u64 k, .int .u64 l]⟩] => some (a, b, c, d, e, f, g, h, i, j, k, l)
  | _ => none
noncomputable def enc41 (x : Int × Int × Int × Int × Int × Int × Int × Int × Int × Int × Int × Int) : List Value := [.agg #[.int .i64 x.1, .int .u64 x.2.1, .int .u64 x.2.2.1, .int .i64 x.2.2.2.1, .int .u64 x.2.2.2.2.1, .int .u64 x.2.2.2.2.2.1], .agg #[.int .i64 x.2.2.2.2.2.2.1, .int .u64 x.2.2.2.2.2.2.2.1, .int .u64 x.2.2.2.2.2.2.2.2.1, .int .i64 x.2.2.2.2.2.2.2.2.2.1, .int .u64 x.2.2.2.2.2.2.2.2.2.2.1, .int .u64 x.2.2.2.2.2.2.2.2.2.2.2]]
theorem dec41_enc {args : List Value} {a : Int × Int × Int × Int × Int × Int × Int × Int × Int × Int × Int × Int} (h : dec41 args = some a) : args = enc41 a := by
  unfold dec41 at h
  split at h
  case h_2 => cases h
  cases h; rfl
noncomputable def enr41 (y : Bool) : Value := .bool y
noncomputable def con41 : Con := Con.opt dec41 (fun x => rang_Less.f x.1 x.2.1 x.2.2.1 x.2.2.2.1 x.2.2.2.2.1 x.2.2.2.2.2.1 x.2.2.2.2.2.2.1 x.2.2.2.2.2.2.2.1 x.2.2.2.2.2.2.2.2.1 x.2.2.2.2.2.2.2.2.2.1 x.2.2.2.2.2.2.2.2.2.2.1 x.2.2.2.2.2.2.2.2.2.2.2) enr41
noncomputable def L41 : List (Nat × Con) := [(48, con48), (75, con75)]

end Go.Proofs.YtfnacgojmdbjmaaGreatDoor
