/- Functions without loops, told as plain functions, and the contracts of these and of the printed ones. No conditions. -/
import Derived.Test.YtfnacgojmdbjmaaGreatDoorRo19
import Derived.Test.YtfnacgojmdbjmaaGreatDoorRo15
import Derived.Test.YtfnacgojmdbjmaaGreatDoorRo18
namespace Go.Proofs.YtfnacgojmdbjmaaGreatDoor.PRD
open Go.RowKit Go.Proofs.YtfnacgojmdbjmaaGreatDoorW.PrintWords Go.Proofs.YtfnacgojmdbjmaaGreatDoorW.PrintLast Go.Proofs.YtfnacgojmdbjmaaGreatDoorW.PrintMore
open Go.Det (inQ M64 M128 qn addN highN clampN)
def gleberef1_Bits.f (a0 : Int) : Option (Int) := if a0 = 4 then (some 32) else (if a0 = 6 then (some 128) else (some 0))
def gleberef1_And.f (a0_0 : Int) (a0_1 : Int) (a1_0 : Int) (a1_1 : Int) : Option (Int × Int) := some (Go.bits .and .u64 a0_0 a1_0, Go.bits .and .u64 a0_1 a1_1)
def gleberef1_Not.f (a0_0 : Int) (a0_1 : Int) : Option (Int × Int) := some (Go.bits .xor .u64 18446744073709551615 a0_0, Go.bits .xor .u64 18446744073709551615 a0_1)
def gleberef1_all.f (a0 : Int) (a1 : Int) : Option (Int × Int) := (gleberef1_Bits.f a0).bind fun t131 => ((gleberef1_Mask.f 300 (wrap64 ((wrap64 (128 - t131)) + a1))).bind fun bt132 => ((gleberef1_Bits.f a0).bind fun t134 => ((gleberef1_Mask.f 300 (wrap64 (128 - t134))).bind fun bt135 => ((gleberef1_Not.f bt135.1 bt135.2).bind fun bt137 => ((gleberef1_And.f bt132.1 bt132.2 bt137.1 bt137.2).bind fun bt139 => (some (bt139.1, bt139.2)))))))
def gleberef1_Ok.f (a0_0 : Int) (a0_1 : Int) (a0_2 : Int) : Option (Bool) := if a0_0 = 6 then (some true) else (if a0_0 = 4 then (if a0_1 = 0 then (some (decide (a0_2 < 4294967296))) else (some false)) else (some false))
def gleberef1_OkPrefix.f (a0_0 : Int) (a0_1 : Int) (a0_2 : Int) (a0_3 : Int) : Option (Bool) := (gleberef1_Ok.f a0_0 a0_1 a0_2).bind fun t142 => (if t142 = true then (if a0_3 ≥ 0 then ((gleberef1_Bits.f a0_0).bind fun t143 => (if a0_3 ≤ t143 then ((gleberef1_all.f a0_0 a0_3).bind fun bt144 => ((gleberef1_And.f a0_1 a0_2 bt144.1 bt144.2).bind fun bt146 => (some (bt146.1 == a0_1 && (bt146.2 == a0_2))))) else (some false))) else (some false)) else (some false))
def gleberef1_Last.f (a0_0 : Int) (a0_1 : Int) (a0_2 : Int) (a0_3 : Int) : Option (Int × Int × Int) := (gleberef1_OkPrefix.f a0_0 a0_1 a0_2 a0_3).bind fun t150 => (if t150 = true then ((gleberef1_all.f a0_0 a0_3).bind fun bt151 => ((gleberef1_Not.f bt151.1 bt151.2).bind fun bt153 => ((gleberef1_Bits.f a0_0).bind fun t155 => ((gleberef1_Mask.f 300 (wrap64 (128 - t155))).bind fun bt156 => ((gleberef1_Not.f bt156.1 bt156.2).bind fun bt158 => ((gleberef1_And.f bt153.1 bt153.2 bt158.1 bt158.2).bind fun bt160 => (some (a0_0, Go.bits .or .u64 a0_1 bt160.1, Go.bits .or .u64 a0_2 bt160.2)))))))) else (some (0, 0, 0)))
def gleberef1_Add.f (a0_0 : Int) (a0_1 : Int) (a1_0 : Int) (a1_1 : Int) : Option (Int × Int × Bool) := if (IntKind.u64.wrap (a0_1 + a1_1)) < a0_1 then (if (IntKind.u64.wrap (a0_0 + a1_0)) < a0_0 then (some (0, 0, false)) else (if (IntKind.u64.wrap ((IntKind.u64.wrap (a0_0 + a1_0)) + 1)) < (IntKind.u64.wrap (a0_0 + a1_0)) then (some (0, 0, false)) else (some (IntKind.u64.wrap ((IntKind.u64.wrap (a0_0 + a1_0)) + 1), IntKind.u64.wrap (a0_1 + a1_1), true)))) else (if (IntKind.u64.wrap (a0_0 + a1_0)) < a0_0 then (some (0, 0, false)) else (if (IntKind.u64.wrap ((IntKind.u64.wrap (a0_0 + a1_0)) + 0)) < (IntKind.u64.wrap (a0_0 + a1_0)) then (some (0, 0, false)) else (some (IntKind.u64.wrap ((IntKind.u64.wrap (a0_0 + a1_0)) + 0), IntKind.u64.wrap (a0_1 + a1_1), true))))
def glebelaw3_Pre.f (a0 : Int) (a1 : Int) (a2 : Int) (a3 : Int) : Option (Int × Int × Int × Int) := (glebelaw2_Addr.f 300 a0 a1 a2).bind fun bt111 => ((gleberef1_Bits.f bt111.1).bind fun t115 => (if (wrap64 (t115 + 1)) = 0 then (none) else ((gleberef1_Bits.f bt111.1).bind fun t116 => ((gleberef1_Mask.f 300 (wrap64 ((wrap64 (128 - t116)) + (Int.tmod (Go.bits .and .i64 a3 255) (wrap64 (t115 + 1)))))).bind fun bt117 => ((gleberef1_Bits.f bt111.1).bind fun t119 => ((gleberef1_Mask.f 300 (wrap64 (128 - t119))).bind fun bt120 => ((gleberef1_Not.f bt120.1 bt120.2).bind fun bt122 => ((gleberef1_And.f bt117.1 bt117.2 bt122.1 bt122.2).bind fun bt124 => ((gleberef1_And.f bt111.2.1 bt111.2.2 bt124.1 bt124.2).bind fun bt127 => (some (bt111.1, bt127.1, bt127.2, Int.tmod (Go.bits .and .i64 a3 255) (wrap64 (t115 + 1)))))))))))))
def quad_And.f (a0_0 : Int) (a0_1 : Int) (a1_0 : Int) (a1_1 : Int) : Option (Int × Int) := some (Go.bits .and .u64 a0_0 a1_0, Go.bits .and .u64 a0_1 a1_1)
def quad_Or.f (a0_0 : Int) (a0_1 : Int) (a1_0 : Int) (a1_1 : Int) : Option (Int × Int) := some (Go.bits .or .u64 a0_0 a1_0, Go.bits .or .u64 a0_1 a1_1)
def quad_Not.f (a0_0 : Int) (a0_1 : Int) : Option (Int × Int) := some (Go.bits .xor .u64 18446744073709551615 a0_0, Go.bits .xor .u64 18446744073709551615 a0_1)
def addr_Bits.f (a0 : Int) : Option (Int) := if a0 = 4 then (some 32) else (if a0 = 6 then (some 128) else (some 0))
def quad_Mask.f (a0 : Int) : Option (Int × Int) := (quad_high.f a0).bind fun t167 => ((quad_high.f (wrap64 ((mn a0 128) - 64))).bind fun t168 => (some (t167, t168)))
def pref_mask.f (a0 : Int) (a1 : Int) : Option (Int × Int) := (addr_Bits.f a0).bind fun t170 => ((quad_Mask.f (wrap64 ((wrap64 (128 - t170)) + a1))).bind fun bt171 => (some (bt171.1, bt171.2)))
def addr_Ok.f (a0_0 : Int) (a0_1 : Int) (a0_2 : Int) : Option (Bool) := if a0_0 = 6 then (some true) else (if a0_0 = 4 then (if a0_1 = 0 then (some (decide (a0_2 < 4294967296))) else (some false)) else (some false))
def pref_Ok.f (a0_0 : Int) (a0_1 : Int) (a0_2 : Int) (a0_3 : Int) : Option (Bool) := (addr_Ok.f a0_0 a0_1 a0_2).bind fun t177 => (if t177 = true then (if a0_3 < 0 then (some false) else ((addr_Bits.f a0_0).bind fun t178 => (if a0_3 > t178 then (some false) else ((pref_mask.f a0_0 a0_3).bind fun bt179 => ((quad_Not.f bt179.1 bt179.2).bind fun bt181 => ((quad_And.f a0_1 a0_2 bt181.1 bt181.2).bind fun bt183 => (some (bt183.1 == 0 && (bt183.2 == 0))))))))) else (some false))
def pref_Last.f (a0_0 : Int) (a0_1 : Int) (a0_2 : Int) (a0_3 : Int) : Option (Int × Int × Int) := (pref_Ok.f a0_0 a0_1 a0_2 a0_3).bind fun t190 => (if t190 = true then ((addr_Bits.f a0_0).bind fun t191 => ((quad_Mask.f (wrap64 (128 - t191))).bind fun bt192 => ((pref_mask.f a0_0 a0_3).bind fun bt195 => ((quad_Not.f bt195.1 bt195.2).bind fun bt197 => ((quad_Not.f bt192.1 bt192.2).bind fun bt199 => ((quad_And.f bt197.1 bt197.2 bt199.1 bt199.2).bind fun bt201 => ((quad_Or.f a0_1 a0_2 bt201.1 bt201.2).bind fun bt203 => (some (a0_0, bt203.1, bt203.2))))))))) else (some (0, 0, 0)))
def quad_Less.f (a0_0 : Int) (a0_1 : Int) (a1_0 : Int) (a1_1 : Int) : Option (Bool) := if a0_0 < a1_0 then (some true) else (if a0_0 = a1_0 then (some (decide (a0_1 < a1_1))) else (some false))
def addr_Less.f (a0_0 : Int) (a0_1 : Int) (a0_2 : Int) (a1_0 : Int) (a1_1 : Int) (a1_2 : Int) : Option (Bool) := if a0_0 < a1_0 then (some true) else (if a0_0 = a1_0 then ((quad_Less.f a0_1 a0_2 a1_1 a1_2).bind fun t209 => (some t209)) else (some false))
def rang_Ok.f (a0_0 : Int) (a0_1 : Int) (a0_2 : Int) (a0_3 : Int) (a0_4 : Int) (a0_5 : Int) : Option (Bool) := (addr_Ok.f a0_0 a0_1 a0_2).bind fun t211 => (if t211 = true then ((addr_Ok.f a0_3 a0_4 a0_5).bind fun t212 => (if t212 = true then (if a0_0 = a0_3 then ((addr_Less.f a0_3 a0_4 a0_5 a0_0 a0_1 a0_2).bind fun t213 => (some (!t213))) else (some false)) else (some false))) else (some false))
def quad_Low.f (a0_0 : Int) (a0_1 : Int) : Option (Int) := if a0_1 = 0 then ((bits_TrailingZeros64.f a0_0).bind fun t215 => (some (wrap64 (64 + t215)))) else ((bits_TrailingZeros64.f a0_1).bind fun t216 => (some t216))
def addr_Next.f (a0_0 : Int) (a0_1 : Int) (a0_2 : Int) : Option (Int × Int × Int × Bool) := (quad_Bit.f 300 0).bind fun bt231 => ((quad_Add.f a0_1 a0_2 bt231.1 bt231.2).bind fun bt233 => (if bt233.2.2 = true then ((addr_Ok.f a0_0 a0_1 a0_2).bind fun t238 => (if t238 = true then ((addr_Ok.f a0_0 bt233.1 bt233.2.1).bind fun t239 => (if t239 = true then (some (a0_0, bt233.1, bt233.2.1, true)) else (some (0, 0, 0, false)))) else (some (0, 0, 0, false)))) else (some (0, 0, 0, false))))
end Go.Proofs.YtfnacgojmdbjmaaGreatDoor.PRD
namespace Go.Proofs.YtfnacgojmdbjmaaGreatDoor
open Go.Det Go.RowKit Go.Proofs.YtfnacgojmdbjmaaGreatDoor.PRD Go.Proofs.YtfnacgojmdbjmaaGreatDoorW.PrintWords
set_option maxRecDepth 100000

noncomputable def dec109 : List Value → Option (Int)
  | [.int .u64 a] => some (a)
  | _ => none
noncomputable def enc109 (x : Int) : List Value := [.int .u64 x]
theorem dec109_enc {args : List Value} {a : Int} (h : dec109 args = some a) : args = enc109 a := by
  unfold dec109 at h
  split at h
  case h_2 => cases h
  cases h; rfl
noncomputable def enr109 (y : Int) : Value := .int .i64 y
noncomputable def con109 : Con := Con.opt dec109 (fun x => bits_TrailingZeros64.f x) enr109
theorem om109 {W : World} (hW : GoodW W) : OwnAll Tryz.prog W 6 109 con109.own := by
  refine own_of_calls (fn := Tryz.f109) (c := bodyOf Tryz.f109) hW Tryz.func109 (by kernel_rfl) (by kernel_rfl) fun args v h => ?_
  split at h
  case h_2 => cases h
  rename_i a ha
  split at h
  case h_2 => cases h
  rename_i b hb
  cases h
  obtain rfl := dec109_enc ha
  refine ⟨rfl, rfl, fun w hG => ?_⟩
  first | exact bits_TrailingZeros64.calls a b w hG hb | exact (bits_TrailingZeros64.calls a b w hG hb).mono fun e w' h => ⟨h.1, h.2.below⟩
noncomputable def dec98 : List Value → Option (Int × Int × Int × Int)
  | [.agg ⟨[.int .u64 a, .int .u64 b]⟩, .agg ⟨[.int .u64 c, .int .u64 d]⟩] => some (a, b, c, d)
  | _ => none
noncomputable def enc98 (x : Int × Int × Int × Int) : List Value := [.agg #[.int .u64 x.1, .int .u64 x.2.1], .agg #[.int .u64 x.2.2.1, .int .u64 x.2.2.2]]
theorem dec98_enc {args : List Value} {a : Int × Int × Int × Int} (h : dec98 args = some a) : args = enc98 a := by
  unfold dec98 at h
  split at h
  case h_2 => cases h
  cases h; rfl
noncomputable def enr98 (y : Int × Int × Bool) : Value := .tuple #[.agg #[.int .u64 y.1, .int .u64 y.2.1], .bool y.2.2]
noncomputable def con98 : Con := Con.opt dec98 (fun x => quad_Add.f x.1 x.2.1 x.2.2.1 x.2.2.2) enr98
theorem om98 {W : World} (hW : GoodW W) : OwnAll Tryz.prog W 6 98 con98.own := by
  refine own_of_calls (fn := Tryz.f98) (c := bodyOf Tryz.f98) hW Tryz.func98 (by kernel_rfl) (by kernel_rfl) fun args v h => ?_
  split at h
  case h_2 => cases h
  rename_i a ha
  split at h
  case h_2 => cases h
  rename_i b hb
  cases h
  obtain rfl := dec98_enc ha
  refine ⟨rfl, rfl, fun w hG => ?_⟩
  first | exact quad_Add.calls a.1 a.2.1 a.2.2.1 a.2.2.2 b.1 b.2.1 b.2.2 w hG hb | exact (quad_Add.calls a.1 a.2.1 a.2.2.1 a.2.2.2 b.1 b.2.1 b.2.2 w hG hb).mono fun e w' h => ⟨h.1, h.2.below⟩
noncomputable def dec95 : List Value → Option (Int)
  | [.int .i64 a] => some (a)
  | _ => none
noncomputable def enc95 (x : Int) : List Value := [.int .i64 x]
theorem dec95_enc {args : List Value} {a : Int} (h : dec95 args = some a) : args = enc95 a := by
  unfold dec95 at h
  split at h
  case h_2 => cases h
  cases h; rfl
noncomputable def enr95 (y : Int) : Value := .int .u64 y
noncomputable def con95 : Con := Con.opt dec95 (fun x => quad_high.f x) enr95
theorem om95 {W : World} (hW : GoodW W) : OwnAll Tryz.prog W 6 95 con95.own := by
  refine own_of_calls (fn := Tryz.f95) (c := bodyOf Tryz.f95) hW Tryz.func95 (by kernel_rfl) (by kernel_rfl) fun args v h => ?_
  split at h
  case h_2 => cases h
  rename_i a ha
  split at h
  case h_2 => cases h
  rename_i b hb
  cases h
  obtain rfl := dec95_enc ha
  refine ⟨rfl, rfl, fun w hG => ?_⟩
  first | exact quad_high.calls a b w hG hb | exact (quad_high.calls a b w hG hb).mono fun e w' h => ⟨h.1, h.2.below⟩
noncomputable def dec99 : List Value → Option (Int)
  | [.int .i64 a] => some (a)
  | _ => none
noncomputable def enc99 (x : Int) : List Value := [.int .i64 x]
theorem dec99_enc {args : List Value} {a : Int} (h : dec99 args = some a) : args = enc99 a := by
  unfold dec99 at h
  split at h
  case h_2 => cases h
  cases h; rfl
noncomputable def enr99 (y : Int × Int) : Value := .agg #[.int .u64 y.1, .int .u64 y.2]
noncomputable def con99 : Con := Con.opt dec99 (fun x => quad_Bit.f 300 x) enr99
theorem om99 {W : World} (hW : GoodW W) : OwnAll Tryz.prog W 6 99 con99.own := by
  refine own_of_calls (fn := Tryz.f99) (c := bodyOf Tryz.f99) hW Tryz.func99 (by kernel_rfl) (by kernel_rfl) fun args v h => ?_
  split at h
  case h_2 => cases h
  rename_i a ha
  split at h
  case h_2 => cases h
  rename_i b hb
  cases h
  obtain rfl := dec99_enc ha
  refine ⟨rfl, rfl, fun w hG => ?_⟩
  first | exact quad_Bit.calls 300 a b.1 b.2 w hG hb | exact (quad_Bit.calls 300 a b.1 b.2 w hG hb).mono fun e w' h => ⟨h.1, h.2.below⟩
noncomputable def dec56 : List Value → Option (Int)
  | [.int .i64 a] => some (a)
  | _ => none
noncomputable def enc56 (x : Int) : List Value := [.int .i64 x]
theorem dec56_enc {args : List Value} {a : Int} (h : dec56 args = some a) : args = enc56 a := by
  unfold dec56 at h
  split at h
  case h_2 => cases h
  cases h; rfl
noncomputable def enr56 (y : Int × Int) : Value := .agg #[.int .u64 y.1, .int .u64 y.2]
noncomputable def con56 : Con := Con.opt dec56 (fun x => gleberef1_Mask.f 300 x) enr56
theorem om56 {W : World} (hW : GoodW W) : OwnAll Tryz.prog W 6 56 con56.own := by
  refine own_of_calls (fn := Tryz.f56) (c := bodyOf Tryz.f56) hW Tryz.func56 (by kernel_rfl) (by kernel_rfl) fun args v h => ?_
  split at h
  case h_2 => cases h
  rename_i a ha
  split at h
  case h_2 => cases h
  rename_i b hb
  cases h
  obtain rfl := dec56_enc ha
  refine ⟨rfl, rfl, fun w hG => ?_⟩
  first | exact gleberef1_Mask.calls 300 a b.1 b.2 w hG hb | exact (gleberef1_Mask.calls 300 a b.1 b.2 w hG hb).mono fun e w' h => ⟨h.1, h.2.below⟩
noncomputable def dec42 : List Value → Option (Int × Int × Int)
  | [.int .i64 a, .int .u64 b, .int .u64 c] => some (a, b, c)
  | _ => none
noncomputable def enc42 (x : Int × Int × Int) : List Value := [.int .i64 x.1, .int .u64 x.2.1, .int .u64 x.2.2]
theorem dec42_enc {args : List Value} {a : Int × Int × Int} (h : dec42 args = some a) : args = enc42 a := by
  unfold dec42 at h
  split at h
  case h_2 => cases h
  cases h; rfl
noncomputable def enr42 (y : Int × Int × Int) : Value := .agg #[.int .i64 y.1, .int .u64 y.2.1, .int .u64 y.2.2]
noncomputable def con42 : Con := Con.opt dec42 (fun x => glebelaw2_Addr.f 300 x.1 x.2.1 x.2.2) enr42
theorem om42 {W : World} (hW : GoodW W) : OwnAll Tryz.prog W 6 42 con42.own := by
  refine own_of_calls (fn := Tryz.f42) (c := bodyOf Tryz.f42) hW Tryz.func42 (by kernel_rfl) (by kernel_rfl) fun args v h => ?_
  split at h
  case h_2 => cases h
  rename_i a ha
  split at h
  case h_2 => cases h
  rename_i b hb
  cases h
  obtain rfl := dec42_enc ha
  refine ⟨rfl, rfl, fun w hG => ?_⟩
  first | exact glebelaw2_Addr.calls 300 a.1 a.2.1 a.2.2 b.1 b.2.1 b.2.2 w hG hb | exact (glebelaw2_Addr.calls 300 a.1 a.2.1 a.2.2 b.1 b.2.1 b.2.2 w hG hb).mono fun e w' h => ⟨h.1, h.2.below⟩
noncomputable def dec45 : List Value → Option (Int)
  | [.int .i64 a] => some (a)
  | _ => none
noncomputable def enc45 (x : Int) : List Value := [.int .i64 x]
theorem dec45_enc {args : List Value} {a : Int} (h : dec45 args = some a) : args = enc45 a := by
  unfold dec45 at h
  split at h
  case h_2 => cases h
  cases h; rfl
noncomputable def enr45 (y : Int) : Value := .int .i64 y
noncomputable def con45 : Con := Con.opt dec45 (fun x => gleberef1_Bits.f x) enr45
noncomputable def L45 : List (Nat × Con) := []
noncomputable def dec55 : List Value → Option (Int × Int × Int × Int)
  | [.agg ⟨[.int .u64 a, .int .u64 b]⟩, .agg ⟨[.int .u64 c, .int .u64 d]⟩] => some (a, b, c, d)
  | _ => none
noncomputable def enc55 (x : Int × Int × Int × Int) : List Value := [.agg #[.int .u64 x.1, .int .u64 x.2.1], .agg #[.int .u64 x.2.2.1, .int .u64 x.2.2.2]]
theorem dec55_enc {args : List Value} {a : Int × Int × Int × Int} (h : dec55 args = some a) : args = enc55 a := by
  unfold dec55 at h
  split at h
  case h_2 => cases h
  cases h; rfl
noncomputable def enr55 (y : Int × Int) : Value := .agg #[.int .u64 y.1, .int .u64 y.2]
noncomputable def con55 : Con := Con.opt dec55 (fun x => gleberef1_And.f x.1 x.2.1 x.2.2.1 x.2.2.2) enr55
noncomputable def L55 : List (Nat × Con) := []
noncomputable def dec57 : List Value → Option (Int × Int)
  | [.agg ⟨[.int .u64 a, .int .u64 b]⟩] => some (a, b)
  | _ => none
noncomputable def enc57 (x : Int × Int) : List Value := [.agg #[.int .u64 x.1, .int .u64 x.2]]
theorem dec57_enc {args : List Value} {a : Int × Int} (h : dec57 args = some a) : args = enc57 a := by
  unfold dec57 at h
  split at h
  case h_2 => cases h
  cases h; rfl
noncomputable def enr57 (y : Int × Int) : Value := .agg #[.int .u64 y.1, .int .u64 y.2]
noncomputable def con57 : Con := Con.opt dec57 (fun x => gleberef1_Not.f x.1 x.2) enr57
noncomputable def L57 : List (Nat × Con) := []
noncomputable def dec65 : List Value → Option (Int × Int)
  | [.int .i64 a, .int .i64 b] => some (a, b)
  | _ => none
noncomputable def enc65 (x : Int × Int) : List Value := [.int .i64 x.1, .int .i64 x.2]
theorem dec65_enc {args : List Value} {a : Int × Int} (h : dec65 args = some a) : args = enc65 a := by
  unfold dec65 at h
  split at h
  case h_2 => cases h
  cases h; rfl
noncomputable def enr65 (y : Int × Int) : Value := .agg #[.int .u64 y.1, .int .u64 y.2]
noncomputable def con65 : Con := Con.opt dec65 (fun x => gleberef1_all.f x.1 x.2) enr65
noncomputable def L65 : List (Nat × Con) := [(45, con45), (56, con56), (57, con57), (55, con55)]
noncomputable def dec44 : List Value → Option (Int × Int × Int)
  | [.agg ⟨[.int .i64 a, .int .u64 b, .int .u64 c]⟩] => some (a, b, c)
  | _ => none
noncomputable def enc44 (x : Int × Int × Int) : List Value := [.agg #[.int .i64 x.1, .int .u64 x.2.1, .int .u64 x.2.2]]
theorem dec44_enc {args : List Value} {a : Int × Int × Int} (h : dec44 args = some a) : args = enc44 a := by
  unfold dec44 at h
  split at h
  case h_2 => cases h
  cases h; rfl
noncomputable def enr44 (y : Bool) : Value := .bool y
noncomputable def con44 : Con := Con.opt dec44 (fun x => gleberef1_Ok.f x.1 x.2.1 x.2.2) enr44
noncomputable def L44 : List (Nat × Con) := []
noncomputable def dec16 : List Value → Option (Int × Int × Int × Int)
  | [.agg ⟨[.int .i64 a, .int .u64 b, .int .u64 c, .int .i64 d]⟩] => some (a, b, c, d)
  | _ => none
noncomputable def enc16 (x : Int × Int × Int × Int) : List Value := [.agg #[.int .i64 x.1, .int .u64 x.2.1, .int .u64 x.2.2.1, .int .i64 x.2.2.2]]
theorem dec16_enc {args : List Value} {a : Int × Int × Int × Int} (h : dec16 args = some a) : args = enc16 a := by
  unfold dec16 at h
  split at h
  case h_2 => cases h
  cases h; rfl
noncomputable def enr16 (y : Bool) : Value := .bool y
noncomputable def con16 : Con := Con.opt dec16 (fun x => gleberef1_OkPrefix.f x.1 x.2.1 x.2.2.1 x.2.2.2) enr16
noncomputable def L16 : List (Nat × Con) := [(44, con44), (45, con45), (65, con65), (55, con55)]
noncomputable def dec25 : List Value → Option (Int × Int × Int × Int)
  | [.agg ⟨[.int .i64 a, .int .u64 b, .int .u64 c, .int .i64 d]⟩] => some (a, b, c, d)
  | _ => none
noncomputable def enc25 (x : Int × Int × Int × Int) : List Value := [.agg #[.int .i64 x.1, .int .u64 x.2.1, .int .u64 x.2.2.1, .int .i64 x.2.2.2]]
theorem dec25_enc {args : List Value} {a : Int × Int × Int × Int} (h : dec25 args = some a) : args = enc25 a := by
  unfold dec25 at h
  split at h
  case h_2 => cases h
  cases h; rfl
noncomputable def enr25 (y : Int × Int × Int) : Value := .agg #[.int .i64 y.1, .int .u64 y.2.1, .int .u64 y.2.2]
noncomputable def con25 : Con := Con.opt dec25 (fun x => gleberef1_Last.f x.1 x.2.1 x.2.2.1 x.2.2.2) enr25
noncomputable def L25 : List (Nat × Con) := [(16, con16), (65, con65), (57, con57), (45, con45), (56, con56), (55, con55)]
noncomputable def dec43 : List Value → Option (Int × Int × Int × Int)
  | [.agg ⟨[.int .u64 a, .int .u64 b]⟩, .agg ⟨[.int .u64 c, .int .u64 d]⟩] => some (a, b, c, d)
  | _ => none
noncomputable def enc43 (x : Int × Int × Int × Int) : List Value := [.agg #[.int .u64 x.1, .int .u64 x.2.1], .agg #[.int .u64 x.2.2.1, .int .u64 x.2.2.2]]
theorem dec43_enc {args : List Value} {a : Int × Int × Int × Int} (h : dec43 args = some a) : args = enc43 a := by
  unfold dec43 at h
  split at h
  case h_2 => cases h
  cases h; rfl
noncomputable def enr43 (y : Int × Int × Bool) : Value := .tuple #[.agg #[.int .u64 y.1, .int .u64 y.2.1], .bool y.2.2]
noncomputable def con43 : Con := Con.opt dec43 (fun x => gleberef1_Add.f x.1 x.2.1 x.2.2.1 x.2.2.2) enr43
noncomputable def L43 : List (Nat × Con) := []
noncomputable def dec10 : List Value → Option (Int × Int × Int × Int)
  | [.int .i64 a, .int .u64 b, .int .u64 c, .int .i64 d] => some (a, b, c, d)
  | _ => none
noncomputable def enc10 (x : Int × Int × Int × Int) : List Value := [.int .i64 x.1, .int .u64 x.2.1, .int .u64 x.2.2.1, .int .i64 x.2.2.2]
theorem dec10_enc {args : List Value} {a : Int × Int × Int × Int} (h : dec10 args = some a) : args = enc10 a := by
  unfold dec10 at h
  split at h
  case h_2 => cases h
  cases h; rfl
noncomputable def enr10 (y : Int × Int × Int × Int) : Value := .agg #[.int .i64 y.1, .int .u64 y.2.1, .int .u64 y.2.2.1, .int .i64 y.2.2.2]
noncomputable def con10 : Con := Con.opt dec10 (fun x => glebelaw3_Pre.f x.1 x.2.1 x.2.2.1 x.2.2.2) enr10
noncomputable def L10 : List (Nat × Con) := [(42, con42), (45, con45), (56, con56), (57, con57), (55, con55)]
noncomputable def dec66 : List Value → Option (Int × Int × Int × Int)
  | [.agg ⟨[.int .u64 a, .int .u64 b]⟩, .agg ⟨[.int .u64 c, .int .u64 d]⟩] => some (a, b, c, d)
  | _ => none
noncomputable def enc66 (x : Int × Int × Int × Int) : List Value := [.agg #[.int .u64 x.1, .int .u64 x.2.1], .agg #[.int .u64 x.2.2.1, .int .u64 x.2.2.2]]
theorem dec66_enc {args : List Value} {a : Int × Int × Int × Int} (h : dec66 args = some a) : args = enc66 a := by
  unfold dec66 at h
  split at h
  case h_2 => cases h
  cases h; rfl
noncomputable def enr66 (y : Int × Int) : Value := .agg #[.int .u64 y.1, .int .u64 y.2]
noncomputable def con66 : Con := Con.opt dec66 (fun x => quad_And.f x.1 x.2.1 x.2.2.1 x.2.2.2) enr66
noncomputable def L66 : List (Nat × Con) := []
noncomputable def dec74 : List Value → Option (Int × Int × Int × Int)
  | [.agg ⟨[.int .u64 a, .int .u64 b]⟩, .agg ⟨[.int .u64 c, .int .u64 d]⟩] => some (a, b, c, d)
  | _ => none
noncomputable def enc74 (x : Int × Int × Int × Int) : List Value := [.agg #[.int .u64 x.1, .int .u64 x.2.1], .agg #[.int .u64 x.2.2.1, .int .u64 x.2.2.2]]
theorem dec74_enc {args : List Value} {a : Int × Int × Int × Int} (h : dec74 args = some a) : args = enc74 a := by
  unfold dec74 at h
  split at h
  case h_2 => cases h
  cases h; rfl
noncomputable def enr74 (y : Int × Int) : Value := .agg #[.int .u64 y.1, .int .u64 y.2]
noncomputable def con74 : Con := Con.opt dec74 (fun x => quad_Or.f x.1 x.2.1 x.2.2.1 x.2.2.2) enr74
noncomputable def L74 : List (Nat × Con) := []
noncomputable def dec72 : List Value → Option (Int × Int)
  | [.agg ⟨[.int .u64 a, .int .u64 b]⟩] => some (a, b)
  | _ => none
noncomputable def enc72 (x : Int × Int) : List Value := [.agg #[.int .u64 x.1, .int .u64 x.2]]
theorem dec72_enc {args : List Value} {a : Int × Int} (h : dec72 args = some a) : args = enc72 a := by
  unfold dec72 at h
  split at h
  case h_2 => cases h
  cases h; rfl
noncomputable def enr72 (y : Int × Int) : Value := .agg #[.int .u64 y.1, .int .u64 y.2]
noncomputable def con72 : Con := Con.opt dec72 (fun x => quad_Not.f x.1 x.2) enr72
noncomputable def L72 : List (Nat × Con) := []
noncomputable def dec69 : List Value → Option (Int)
  | [.int .i64 a] => some (a)
  | _ => none
noncomputable def enc69 (x : Int) : List Value := [.int .i64 x]
theorem dec69_enc {args : List Value} {a : Int} (h : dec69 args = some a) : args = enc69 a := by
  unfold dec69 at h
  split at h
  case h_2 => cases h
  cases h; rfl
noncomputable def enr69 (y : Int) : Value := .int .i64 y
noncomputable def con69 : Con := Con.opt dec69 (fun x => addr_Bits.f x) enr69
noncomputable def L69 : List (Nat × Con) := []
noncomputable def dec73 : List Value → Option (Int)
  | [.int .i64 a] => some (a)
  | _ => none
noncomputable def enc73 (x : Int) : List Value := [.int .i64 x]
theorem dec73_enc {args : List Value} {a : Int} (h : dec73 args = some a) : args = enc73 a := by
  unfold dec73 at h
  split at h
  case h_2 => cases h
  cases h; rfl
noncomputable def enr73 (y : Int × Int) : Value := .agg #[.int .u64 y.1, .int .u64 y.2]
noncomputable def con73 : Con := Con.opt dec73 (fun x => quad_Mask.f x) enr73
noncomputable def L73 : List (Nat × Con) := [(95, con95)]
noncomputable def dec67 : List Value → Option (Int × Int)
  | [.int .i64 a, .int .i64 b] => some (a, b)
  | _ => none
noncomputable def enc67 (x : Int × Int) : List Value := [.int .i64 x.1, .int .i64 x.2]
theorem dec67_enc {args : List Value} {a : Int × Int} (h : dec67 args = some a) : args = enc67 a := by
  unfold dec67 at h
  split at h
  case h_2 => cases h
  cases h; rfl
noncomputable def enr67 (y : Int × Int) : Value := .agg #[.int .u64 y.1, .int .u64 y.2]
noncomputable def con67 : Con := Con.opt dec67 (fun x => pref_mask.f x.1 x.2) enr67
noncomputable def L67 : List (Nat × Con) := [(69, con69), (73, con73)]
noncomputable def dec68 : List Value → Option (Int × Int × Int)
  | [.agg ⟨[.int .i64 a, .int .u64 b, .int .u64 c]⟩] => some (a, b, c)
  | _ => none
noncomputable def enc68 (x : Int × Int × Int) : List Value := [.agg #[.int .i64 x.1, .int .u64 x.2.1, .int .u64 x.2.2]]
theorem dec68_enc {args : List Value} {a : Int × Int × Int} (h : dec68 args = some a) : args = enc68 a := by
  unfold dec68 at h
  split at h
  case h_2 => cases h
  cases h; rfl
noncomputable def enr68 (y : Bool) : Value := .bool y
noncomputable def con68 : Con := Con.opt dec68 (fun x => addr_Ok.f x.1 x.2.1 x.2.2) enr68
noncomputable def L68 : List (Nat × Con) := []
noncomputable def dec22 : List Value → Option (Int × Int × Int × Int)
  | [.agg ⟨[.int .i64 a, .int .u64 b, .int .u64 c, .int .i64 d]⟩] => some (a, b, c, d)
  | _ => none
noncomputable def enc22 (x : Int × Int × Int × Int) : List Value := [.agg #[.int .i64 x.1, .int .u64 x.2.1, .int .u64 x.2.2.1, .int .i64 x.2.2.2]]
theorem dec22_enc {args : List Value} {a : Int × Int × Int × Int} (h : dec22 args = some a) : args = enc22 a := by
  unfold dec22 at h
  split at h
  case h_2 => cases h
  cases h; rfl
noncomputable def enr22 (y : Bool) : Value := .bool y
noncomputable def con22 : Con := Con.opt dec22 (fun x => pref_Ok.f x.1 x.2.1 x.2.2.1 x.2.2.2) enr22
noncomputable def L22 : List (Nat × Con) := [(68, con68), (69, con69), (67, con67), (72, con72), (66, con66)]
noncomputable def dec24 : List Value → Option (Int × Int × Int × Int)
  | [.agg ⟨[.int .i64 a, .int .u64 b, .int .u64 c, .int .i64 d]⟩] => some (a, b, c, d)
  | _ => none
noncomputable def enc24 (x : Int × Int × Int × Int) : List Value := [.agg #[.int .i64 x.1, .int .u64 x.2.1, .int .u64 x.2.2.1, .int .i64 x.2.2.2]]
theorem dec24_enc {args : List Value} {a : Int × Int × Int × Int} (h : dec24 args = some a) : args = enc24 a := by
  unfold dec24 at h
  split at h
  case h_2 => cases h
  cases h; rfl
noncomputable def enr24 (y : Int × Int × Int) : Value := .agg #[.int .i64 y.1, .int .u64 y.2.1, .int .u64 y.2.2]
noncomputable def con24 : Con := Con.opt dec24 (fun x => pref_Last.f x.1 x.2.1 x.2.2.1 x.2.2.2) enr24
noncomputable def L24 : List (Nat × Con) := [(22, con22), (69, con69), (73, con73), (67, con67), (72, con72), (66, con66), (74, con74)]
noncomputable def dec96 : List Value → Option (Int × Int × Int × Int)
  | [.agg ⟨[.int .u64 a, .int .u64 b]⟩, .agg ⟨[.int .u64 c, .int .u64 d]⟩] => some (a, b, c, d)
  | _ => none
noncomputable def enc96 (x : Int × Int × Int × Int) : List Value := [.agg #[.int .u64 x.1, .int .u64 x.2.1], .agg #[.int .u64 x.2.2.1, .int .u64 x.2.2.2]]
theorem dec96_enc {args : List Value} {a : Int × Int × Int × Int} (h : dec96 args = some a) : args = enc96 a := by
  unfold dec96 at h
  split at h
  case h_2 => cases h
  cases h; rfl
noncomputable def enr96 (y : Bool) : Value := .bool y
noncomputable def con96 : Con := Con.opt dec96 (fun x => quad_Less.f x.1 x.2.1 x.2.2.1 x.2.2.2) enr96
noncomputable def L96 : List (Nat × Con) := []
noncomputable def dec75 : List Value → Option (Int × Int × Int × Int × Int × Int)
  | [.agg ⟨[.int .i64 a, .int .u64 b, .int .u64 c]⟩, .agg ⟨[.int .i64 d, .int .u64 e, .int .u64 f]⟩] => some (a, b, c, d, e, f)
  | _ => none
noncomputable def enc75 (x : Int × Int × Int × Int × Int × Int) : List Value := [.agg #[.int .i64 x.1, .int .u64 x.2.1, .int .u64 x.2.2.1], .agg #[.int .i64 x.2.2.2.1, .int .u64 x.2.2.2.2.1, .int .u64 x.2.2.2.2.2]]
theorem dec75_enc {args : List Value} {a : Int × Int × Int × Int × Int × Int} (h : dec75 args = some a) : args = enc75 a := by
  unfold dec75 at h
  split at h
  case h_2 => cases h
  cases h; rfl
noncomputable def enr75 (y : Bool) : Value := .bool y
noncomputable def con75 : Con := Con.opt dec75 (fun x => addr_Less.f x.1 x.2.1 x.2.2.1 x.2.2.2.1 x.2.2.2.2.1 x.2.2.2.2.2) enr75
noncomputable def L75 : List (Nat × Con) := [(96, con96)]
noncomputable def dec48 : List Value → Option (Int × Int × Int × Int × Int × Int)
  | [.agg ⟨[.int .i64 a, .int .u64 b, .int .u64 c, .int .i64 d, .int .u64 e, .int .u64 f]⟩] => some (a, b, c, d, e, f)
  | _ => none
noncomputable def enc48 (x : Int × Int × Int × Int × Int × Int) : List Value := [.agg #[.int .i64 x.1, .int .u64 x.2.1, .int .u64 x.2.2.1, .int .i64 x.2.2.2.1, .int .u64 x.2.2.2.2.1, .int .u64 x.2.2.2.2.2]]
theorem dec48_enc {args : List Value} {a : Int × Int × Int × Int × Int × Int} (h : dec48 args = some a) : args = enc48 a := by
  unfold dec48 at h
  split at h
  case h_2 => cases h
  cases h; rfl
noncomputable def enr48 (y : Bool) : Value := .bool y
noncomputable def con48 : Con := Con.opt dec48 (fun x => rang_Ok.f x.1 x.2.1 x.2.2.1 x.2.2.2.1 x.2.2.2.2.1 x.2.2.2.2.2) enr48
noncomputable def L48 : List (Nat × Con) := [(68, con68), (75, con75)]
noncomputable def dec97 : List Value → Option (Int × Int)
  | [.agg ⟨[.int .u64 a, .int .u64 b]⟩] => some (a, b)
  | _ => none
noncomputable def enc97 (x : Int × Int) : List Value := [.agg #[.int .u64 x.1, .int .u64 x.2]]
theorem dec97_enc {args : List Value} {a : Int × Int} (h : dec97 args = some a) : args = enc97 a := by
  unfold dec97 at h
  split at h
  case h_2 => cases h
  cases h; rfl
noncomputable def enr97 (y : Int) : Value := .int .i64 y
noncomputable def con97 : Con := Con.opt dec97 (fun x => quad_Low.f x.1 x.2) enr97
noncomputable def L97 : List (Nat × Con) := [(109, con109)]
noncomputable def dec78 : List Value → Option (Int × Int × Int)
  | [.agg ⟨[.int .i64 a, .int .u64 b, .int .u64 c]⟩] => some (a, b, c)
  | _ => none
noncomputable def enc78 (x : Int × Int × Int) : List Value := [.agg #[.int .i64 x.1, .int .u64 x.2.1, .int .u64 x.2.2]]
theorem dec78_enc {args : List Value} {a : Int × Int × Int} (h : dec78 args = some a) : args = enc78 a := by
  unfold dec78 at h
  split at h
  case h_2 => cases h
  cases h; rfl
noncomputable def enr78 (y : Int × Int × Int × Bool) : Value := .tuple #[.agg #[.int .i64 y.1, .int .u64 y.2.1, .int .u64 y.2.2.1], .bool y.2.2.2]
noncomputable def con78 : Con := Con.opt dec78 (fun x => addr_Next.f x.1 x.2.1 x.2.2) enr78
noncomputable def L78 : List (Nat × Con) := [(99, con99), (98, con98), (68, con68)]

end Go.Proofs.YtfnacgojmdbjmaaGreatDoor
