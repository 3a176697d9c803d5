/- Texts of a proof, joined: words of the print (those that are named here) and printed functions. -/
import Derived.Test.YtfnacgojmdbjmaaDoorPh2
import Derived.Test.YtfnacgojmdbjmaaDoorPh15
import Derived.Test.YtfnacgojmdbjmaaDoorPh16
import Derived.Lib.TrailingZeros

section
/- Functions without loops, told as plain functions, and the contracts of these and of the printed ones. No conditions. -/
namespace Go.Proofs.YtfnacgojmdbjmaaDoor.PPH
open Go.RowKit Go.Proofs.YtfnacgojmdbjmaaDoorW.PrintWords Go.Proofs.YtfnacgojmdbjmaaDoorW.PrintLast Go.Proofs.YtfnacgojmdbjmaaDoorW.PrintMore
open Go.Det (inQ M64 M128 qn addN highN clampN)
def strings_Cut.f (a0 : ByteArray) (a1 : ByteArray) : Option (ByteArray × ByteArray × Bool) := cutF a0 a1
def addr_six.f (a0 : ByteArray) : Option (Int × Int × Int × Bool) := sixF a0
def addr_Ok.f (a0_0 : Int) (a0_1 : Int) (a0_2 : Int) : Option (Bool) := okF a0_0 a0_1 a0_2
def addr_Print.f (a0_0 : Int) (a0_1 : Int) (a0_2 : Int) : Option (ByteArray) := prF a0_0 a0_1 a0_2
def date_Text.f (a0 : Int) : Option (ByteArray) := txtF a0
def gleberef1_Bits.f (a0 : Int) : Option (Int) := if a0 = 4 then (some 32) else (if a0 = 6 then (some 128) else (some 0))
def gleberef1_And.f (a0_0 : Int) (a0_1 : Int) (a1_0 : Int) (a1_1 : Int) : Option (Int × Int) := some (Go.bits .and .u64 a0_0 a1_0, Go.bits .and .u64 a0_1 a1_1)
def gleberef1_Not.f (a0_0 : Int) (a0_1 : Int) : Option (Int × Int) := some (Go.bits .xor .u64 18446744073709551615 a0_0, Go.bits .xor .u64 18446744073709551615 a0_1)
def gleberef1_Ok.f (a0_0 : Int) (a0_1 : Int) (a0_2 : Int) : Option (Bool) := if a0_0 = 6 then (some true) else (if a0_0 = 4 then (if a0_1 = 0 then (some (decide (a0_2 < 4294967296))) else (some false)) else (some false))
def gleberef1_Add.f (a0_0 : Int) (a0_1 : Int) (a1_0 : Int) (a1_1 : Int) : Option (Int × Int × Bool) := if (IntKind.u64.wrap (a0_1 + a1_1)) < a0_1 then (if (IntKind.u64.wrap (a0_0 + a1_0)) < a0_0 then (some (0, 0, false)) else (if (IntKind.u64.wrap ((IntKind.u64.wrap (a0_0 + a1_0)) + 1)) < (IntKind.u64.wrap (a0_0 + a1_0)) then (some (0, 0, false)) else (some (IntKind.u64.wrap ((IntKind.u64.wrap (a0_0 + a1_0)) + 1), IntKind.u64.wrap (a0_1 + a1_1), true)))) else (if (IntKind.u64.wrap (a0_0 + a1_0)) < a0_0 then (some (0, 0, false)) else (if (IntKind.u64.wrap ((IntKind.u64.wrap (a0_0 + a1_0)) + 0)) < (IntKind.u64.wrap (a0_0 + a1_0)) then (some (0, 0, false)) else (some (IntKind.u64.wrap ((IntKind.u64.wrap (a0_0 + a1_0)) + 0), IntKind.u64.wrap (a0_1 + a1_1), true))))
def gleberef1_Less.f (a0_0 : Int) (a0_1 : Int) (a1_0 : Int) (a1_1 : Int) : Option (Bool) := if a0_0 < a1_0 then (some true) else (if a0_0 = a1_0 then (some (decide (a0_1 < a1_1))) else (some false))
def glebelaw3_Pre.f (a0 : Int) (a1 : Int) (a2 : Int) (a3 : Int) : Option (Int × Int × Int × Int) := (glebelaw2_Addr.f 300 a0 a1 a2).bind fun bt111 => ((gleberef1_Bits.f bt111.1).bind fun t115 => (if (wrap64 (t115 + 1)) = 0 then (none) else ((gleberef1_Bits.f bt111.1).bind fun t116 => ((gleberef1_Mask.f 300 (wrap64 ((wrap64 (128 - t116)) + (Int.tmod (Go.bits .and .i64 a3 255) (wrap64 (t115 + 1)))))).bind fun bt117 => ((gleberef1_Bits.f bt111.1).bind fun t119 => ((gleberef1_Mask.f 300 (wrap64 (128 - t119))).bind fun bt120 => ((gleberef1_Not.f bt120.1 bt120.2).bind fun bt122 => ((gleberef1_And.f bt117.1 bt117.2 bt122.1 bt122.2).bind fun bt124 => ((gleberef1_And.f bt111.2.1 bt111.2.2 bt124.1 bt124.2).bind fun bt127 => (some (bt111.1, bt127.1, bt127.2, Int.tmod (Go.bits .and .i64 a3 255) (wrap64 (t115 + 1)))))))))))))
def quad_And.f (a0_0 : Int) (a0_1 : Int) (a1_0 : Int) (a1_1 : Int) : Option (Int × Int) := some (Go.bits .and .u64 a0_0 a1_0, Go.bits .and .u64 a0_1 a1_1)
def quad_Or.f (a0_0 : Int) (a0_1 : Int) (a1_0 : Int) (a1_1 : Int) : Option (Int × Int) := some (Go.bits .or .u64 a0_0 a1_0, Go.bits .or .u64 a0_1 a1_1)
def quad_Not.f (a0_0 : Int) (a0_1 : Int) : Option (Int × Int) := some (Go.bits .xor .u64 18446744073709551615 a0_0, Go.bits .xor .u64 18446744073709551615 a0_1)
def addr_Bits.f (a0 : Int) : Option (Int) := if a0 = 4 then (some 32) else (if a0 = 6 then (some 128) else (some 0))
def quad_Mask.f (a0 : Int) : Option (Int × Int) := (quad_high.f a0).bind fun t167 => ((quad_high.f (wrap64 ((mn a0 128) - 64))).bind fun t168 => (some (t167, t168)))
def pref_mask.f (a0 : Int) (a1 : Int) : Option (Int × Int) := (addr_Bits.f a0).bind fun t170 => ((quad_Mask.f (wrap64 ((wrap64 (128 - t170)) + a1))).bind fun bt171 => (some (bt171.1, bt171.2)))
def pref_Ok.f (a0_0 : Int) (a0_1 : Int) (a0_2 : Int) (a0_3 : Int) : Option (Bool) := (addr_Ok.f a0_0 a0_1 a0_2).bind fun t177 => (if t177 = true then (if a0_3 < 0 then (some false) else ((addr_Bits.f a0_0).bind fun t178 => (if a0_3 > t178 then (some false) else ((pref_mask.f a0_0 a0_3).bind fun bt179 => ((quad_Not.f bt179.1 bt179.2).bind fun bt181 => ((quad_And.f a0_1 a0_2 bt181.1 bt181.2).bind fun bt183 => (some (bt183.1 == 0 && (bt183.2 == 0))))))))) else (some false))
def pref_Last.f (a0_0 : Int) (a0_1 : Int) (a0_2 : Int) (a0_3 : Int) : Option (Int × Int × Int) := (pref_Ok.f a0_0 a0_1 a0_2 a0_3).bind fun t190 => (if t190 = true then ((addr_Bits.f a0_0).bind fun t191 => ((quad_Mask.f (wrap64 (128 - t191))).bind fun bt192 => ((pref_mask.f a0_0 a0_3).bind fun bt195 => ((quad_Not.f bt195.1 bt195.2).bind fun bt197 => ((quad_Not.f bt192.1 bt192.2).bind fun bt199 => ((quad_And.f bt197.1 bt197.2 bt199.1 bt199.2).bind fun bt201 => ((quad_Or.f a0_1 a0_2 bt201.1 bt201.2).bind fun bt203 => (some (a0_0, bt203.1, bt203.2))))))))) else (some (0, 0, 0)))
def quad_Less.f (a0_0 : Int) (a0_1 : Int) (a1_0 : Int) (a1_1 : Int) : Option (Bool) := if a0_0 < a1_0 then (some true) else (if a0_0 = a1_0 then (some (decide (a0_1 < a1_1))) else (some false))
def addr_Less.f (a0_0 : Int) (a0_1 : Int) (a0_2 : Int) (a1_0 : Int) (a1_1 : Int) (a1_2 : Int) : Option (Bool) := if a0_0 < a1_0 then (some true) else (if a0_0 = a1_0 then ((quad_Less.f a0_1 a0_2 a1_1 a1_2).bind fun t209 => (some t209)) else (some false))
def pref_Has.f (a0_0 : Int) (a0_1 : Int) (a0_2 : Int) (a0_3 : Int) (a1_0 : Int) (a1_1 : Int) (a1_2 : Int) : Option (Bool) := (pref_Ok.f a0_0 a0_1 a0_2 a0_3).bind fun t162 => (if t162 = true then ((addr_Ok.f a1_0 a1_1 a1_2).bind fun t163 => (if t163 = true then (if a1_0 = a0_0 then ((pref_mask.f a0_0 a0_3).bind fun bt164 => ((quad_And.f a1_1 a1_2 bt164.1 bt164.2).bind fun bt166 => (some (bt166.1 == a0_1 && (bt166.2 == a0_2))))) else (some false)) else (some false))) else (some false))
def pref_First.f (a0_0 : Int) (a0_1 : Int) (a0_2 : Int) (a0_3 : Int) : Option (Int × Int × Int) := (pref_Ok.f a0_0 a0_1 a0_2 a0_3).bind fun t1 => (if t1 = true then (some (a0_0, a0_1, a0_2)) else (some (0, 0, 0)))
def pref_Over.f (a0_0 : Int) (a0_1 : Int) (a0_2 : Int) (a0_3 : Int) (a1_0 : Int) (a1_1 : Int) (a1_2 : Int) (a1_3 : Int) : Option (Bool) := (pref_First.f a1_0 a1_1 a1_2 a1_3).bind fun t1 => ((pref_Has.f a0_0 a0_1 a0_2 a0_3 t1.1 t1.2.1 t1.2.2).bind fun t2 => (if t2 = true then (some true) else ((pref_First.f a0_0 a0_1 a0_2 a0_3).bind fun t3 => ((pref_Has.f a1_0 a1_1 a1_2 a1_3 t3.1 t3.2.1 t3.2.2).bind fun t4 => (some t4)))))
def pref_Less.f (a0_0 : Int) (a0_1 : Int) (a0_2 : Int) (a0_3 : Int) (a1_0 : Int) (a1_1 : Int) (a1_2 : Int) (a1_3 : Int) : Option (Bool) := (pref_Ok.f a0_0 a0_1 a0_2 a0_3).bind fun t1 => (if t1 = true then ((pref_Ok.f a1_0 a1_1 a1_2 a1_3).bind fun t2 => (if t2 = true then ((addr_Less.f a0_0 a0_1 a0_2 a1_0 a1_1 a1_2).bind fun t3 => (if t3 = true then (some true) else (if (a0_0 == a1_0 && ((a0_1 == a1_1 && (a0_2 == a1_2)))) = true then (some (decide (a0_3 < a1_3))) else (some false)))) else (some false))) else (some false))
def gleberef1_Next.f (a0_0 : Int) (a0_1 : Int) (a0_2 : Int) : Option (Int × Int × Int × Bool) := (gleberef1_Add.f a0_1 a0_2 0 1).bind fun t1 => ((gleberef1_Ok.f a0_0 a0_1 a0_2).bind fun t2 => (if t2 = true then (if t1.2.2 = true then ((gleberef1_Ok.f a0_0 t1.1 t1.2.1).bind fun t3 => (if t3 = true then (some (a0_0, t1.1, t1.2.1, true)) else (some (0, 0, 0, false)))) else (some (0, 0, 0, false))) else (some (0, 0, 0, false))))
def addr_Parse.f (a0 : ByteArray) : Option (Int × Int × Int × Bool) := (strings_Contains.f a0 { data := #[58] }).bind fun t1 => (if t1 = true then ((addr_six.f a0).bind fun t2 => (some (t2.1, t2.2.1, t2.2.2.1, t2.2.2.2))) else ((addr_four.f 1000 a0).bind fun t3 => (if t3.2 = true then (some (4, 0, t3.1, true)) else (some (0, 0, 0, false)))))
def pref_Parse.f (a0 : ByteArray) : Option (Int × Int × Int × Int × Bool) := (strings_Cut.f a0 { data := #[47] }).bind fun c => ((addr_Parse.f c.1).bind fun a => ((date_Num.f c.2.1 128).bind fun n => (if c.2.2 = true then (if a.2.2.2 = true then (if n.2 = true then ((pref_Ok.f a.1 a.2.1 a.2.2.1 (wrap64 (Go.bits .and .u64 n.1 255))).bind fun o => (if o = true then (some (a.1, a.2.1, a.2.2.1, wrap64 (Go.bits .and .u64 n.1 255), true)) else (some (0, 0, 0, 0, false)))) else (some (0, 0, 0, 0, false))) else (some (0, 0, 0, 0, false))) else (some (0, 0, 0, 0, false)))))
def pref_Print.f (a0_0 : Int) (a0_1 : Int) (a0_2 : Int) (a0_3 : Int) : Option (ByteArray) := (pref_Ok.f a0_0 a0_1 a0_2 a0_3).bind fun t1 => (if t1 = true then ((addr_Print.f a0_0 a0_1 a0_2).bind fun s => (if s.size + ByteArray.size ({ data := #[47] } : ByteArray) ≤ 9223372036854775807 then ((date_Text.f (IntKind.u64.wrap a0_3)).bind fun u => (if (s ++ ({ data := #[47] } : ByteArray)).size + u.size ≤ 9223372036854775807 then (some (s ++ ({ data := #[47] } : ByteArray) ++ u)) else (none))) else (none))) else (some { data := #[] }))
end Go.Proofs.YtfnacgojmdbjmaaDoor.PPH
namespace Go.Proofs.YtfnacgojmdbjmaaDoor
open Go.Det Go.RowKit Go.Proofs.YtfnacgojmdbjmaaDoor.PPH Go.Proofs.YtfnacgojmdbjmaaDoorW.PrintWords
set_option maxRecDepth 100000

noncomputable def dec50 : List Value → Option (Int)
  | [.int .i64 a] => some (a)
  | _ => none
noncomputable def enc50 (x : Int) : List Value := [.int .i64 x]
theorem dec50_enc {args : List Value} {a : Int} (h : dec50 args = some a) : args = enc50 a := by
  unfold dec50 at h
  split at h
  case h_2 => cases h
  cases h; rfl
noncomputable def enr50 (y : Int) : Value := .int .u64 y
noncomputable def con50 : Con := Con.opt dec50 (fun x => quad_high.f x) enr50
theorem om50 {W : World} (hW : GoodW W) : OwnAll Tryd.prog W 6 50 con50.own := by
  refine own_of_calls (fn := Tryd.f50) (c := bodyOf Tryd.f50) hW Tryd.func50 (by kernel_rfl) (by kernel_rfl) fun args v h => ?_
  split at h
  case h_2 => cases h
  rename_i a ha
  split at h
  case h_2 => cases h
  rename_i b hb
  cases h
  obtain rfl := dec50_enc ha
  refine ⟨rfl, rfl, fun w hG => ?_⟩
  first | exact quad_high.calls a b w hG hb | exact (quad_high.calls a b w hG hb).mono fun e w' h => ⟨h.1, h.2.below⟩
noncomputable def dec71 : List Value → Option (Int)
  | [.int .i64 a] => some (a)
  | _ => none
noncomputable def enc71 (x : Int) : List Value := [.int .i64 x]
theorem dec71_enc {args : List Value} {a : Int} (h : dec71 args = some a) : args = enc71 a := by
  unfold dec71 at h
  split at h
  case h_2 => cases h
  cases h; rfl
noncomputable def enr71 (y : Int × Int) : Value := .agg #[.int .u64 y.1, .int .u64 y.2]
noncomputable def con71 : Con := Con.opt dec71 (fun x => gleberef1_Mask.f 300 x) enr71
theorem om71 {W : World} (hW : GoodW W) : OwnAll Tryd.prog W 6 71 con71.own := by
  refine own_of_calls (fn := Tryd.f71) (c := bodyOf Tryd.f71) hW Tryd.func71 (by kernel_rfl) (by kernel_rfl) fun args v h => ?_
  split at h
  case h_2 => cases h
  rename_i a ha
  split at h
  case h_2 => cases h
  rename_i b hb
  cases h
  obtain rfl := dec71_enc ha
  refine ⟨rfl, rfl, fun w hG => ?_⟩
  first | exact gleberef1_Mask.calls 300 a b.1 b.2 w hG hb | exact (gleberef1_Mask.calls 300 a b.1 b.2 w hG hb).mono fun e w' h => ⟨h.1, h.2.below⟩
noncomputable def dec28 : List Value → Option (Int × Int × Int)
  | [.int .i64 a, .int .u64 b, .int .u64 c] => some (a, b, c)
  | _ => none
noncomputable def enc28 (x : Int × Int × Int) : List Value := [.int .i64 x.1, .int .u64 x.2.1, .int .u64 x.2.2]
theorem dec28_enc {args : List Value} {a : Int × Int × Int} (h : dec28 args = some a) : args = enc28 a := by
  unfold dec28 at h
  split at h
  case h_2 => cases h
  cases h; rfl
noncomputable def enr28 (y : Int × Int × Int) : Value := .agg #[.int .i64 y.1, .int .u64 y.2.1, .int .u64 y.2.2]
noncomputable def con28 : Con := Con.opt dec28 (fun x => glebelaw2_Addr.f 300 x.1 x.2.1 x.2.2) enr28
theorem om28 {W : World} (hW : GoodW W) : OwnAll Tryd.prog W 6 28 con28.own := by
  refine own_of_calls (fn := Tryd.f28) (c := bodyOf Tryd.f28) hW Tryd.func28 (by kernel_rfl) (by kernel_rfl) fun args v h => ?_
  split at h
  case h_2 => cases h
  rename_i a ha
  split at h
  case h_2 => cases h
  rename_i b hb
  cases h
  obtain rfl := dec28_enc ha
  refine ⟨rfl, rfl, fun w hG => ?_⟩
  first | exact glebelaw2_Addr.calls 300 a.1 a.2.1 a.2.2 b.1 b.2.1 b.2.2 w hG hb | exact (glebelaw2_Addr.calls 300 a.1 a.2.1 a.2.2 b.1 b.2.1 b.2.2 w hG hb).mono fun e w' h => ⟨h.1, h.2.below⟩
noncomputable def dec53 : List Value → Option (ByteArray)
  | [.string a] => some (a)
  | _ => none
noncomputable def enc53 (x : ByteArray) : List Value := [.string x]
theorem dec53_enc {args : List Value} {a : ByteArray} (h : dec53 args = some a) : args = enc53 a := by
  unfold dec53 at h
  split at h
  case h_2 => cases h
  cases h; rfl
noncomputable def enr53 (y : Int × Bool) : Value := .tuple #[.int .u64 y.1, .bool y.2]
noncomputable def con53 : Con := Con.opt dec53 (fun x => addr_four.f 1000 x) enr53
theorem om53 {W : World} (hW : GoodW W) : OwnAll Tryd.prog W 6 53 con53.own := by
  refine own_of_calls (fn := Tryd.f53) (c := bodyOf Tryd.f53) hW Tryd.func53 (by kernel_rfl) (by kernel_rfl) fun args v h => ?_
  split at h
  case h_2 => cases h
  rename_i a ha
  split at h
  case h_2 => cases h
  rename_i b hb
  cases h
  obtain rfl := dec53_enc ha
  refine ⟨rfl, rfl, fun w hG => ?_⟩
  first | exact addr_four.calls 1000 a b.1 b.2 w hG hb | exact (addr_four.calls 1000 a b.1 b.2 w hG hb).mono fun e w' h => ⟨h.1, h.2.below⟩
noncomputable def dec69 : List Value → Option (Int)
  | [.int .i64 a] => some (a)
  | _ => none
noncomputable def enc69 (x : Int) : List Value := [.int .i64 x]
theorem dec69_enc {args : List Value} {a : Int} (h : dec69 args = some a) : args = enc69 a := by
  unfold dec69 at h
  split at h
  case h_2 => cases h
  cases h; rfl
noncomputable def enr69 (y : Int) : Value := .int .i64 y
noncomputable def con69 : Con := Con.opt dec69 (fun x => gleberef1_Bits.f x) enr69
noncomputable def L69 : List (Nat × Con) := []
noncomputable def dec70 : List Value → Option (Int × Int × Int × Int)
  | [.agg ⟨[.int .u64 a, .int .u64 b]⟩, .agg ⟨[.int .u64 c, .int .u64 d]⟩] => some (a, b, c, d)
  | _ => none
noncomputable def enc70 (x : Int × Int × Int × Int) : List Value := [.agg #[.int .u64 x.1, .int .u64 x.2.1], .agg #[.int .u64 x.2.2.1, .int .u64 x.2.2.2]]
theorem dec70_enc {args : List Value} {a : Int × Int × Int × Int} (h : dec70 args = some a) : args = enc70 a := by
  unfold dec70 at h
  split at h
  case h_2 => cases h
  cases h; rfl
noncomputable def enr70 (y : Int × Int) : Value := .agg #[.int .u64 y.1, .int .u64 y.2]
noncomputable def con70 : Con := Con.opt dec70 (fun x => gleberef1_And.f x.1 x.2.1 x.2.2.1 x.2.2.2) enr70
noncomputable def L70 : List (Nat × Con) := []
noncomputable def dec72 : List Value → Option (Int × Int)
  | [.agg ⟨[.int .u64 a, .int .u64 b]⟩] => some (a, b)
  | _ => none
noncomputable def enc72 (x : Int × Int) : List Value := [.agg #[.int .u64 x.1, .int .u64 x.2]]
theorem dec72_enc {args : List Value} {a : Int × Int} (h : dec72 args = some a) : args = enc72 a := by
  unfold dec72 at h
  split at h
  case h_2 => cases h
  cases h; rfl
noncomputable def enr72 (y : Int × Int) : Value := .agg #[.int .u64 y.1, .int .u64 y.2]
noncomputable def con72 : Con := Con.opt dec72 (fun x => gleberef1_Not.f x.1 x.2) enr72
noncomputable def L72 : List (Nat × Con) := []
noncomputable def dec64 : List Value → Option (Int × Int × Int)
  | [.agg ⟨[.int .i64 a, .int .u64 b, .int .u64 c]⟩] => some (a, b, c)
  | _ => none
noncomputable def enc64 (x : Int × Int × Int) : List Value := [.agg #[.int .i64 x.1, .int .u64 x.2.1, .int .u64 x.2.2]]
theorem dec64_enc {args : List Value} {a : Int × Int × Int} (h : dec64 args = some a) : args = enc64 a := by
  unfold dec64 at h
  split at h
  case h_2 => cases h
  cases h; rfl
noncomputable def enr64 (y : Bool) : Value := .bool y
noncomputable def con64 : Con := Con.opt dec64 (fun x => gleberef1_Ok.f x.1 x.2.1 x.2.2) enr64
noncomputable def L64 : List (Nat × Con) := []
noncomputable def dec73 : List Value → Option (Int × Int × Int × Int)
  | [.agg ⟨[.int .u64 a, .int .u64 b]⟩, .agg ⟨[.int .u64 c, .int .u64 d]⟩] => some (a, b, c, d)
  | _ => none
noncomputable def enc73 (x : Int × Int × Int × Int) : List Value := [.agg #[.int .u64 x.1, .int .u64 x.2.1], .agg #[.int .u64 x.2.2.1, .int .u64 x.2.2.2]]
theorem dec73_enc {args : List Value} {a : Int × Int × Int × Int} (h : dec73 args = some a) : args = enc73 a := by
  unfold dec73 at h
  split at h
  case h_2 => cases h
  cases h; rfl
noncomputable def enr73 (y : Int × Int × Bool) : Value := .tuple #[.agg #[.int .u64 y.1, .int .u64 y.2.1], .bool y.2.2]
noncomputable def con73 : Con := Con.opt dec73 (fun x => gleberef1_Add.f x.1 x.2.1 x.2.2.1 x.2.2.2) enr73
noncomputable def L73 : List (Nat × Con) := []
noncomputable def dec43 : List Value → Option (Int × Int × Int × Int)
  | [.agg ⟨[.int .u64 a, .int .u64 b]⟩, .agg ⟨[.int .u64 c, .int .u64 d]⟩] => some (a, b, c, d)
  | _ => none
noncomputable def enc43 (x : Int × Int × Int × Int) : List Value := [.agg #[.int .u64 x.1, .int .u64 x.2.1], .agg #[.int .u64 x.2.2.1, .int .u64 x.2.2.2]]
theorem dec43_enc {args : List Value} {a : Int × Int × Int × Int} (h : dec43 args = some a) : args = enc43 a := by
  unfold dec43 at h
  split at h
  case h_2 => cases h
  cases h; rfl
noncomputable def enr43 (y : Bool) : Value := .bool y
noncomputable def con43 : Con := Con.opt dec43 (fun x => gleberef1_Less.f x.1 x.2.1 x.2.2.1 x.2.2.2) enr43
noncomputable def L43 : List (Nat × Con) := []
noncomputable def dec40 : List Value → Option (Int × Int × Int × Int)
  | [.int .i64 a, .int .u64 b, .int .u64 c, .int .i64 d] => some (a, b, c, d)
  | _ => none
noncomputable def enc40 (x : Int × Int × Int × Int) : List Value := [.int .i64 x.1, .int .u64 x.2.1, .int .u64 x.2.2.1, .int .i64 x.2.2.2]
theorem dec40_enc {args : List Value} {a : Int × Int × Int × Int} (h : dec40 args = some a) : args = enc40 a := by
  unfold dec40 at h
  split at h
  case h_2 => cases h
  cases h; rfl
noncomputable def enr40 (y : Int × Int × Int × Int) : Value := .agg #[.int .i64 y.1, .int .u64 y.2.1, .int .u64 y.2.2.1, .int .i64 y.2.2.2]
noncomputable def con40 : Con := Con.opt dec40 (fun x => glebelaw3_Pre.f x.1 x.2.1 x.2.2.1 x.2.2.2) enr40
noncomputable def L40 : List (Nat × Con) := [(28, con28), (69, con69), (71, con71), (72, con72), (70, con70)]
noncomputable def dec20 : List Value → Option (Int × Int × Int × Int)
  | [.agg ⟨[.int .u64 a, .int .u64 b]⟩, .agg ⟨[.int .u64 c, .int .u64 d]⟩] => some (a, b, c, d)
  | _ => none
noncomputable def enc20 (x : Int × Int × Int × Int) : List Value := [.agg #[.int .u64 x.1, .int .u64 x.2.1], .agg #[.int .u64 x.2.2.1, .int .u64 x.2.2.2]]
theorem dec20_enc {args : List Value} {a : Int × Int × Int × Int} (h : dec20 args = some a) : args = enc20 a := by
  unfold dec20 at h
  split at h
  case h_2 => cases h
  cases h; rfl
noncomputable def enr20 (y : Int × Int) : Value := .agg #[.int .u64 y.1, .int .u64 y.2]
noncomputable def con20 : Con := Con.opt dec20 (fun x => quad_And.f x.1 x.2.1 x.2.2.1 x.2.2.2) enr20
noncomputable def L20 : List (Nat × Con) := []
noncomputable def dec21 : List Value → Option (Int × Int × Int × Int)
  | [.agg ⟨[.int .u64 a, .int .u64 b]⟩, .agg ⟨[.int .u64 c, .int .u64 d]⟩] => some (a, b, c, d)
  | _ => none
noncomputable def enc21 (x : Int × Int × Int × Int) : List Value := [.agg #[.int .u64 x.1, .int .u64 x.2.1], .agg #[.int .u64 x.2.2.1, .int .u64 x.2.2.2]]
theorem dec21_enc {args : List Value} {a : Int × Int × Int × Int} (h : dec21 args = some a) : args = enc21 a := by
  unfold dec21 at h
  split at h
  case h_2 => cases h
  cases h; rfl
noncomputable def enr21 (y : Int × Int) : Value := .agg #[.int .u64 y.1, .int .u64 y.2]
noncomputable def con21 : Con := Con.opt dec21 (fun x => quad_Or.f x.1 x.2.1 x.2.2.1 x.2.2.2) enr21
noncomputable def L21 : List (Nat × Con) := []
noncomputable def dec24 : List Value → Option (Int × Int)
  | [.agg ⟨[.int .u64 a, .int .u64 b]⟩] => some (a, b)
  | _ => none
noncomputable def enc24 (x : Int × Int) : List Value := [.agg #[.int .u64 x.1, .int .u64 x.2]]
theorem dec24_enc {args : List Value} {a : Int × Int} (h : dec24 args = some a) : args = enc24 a := by
  unfold dec24 at h
  split at h
  case h_2 => cases h
  cases h; rfl
noncomputable def enr24 (y : Int × Int) : Value := .agg #[.int .u64 y.1, .int .u64 y.2]
noncomputable def con24 : Con := Con.opt dec24 (fun x => quad_Not.f x.1 x.2) enr24
noncomputable def L24 : List (Nat × Con) := []
noncomputable def dec59 : List Value → Option (Int)
  | [.int .i64 a] => some (a)
  | _ => none
noncomputable def enc59 (x : Int) : List Value := [.int .i64 x]
theorem dec59_enc {args : List Value} {a : Int} (h : dec59 args = some a) : args = enc59 a := by
  unfold dec59 at h
  split at h
  case h_2 => cases h
  cases h; rfl
noncomputable def enr59 (y : Int) : Value := .int .i64 y
noncomputable def con59 : Con := Con.opt dec59 (fun x => addr_Bits.f x) enr59
noncomputable def L59 : List (Nat × Con) := []
noncomputable def dec19 : List Value → Option (Int)
  | [.int .i64 a] => some (a)
  | _ => none
noncomputable def enc19 (x : Int) : List Value := [.int .i64 x]
theorem dec19_enc {args : List Value} {a : Int} (h : dec19 args = some a) : args = enc19 a := by
  unfold dec19 at h
  split at h
  case h_2 => cases h
  cases h; rfl
noncomputable def enr19 (y : Int × Int) : Value := .agg #[.int .u64 y.1, .int .u64 y.2]
noncomputable def con19 : Con := Con.opt dec19 (fun x => quad_Mask.f x) enr19
noncomputable def L19 : List (Nat × Con) := [(50, con50)]
noncomputable def dec63 : List Value → Option (Int × Int)
  | [.int .i64 a, .int .i64 b] => some (a, b)
  | _ => none
noncomputable def enc63 (x : Int × Int) : List Value := [.int .i64 x.1, .int .i64 x.2]
theorem dec63_enc {args : List Value} {a : Int × Int} (h : dec63 args = some a) : args = enc63 a := by
  unfold dec63 at h
  split at h
  case h_2 => cases h
  cases h; rfl
noncomputable def enr63 (y : Int × Int) : Value := .agg #[.int .u64 y.1, .int .u64 y.2]
noncomputable def con63 : Con := Con.opt dec63 (fun x => pref_mask.f x.1 x.2) enr63
noncomputable def L63 : List (Nat × Con) := [(59, con59), (19, con19)]
noncomputable def dec62 : List Value → Option (Int × Int × Int × Int)
  | [.agg ⟨[.int .i64 a, .int .u64 b, .int .u64 c, .int .i64 d]⟩] => some (a, b, c, d)
  | _ => none
noncomputable def enc62 (x : Int × Int × Int × Int) : List Value := [.agg #[.int .i64 x.1, .int .u64 x.2.1, .int .u64 x.2.2.1, .int .i64 x.2.2.2]]
theorem dec62_enc {args : List Value} {a : Int × Int × Int × Int} (h : dec62 args = some a) : args = enc62 a := by
  unfold dec62 at h
  split at h
  case h_2 => cases h
  cases h; rfl
noncomputable def enr62 (y : Bool) : Value := .bool y
noncomputable def con62 : Con := Con.opt dec62 (fun x => pref_Ok.f x.1 x.2.1 x.2.2.1 x.2.2.2) enr62
noncomputable def L62 : List (Nat × Con) := [(31, con31), (59, con59), (63, con63), (24, con24), (20, con20)]
noncomputable def dec37 : List Value → Option (Int × Int × Int × Int)
  | [.agg ⟨[.int .i64 a, .int .u64 b, .int .u64 c, .int .i64 d]⟩] => some (a, b, c, d)
  | _ => none
noncomputable def enc37 (x : Int × Int × Int × Int) : List Value := [.agg #[.int .i64 x.1, .int .u64 x.2.1, .int .u64 x.2.2.1, .int .i64 x.2.2.2]]
theorem dec37_enc {args : List Value} {a : Int × Int × Int × Int} (h : dec37 args = some a) : args = enc37 a := by
  unfold dec37 at h
  split at h
  case h_2 => cases h
  cases h; rfl
noncomputable def enr37 (y : Int × Int × Int) : Value := .agg #[.int .i64 y.1, .int .u64 y.2.1, .int .u64 y.2.2]
noncomputable def con37 : Con := Con.opt dec37 (fun x => pref_Last.f x.1 x.2.1 x.2.2.1 x.2.2.2) enr37
noncomputable def L37 : List (Nat × Con) := [(62, con62), (59, con59), (19, con19), (63, con63), (24, con24), (20, con20), (21, con21)]
noncomputable def dec22 : List Value → Option (Int × Int × Int × Int)
  | [.agg ⟨[.int .u64 a, .int .u64 b]⟩, .agg ⟨[.int .u64 c, .int .u64 d]⟩] => some (a, b, c, d)
  | _ => none
noncomputable def enc22 (x : Int × Int × Int × Int) : List Value := [.agg #[.int .u64 x.1, .int .u64 x.2.1], .agg #[.int .u64 x.2.2.1, .int .u64 x.2.2.2]]
theorem dec22_enc {args : List Value} {a : Int × Int × Int × Int} (h : dec22 args = some a) : args = enc22 a := by
  unfold dec22 at h
  split at h
  case h_2 => cases h
  cases h; rfl
noncomputable def enr22 (y : Bool) : Value := .bool y
noncomputable def con22 : Con := Con.opt dec22 (fun x => quad_Less.f x.1 x.2.1 x.2.2.1 x.2.2.2) enr22
noncomputable def L22 : List (Nat × Con) := []
noncomputable def dec30 : List Value → Option (Int × Int × Int × Int × Int × Int)
  | [.agg ⟨[.int .i64 a, .int .u64 b, .int .u64 c]⟩, .agg ⟨[.int .i64 d, .int .u64 e, .int .u64 f]⟩] => some (a, b, c, d, e, f)
  | _ => none
noncomputable def enc30 (x : Int × Int × Int × Int × Int × Int) : List Value := [.agg #[.int .i64 x.1, .int .u64 x.2.1, .int .u64 x.2.2.1], .agg #[.int .i64 x.2.2.2.1, .int .u64 x.2.2.2.2.1, .int .u64 x.2.2.2.2.2]]
theorem dec30_enc {args : List Value} {a : Int × Int × Int × Int × Int × Int} (h : dec30 args = some a) : args = enc30 a := by
  unfold dec30 at h
  split at h
  case h_2 => cases h
  cases h; rfl
noncomputable def enr30 (y : Bool) : Value := .bool y
noncomputable def con30 : Con := Con.opt dec30 (fun x => addr_Less.f x.1 x.2.1 x.2.2.1 x.2.2.2.1 x.2.2.2.2.1 x.2.2.2.2.2) enr30
noncomputable def L30 : List (Nat × Con) := [(22, con22)]
noncomputable def dec42 : List Value → Option (Int × Int × Int × Int × Int × Int × Int)
  | [.agg ⟨[.int .i64 a, .int .u64 b, .int .u64 c, .int .i64 d]⟩, .agg ⟨[.int .i64 e, .int .u64 f, .int .u64 g]⟩] => some (a, b, c, d, e, f, g)
  | _ => none
noncomputable def enc42 (x : Int × Int × Int × Int × Int × Int × Int) : List Value := [.agg #[.int .i64 x.1, .int .u64 x.2.1, .int .u64 x.2.2.1, .int .i64 x.2.2.2.1], .agg #[.int .i64 x.2.2.2.2.1, .int .u64 x.2.2.2.2.2.1, .int .u64 x.2.2.2.2.2.2]]
theorem dec42_enc {args : List Value} {a : Int × Int × Int × Int × Int × Int × Int} (h : dec42 args = some a) : args = enc42 a := by
  unfold dec42 at h
  split at h
  case h_2 => cases h
  cases h; rfl
noncomputable def enr42 (y : Bool) : Value := .bool y
noncomputable def con42 : Con := Con.opt dec42 (fun x => pref_Has.f x.1 x.2.1 x.2.2.1 x.2.2.2.1 x.2.2.2.2.1 x.2.2.2.2.2.1 x.2.2.2.2.2.2) enr42
noncomputable def L42 : List (Nat × Con) := [(62, con62), (31, con31), (63, con63), (20, con20)]
noncomputable def dec36 : List Value → Option (Int × Int × Int × Int)
  | [.agg ⟨[.int .i64 a, .int .u64 b, .int .u64 c, .int .i64 d]⟩] => some (a, b, c, d)
  | _ => none
noncomputable def enc36 (x : Int × Int × Int × Int) : List Value := [.agg #[.int .i64 x.1, .int .u64 x.2.1, .int .u64 x.2.2.1, .int .i64 x.2.2.2]]
theorem dec36_enc {args : List Value} {a : Int × Int × Int × Int} (h : dec36 args = some a) : args = enc36 a := by
  unfold dec36 at h
  split at h
  case h_2 => cases h
  cases h; rfl
noncomputable def enr36 (y : Int × Int × Int) : Value := .agg #[.int .i64 y.1, .int .u64 y.2.1, .int .u64 y.2.2]
noncomputable def con36 : Con := Con.opt dec36 (fun x => pref_First.f x.1 x.2.1 x.2.2.1 x.2.2.2) enr36
noncomputable def L36 : List (Nat × Con) := [(62, con62)]
noncomputable def dec44 : List Value → Option (Int × Int × Int × Int × Int × Int × Int × Int)
  | [.agg ⟨[.int .i64 a, .int .u64 b, .int .u64 c, .int .i64 d]⟩, .agg ⟨[.int .i64 e, .int .u64 f, .int .u64 g, .int .i64 h]⟩] => some (a, b, c, d, e, f, g, h)
  | _ => none
noncomputable def enc44 (x : Int × Int × Int × Int × Int × Int × Int × Int) : List Value := [.agg #[.int .i64 x.1, .int .u64 x.2.1, .int .u64 x.2.2.1, .int .i64 x.2.2.2.1], .agg #[.int .i64 x.2.2.2.2.1, .int .u64 x.2.2.2.2.2.1, .int .u64 x.2.2.2.2.2.2.1, .int .i64 x.2.2.2.2.2.2.2]]
theorem dec44_enc {args : List Value} {a : Int × Int × Int × Int × Int × Int × Int × Int} (h : dec44 args = some a) : args = enc44 a := by
  unfold dec44 at h
  split at h
  case h_2 => cases h
  cases h; rfl
noncomputable def enr44 (y : Bool) : Value := .bool y
noncomputable def con44 : Con := Con.opt dec44 (fun x => pref_Over.f x.1 x.2.1 x.2.2.1 x.2.2.2.1 x.2.2.2.2.1 x.2.2.2.2.2.1 x.2.2.2.2.2.2.1 x.2.2.2.2.2.2.2) enr44
noncomputable def L44 : List (Nat × Con) := [(36, con36), (42, con42)]
noncomputable def dec45 : List Value → Option (Int × Int × Int × Int × Int × Int × Int × Int)
  | [.agg ⟨[.int .i64 a, .int .u64 b, .int .u64 c, .int .i64 d]⟩, .agg ⟨[.int .i64 e, .int .u64 f, .int .u64 g, .int .i64 h]⟩] => some (a, b, c, d, e, f, g, h)
  | _ => none
noncomputable def enc45 (x : Int × Int × Int × Int × Int × Int × Int × Int) : List Value := [.agg #[.int .i64 x.1, .int .u64 x.2.1, .int .u64 x.2.2.1, .int .i64 x.2.2.2.1], .agg #[.int .i64 x.2.2.2.2.1, .int .u64 x.2.2.2.2.2.1, .int .u64 x.2.2.2.2.2.2.1, .int .i64 x.2.2.2.2.2.2.2]]
theorem dec45_enc {args : List Value} {a : Int × Int × Int × Int × Int × Int × Int × Int} (h : dec45 args = some a) : args = enc45 a := by
  unfold dec45 at h
  split at h
  case h_2 => cases h
  cases h; rfl
noncomputable def enr45 (y : Bool) : Value := .bool y
noncomputable def con45 : Con := Con.opt dec45 (fun x => pref_Less.f x.1 x.2.1 x.2.2.1 x.2.2.2.1 x.2.2.2.2.1 x.2.2.2.2.2.1 x.2.2.2.2.2.2.1 x.2.2.2.2.2.2.2) enr45
noncomputable def L45 : List (Nat × Con) := [(62, con62), (30, con30)]
noncomputable def dec46 : List Value → Option (Int × Int × Int)
  | [.agg ⟨[.int .i64 a, .int .u64 b, .int .u64 c]⟩] => some (a, b, c)
  | _ => none
noncomputable def enc46 (x : Int × Int × Int) : List Value := [.agg #[.int .i64 x.1, .int .u64 x.2.1, .int .u64 x.2.2]]
theorem dec46_enc {args : List Value} {a : Int × Int × Int} (h : dec46 args = some a) : args = enc46 a := by
  unfold dec46 at h
  split at h
  case h_2 => cases h
  cases h; rfl
noncomputable def enr46 (y : Int × Int × Int × Bool) : Value := .tuple #[.agg #[.int .i64 y.1, .int .u64 y.2.1, .int .u64 y.2.2.1], .bool y.2.2.2]
noncomputable def con46 : Con := Con.opt dec46 (fun x => gleberef1_Next.f x.1 x.2.1 x.2.2) enr46
noncomputable def L46 : List (Nat × Con) := [(73, con73), (64, con64)]
noncomputable def dec25 : List Value → Option (ByteArray)
  | [.string a] => some (a)
  | _ => none
noncomputable def enc25 (x : ByteArray) : List Value := [.string x]
theorem dec25_enc {args : List Value} {a : ByteArray} (h : dec25 args = some a) : args = enc25 a := by
  unfold dec25 at h
  split at h
  case h_2 => cases h
  cases h; rfl
noncomputable def enr25 (y : Int × Int × Int × Bool) : Value := .tuple #[.agg #[.int .i64 y.1, .int .u64 y.2.1, .int .u64 y.2.2.1], .bool y.2.2.2]
noncomputable def con25 : Con := Con.opt dec25 (fun x => addr_Parse.f x) enr25
noncomputable def L25 : List (Nat × Con) := [(51, con51), (52, con52), (53, con53)]
noncomputable def dec33 : List Value → Option (ByteArray)
  | [.string a] => some (a)
  | _ => none
noncomputable def enc33 (x : ByteArray) : List Value := [.string x]
theorem dec33_enc {args : List Value} {a : ByteArray} (h : dec33 args = some a) : args = enc33 a := by
  unfold dec33 at h
  split at h
  case h_2 => cases h
  cases h; rfl
noncomputable def enr33 (y : Int × Int × Int × Int × Bool) : Value := .tuple #[.agg #[.int .i64 y.1, .int .u64 y.2.1, .int .u64 y.2.2.1, .int .i64 y.2.2.2.1], .bool y.2.2.2.2]
noncomputable def con33 : Con := Con.opt dec33 (fun x => pref_Parse.f x) enr33
noncomputable def L33 : List (Nat × Con) := [(60, con60), (25, con25), (61, con61), (62, con62)]
noncomputable def dec38 : List Value → Option (Int × Int × Int × Int)
  | [.agg ⟨[.int .i64 a, .int .u64 b, .int .u64 c, .int .i64 d]⟩] => some (a, b, c, d)
  | _ => none
noncomputable def enc38 (x : Int × Int × Int × Int) : List Value := [.agg #[.int .i64 x.1, .int .u64 x.2.1, .int .u64 x.2.2.1, .int .i64 x.2.2.2]]
theorem dec38_enc {args : List Value} {a : Int × Int × Int × Int} (h : dec38 args = some a) : args = enc38 a := by
  unfold dec38 at h
  split at h
  case h_2 => cases h
  cases h; rfl
noncomputable def enr38 (y : ByteArray) : Value := .string y
noncomputable def con38 : Con := Con.opt dec38 (fun x => pref_Print.f x.1 x.2.1 x.2.2.1 x.2.2.2) enr38
noncomputable def L38 : List (Nat × Con) := [(62, con62), (26, con26), (54, con54)]

end Go.Proofs.YtfnacgojmdbjmaaDoor
end

section
/- The conditions of the functions without loops, reckoned by the kernel. -/
namespace Go.Proofs.YtfnacgojmdbjmaaDoor
open Go.Det Go.RowKit Go.Proofs.YtfnacgojmdbjmaaDoor.PPH Go.Proofs.YtfnacgojmdbjmaaDoorW.PrintWords
set_option maxRecDepth 100000

theorem vx69 (a : Int) (Q : Value → Prop) : codeW Tryd.prog (cwC L69) (bodyOf Tryd.f69) (inTab [.int .i64 a] 8) (birth [] 64) (retW Tryd.prog Tryd.f69 fun v _ => Q v) = (bifW (cdec (a = 4)) (Q (Value.int IntKind.i64 32)) (bifW (cdec (a = 6)) (Q (Value.int IntKind.i64 128)) (Q (Value.int IntKind.i64 0)))) := by kernel_rfl
theorem vx70 (a : Int) (b : Int) (c : Int) (d : Int) (Q : Value → Prop) : codeW Tryd.prog (cwC L70) (bodyOf Tryd.f70) (inTab [.agg #[.int .u64 a, .int .u64 b], .agg #[.int .u64 c, .int .u64 d]] 8) (birth [] 64) (retW Tryd.prog Tryd.f70 fun v _ => Q v) = (Q (Value.agg #[Value.int IntKind.u64 (andI IntKind.u64 a c), Value.int IntKind.u64 (andI IntKind.u64 b d)])) := by kernel_rfl
theorem vx72 (a : Int) (b : Int) (Q : Value → Prop) : codeW Tryd.prog (cwC L72) (bodyOf Tryd.f72) (inTab [.agg #[.int .u64 a, .int .u64 b]] 8) (birth [] 64) (retW Tryd.prog Tryd.f72 fun v _ => Q v) = (Q (Value.agg #[Value.int IntKind.u64 (IntKind.wrap IntKind.u64 (↑(BitVec.toNat (BitVec.ofInt 64 (if Bool.false = Bool.true then -1 else if Bool.false = Bool.true then 2 ^ (64 - 1) - 1 else 2 ^ 64 - 1) ^^^ BitVec.ofInt 64 a)) : Int)), Value.int IntKind.u64 (IntKind.wrap IntKind.u64 (↑(BitVec.toNat (BitVec.ofInt 64 (if Bool.false = Bool.true then -1 else if Bool.false = Bool.true then 2 ^ (64 - 1) - 1 else 2 ^ 64 - 1) ^^^ BitVec.ofInt 64 b)) : Int))])) := by kernel_rfl
theorem vx64 (a : Int) (b : Int) (c : Int) (Q : Value → Prop) : codeW Tryd.prog (cwC L64) (bodyOf Tryd.f64) (inTab [.agg #[.int .i64 a, .int .u64 b, .int .u64 c]] 8) (birth [] 64) (retW Tryd.prog Tryd.f64 fun v _ => Q v) = (bifW (cdec (a = 6)) (Q (Value.bool Bool.true)) (bifW (cdec (a = 4)) (bifW (cdec (b = 0)) (Q (Value.bool (cdec (c < 4294967296)))) (Q (Value.bool Bool.false))) (Q (Value.bool Bool.false)))) := by kernel_rfl
theorem vx73 (a : Int) (b : Int) (c : Int) (d : Int) (Q : Value → Prop) : codeW Tryd.prog (cwC L73) (bodyOf Tryd.f73) (inTab [.agg #[.int .u64 a, .int .u64 b], .agg #[.int .u64 c, .int .u64 d]] 8) (birth [] 64) (retW Tryd.prog Tryd.f73 fun v _ => Q v) = (bifW (cdec (IntKind.wrap IntKind.u64 (b + d) < b)) (bifW (cdec (IntKind.wrap IntKind.u64 (a + c) < a)) (Q (Value.tuple #[Value.agg #[Value.int IntKind.u64 0, Value.int IntKind.u64 0], Value.bool Bool.false])) (bifW (cdec (IntKind.wrap IntKind.u64 (IntKind.wrap IntKind.u64 (a + c) + 1) < IntKind.wrap IntKind.u64 (a + c))) (Q (Value.tuple #[Value.agg #[Value.int IntKind.u64 0, Value.int IntKind.u64 0], Value.bool Bool.false])) (Q (Value.tuple #[Value.agg #[Value.int IntKind.u64 (IntKind.wrap IntKind.u64 (IntKind.wrap IntKind.u64 (a + c) + 1)), Value.int IntKind.u64 (IntKind.wrap IntKind.u64 (b + d))], Value.bool Bool.true])))) (bifW (cdec (IntKind.wrap IntKind.u64 (a + c) < a)) (Q (Value.tuple #[Value.agg #[Value.int IntKind.u64 0, Value.int IntKind.u64 0], Value.bool Bool.false])) (bifW (cdec (IntKind.wrap IntKind.u64 (IntKind.wrap IntKind.u64 (a + c) + 0) < IntKind.wrap IntKind.u64 (a + c))) (Q (Value.tuple #[Value.agg #[Value.int IntKind.u64 0, Value.int IntKind.u64 0], Value.bool Bool.false])) (Q (Value.tuple #[Value.agg #[Value.int IntKind.u64 (IntKind.wrap IntKind.u64 (IntKind.wrap IntKind.u64 (a + c) + 0)), Value.int IntKind.u64 (IntKind.wrap IntKind.u64 (b + d))], Value.bool Bool.true]))))) := by kernel_rfl
theorem vx43 (a : Int) (b : Int) (c : Int) (d : Int) (Q : Value → Prop) : codeW Tryd.prog (cwC L43) (bodyOf Tryd.f43) (inTab [.agg #[.int .u64 a, .int .u64 b], .agg #[.int .u64 c, .int .u64 d]] 8) (birth [] 64) (retW Tryd.prog Tryd.f43 fun v _ => Q v) = (bifW (cdec (a < c)) (Q (Value.bool Bool.true)) (bifW (cdec (a = c)) (Q (Value.bool (cdec (b < d)))) (Q (Value.bool Bool.false)))) := by kernel_rfl
theorem vx40 (a : Int) (b : Int) (c : Int) (d : Int) (Q : Value → Prop) : codeW Tryd.prog (cwC L40) (bodyOf Tryd.f40) (inTab [.int .i64 a, .int .u64 b, .int .u64 c, .int .i64 d] 8) (birth [] 64) (retW Tryd.prog Tryd.f40 fun v _ => Q v) = ((∃ x0 : Int × Int × Int, ((glebelaw2_Addr.f 300 a b c = Option.some x0) ∧ (∃ x1 : Int, ((gleberef1_Bits.f (Prod.fst x0) = Option.some x1) ∧ ((IntKind.wrap IntKind.i64 (x1 + 1) ≠ 0) ∧ (∃ x2 : Int, ((gleberef1_Bits.f (Prod.fst x0) = Option.some x2) ∧ (∃ x3 : Int × Int, ((gleberef1_Mask.f 300 (IntKind.wrap IntKind.i64 (IntKind.wrap IntKind.i64 (128 - x2) + Int.tmod (andI IntKind.i64 d 255) (IntKind.wrap IntKind.i64 (x1 + 1)))) = Option.some x3) ∧ (∃ x4 : Int, ((gleberef1_Bits.f (Prod.fst x0) = Option.some x4) ∧ (∃ x5 : Int × Int, ((gleberef1_Mask.f 300 (IntKind.wrap IntKind.i64 (128 - x4)) = Option.some x5) ∧ (∃ x6 : Int × Int, ((gleberef1_Not.f (Prod.fst x5) (Prod.snd x5) = Option.some x6) ∧ (∃ x7 : Int × Int, ((gleberef1_And.f (Prod.fst x3) (Prod.snd x3) (Prod.fst x6) (Prod.snd x6) = Option.some x7) ∧ (∃ x8 : Int × Int, ((gleberef1_And.f (Prod.fst (Prod.snd x0)) (Prod.snd (Prod.snd x0)) (Prod.fst x7) (Prod.snd x7) = Option.some x8) ∧ Q (Value.agg #[Value.int IntKind.i64 (Prod.fst x0), Value.int IntKind.u64 (Prod.fst x8), Value.int IntKind.u64 (Prod.snd x8), Value.int IntKind.i64 (Int.tmod (andI IntKind.i64 d 255) (IntKind.wrap IntKind.i64 (x1 + 1)))]))))))))))))))))))))) := by kernel_rfl
theorem vx20 (a : Int) (b : Int) (c : Int) (d : Int) (Q : Value → Prop) : codeW Tryd.prog (cwC L20) (bodyOf Tryd.f20) (inTab [.agg #[.int .u64 a, .int .u64 b], .agg #[.int .u64 c, .int .u64 d]] 8) (birth [] 64) (retW Tryd.prog Tryd.f20 fun v _ => Q v) = (Q (Value.agg #[Value.int IntKind.u64 (andI IntKind.u64 a c), Value.int IntKind.u64 (andI IntKind.u64 b d)])) := by kernel_rfl
theorem vx21 (a : Int) (b : Int) (c : Int) (d : Int) (Q : Value → Prop) : codeW Tryd.prog (cwC L21) (bodyOf Tryd.f21) (inTab [.agg #[.int .u64 a, .int .u64 b], .agg #[.int .u64 c, .int .u64 d]] 8) (birth [] 64) (retW Tryd.prog Tryd.f21 fun v _ => Q v) = (Q (Value.agg #[Value.int IntKind.u64 (orI IntKind.u64 a c), Value.int IntKind.u64 (orI IntKind.u64 b d)])) := by kernel_rfl
theorem vx24 (a : Int) (b : Int) (Q : Value → Prop) : codeW Tryd.prog (cwC L24) (bodyOf Tryd.f24) (inTab [.agg #[.int .u64 a, .int .u64 b]] 8) (birth [] 64) (retW Tryd.prog Tryd.f24 fun v _ => Q v) = (Q (Value.agg #[Value.int IntKind.u64 (IntKind.wrap IntKind.u64 (↑(BitVec.toNat (BitVec.ofInt 64 (if Bool.false = Bool.true then -1 else if Bool.false = Bool.true then 2 ^ (64 - 1) - 1 else 2 ^ 64 - 1) ^^^ BitVec.ofInt 64 a)) : Int)), Value.int IntKind.u64 (IntKind.wrap IntKind.u64 (↑(BitVec.toNat (BitVec.ofInt 64 (if Bool.false = Bool.true then -1 else if Bool.false = Bool.true then 2 ^ (64 - 1) - 1 else 2 ^ 64 - 1) ^^^ BitVec.ofInt 64 b)) : Int))])) := by kernel_rfl
theorem vx59 (a : Int) (Q : Value → Prop) : codeW Tryd.prog (cwC L59) (bodyOf Tryd.f59) (inTab [.int .i64 a] 8) (birth [] 64) (retW Tryd.prog Tryd.f59 fun v _ => Q v) = (bifW (cdec (a = 4)) (Q (Value.int IntKind.i64 32)) (bifW (cdec (a = 6)) (Q (Value.int IntKind.i64 128)) (Q (Value.int IntKind.i64 0)))) := by kernel_rfl
theorem vx19 (a : Int) (Q : Value → Prop) : codeW Tryd.prog (cwC L19) (bodyOf Tryd.f19) (inTab [.int .i64 a] 8) (birth [] 64) (retW Tryd.prog Tryd.f19 fun v _ => Q v) = ((∃ x0 : Int, ((quad_high.f a = Option.some x0) ∧ (∃ x1 : Int, ((quad_high.f (IntKind.wrap IntKind.i64 ((if 128 < a then 128 else a) - 64)) = Option.some x1) ∧ Q (Value.agg #[Value.int IntKind.u64 x0, Value.int IntKind.u64 x1])))))) := by kernel_rfl
theorem vx63 (a : Int) (b : Int) (Q : Value → Prop) : codeW Tryd.prog (cwC L63) (bodyOf Tryd.f63) (inTab [.int .i64 a, .int .i64 b] 8) (birth [] 64) (retW Tryd.prog Tryd.f63 fun v _ => Q v) = ((∃ x0 : Int, ((addr_Bits.f a = Option.some x0) ∧ (∃ x1 : Int × Int, ((quad_Mask.f (IntKind.wrap IntKind.i64 (IntKind.wrap IntKind.i64 (128 - x0) + b)) = Option.some x1) ∧ Q (Value.agg #[Value.int IntKind.u64 (Prod.fst x1), Value.int IntKind.u64 (Prod.snd x1)])))))) := by kernel_rfl
theorem vx62 (a : Int) (b : Int) (c : Int) (d : Int) (Q : Value → Prop) : codeW Tryd.prog (cwC L62) (bodyOf Tryd.f62) (inTab [.agg #[.int .i64 a, .int .u64 b, .int .u64 c, .int .i64 d]] 8) (birth [] 64) (retW Tryd.prog Tryd.f62 fun v _ => Q v) = ((∃ x0 : Bool, ((okF a b c = Option.some x0) ∧ bifW (!x0) (Q (Value.bool Bool.false)) (bifW (cdec (d < 0)) (Q (Value.bool Bool.false)) ((∃ x1 : Int, ((addr_Bits.f a = Option.some x1) ∧ bifW (cdec (x1 < d)) (Q (Value.bool Bool.false)) ((∃ x2 : Int × Int, ((pref_mask.f a d = Option.some x2) ∧ (∃ x3 : Int × Int, ((quad_Not.f (Prod.fst x2) (Prod.snd x2) = Option.some x3) ∧ (∃ x4 : Int × Int, ((quad_And.f b c (Prod.fst x3) (Prod.snd x3) = Option.some x4) ∧ Q (Value.bool (cdec (Prod.fst x4 = 0) && (cdec (Prod.snd x4 = 0) && Bool.true))))))))))))))))) := by kernel_rfl
theorem vx37 (a : Int) (b : Int) (c : Int) (d : Int) (Q : Value → Prop) : codeW Tryd.prog (cwC L37) (bodyOf Tryd.f37) (inTab [.agg #[.int .i64 a, .int .u64 b, .int .u64 c, .int .i64 d]] 8) (birth [] 64) (retW Tryd.prog Tryd.f37 fun v _ => Q v) = ((∃ x0 : Bool, ((pref_Ok.f a b c d = Option.some x0) ∧ bifW (!x0) (Q (Value.agg #[Value.int IntKind.i64 0, Value.int IntKind.u64 0, Value.int IntKind.u64 0])) ((∃ x1 : Int, ((addr_Bits.f a = Option.some x1) ∧ (∃ x2 : Int × Int, ((quad_Mask.f (IntKind.wrap IntKind.i64 (128 - x1)) = Option.some x2) ∧ (∃ x3 : Int × Int, ((pref_mask.f a d = Option.some x3) ∧ (∃ x4 : Int × Int, ((quad_Not.f (Prod.fst x3) (Prod.snd x3) = Option.some x4) ∧ (∃ x5 : Int × Int, ((quad_Not.f (Prod.fst x2) (Prod.snd x2) = Option.some x5) ∧ (∃ x6 : Int × Int, ((quad_And.f (Prod.fst x4) (Prod.snd x4) (Prod.fst x5) (Prod.snd x5) = Option.some x6) ∧ (∃ x7 : Int × Int, ((quad_Or.f b c (Prod.fst x6) (Prod.snd x6) = Option.some x7) ∧ Q (Value.agg #[Value.int IntKind.i64 a, Value.int IntKind.u64 (Prod.fst x7), Value.int IntKind.u64 (Prod.snd x7)]))))))))))))))))))) := by kernel_rfl
theorem vx22 (a : Int) (b : Int) (c : Int) (d : Int) (Q : Value → Prop) : codeW Tryd.prog (cwC L22) (bodyOf Tryd.f22) (inTab [.agg #[.int .u64 a, .int .u64 b], .agg #[.int .u64 c, .int .u64 d]] 8) (birth [] 64) (retW Tryd.prog Tryd.f22 fun v _ => Q v) = (bifW (cdec (a < c)) (Q (Value.bool Bool.true)) (bifW (cdec (a = c)) (Q (Value.bool (cdec (b < d)))) (Q (Value.bool Bool.false)))) := by kernel_rfl
theorem vx30 (a : Int) (b : Int) (c : Int) (d : Int) (e : Int) (f : Int) (Q : Value → Prop) : codeW Tryd.prog (cwC L30) (bodyOf Tryd.f30) (inTab [.agg #[.int .i64 a, .int .u64 b, .int .u64 c], .agg #[.int .i64 d, .int .u64 e, .int .u64 f]] 8) (birth [] 64) (retW Tryd.prog Tryd.f30 fun v _ => Q v) = (bifW (cdec (a < d)) (Q (Value.bool Bool.true)) (bifW (cdec (a = d)) ((∃ x0 : Bool, ((quad_Less.f b c e f = Option.some x0) ∧ Q (Value.bool x0)))) (Q (Value.bool Bool.false)))) := by kernel_rfl
theorem vx42 (a : Int) (b : Int) (c : Int) (d : Int) (e : Int) (f : Int) (g : Int) (Q : Value → Prop) : codeW Tryd.prog (cwC L42) (bodyOf Tryd.f42) (inTab [.agg #[.int .i64 a, .int .u64 b, .int .u64 c, .int .i64 d], .agg #[.int .i64 e, .int .u64 f, .int .u64 g]] 8) (birth [] 64) (retW Tryd.prog Tryd.f42 fun v _ => Q v) = ((∃ x0 : Bool, ((pref_Ok.f a b c d = Option.some x0) ∧ bifW (x0) ((∃ x1 : Bool, ((okF e f g = Option.some x1) ∧ bifW (x1) (bifW (cdec (e = a)) ((∃ x2 : Int × Int, ((pref_mask.f a d = Option.some x2) ∧ (∃ x3 : Int × Int, ((quad_And.f f g (Prod.fst x2) (Prod.snd x2) = Option.some x3) ∧ Q (Value.bool (cdec (Prod.fst x3 = b) && (cdec (Prod.snd x3 = c) && Bool.true)))))))) (Q (Value.bool Bool.false))) (Q (Value.bool Bool.false))))) (Q (Value.bool Bool.false))))) := by kernel_rfl
theorem vx36 (a : Int) (b : Int) (c : Int) (d : Int) (Q : Value → Prop) : codeW Tryd.prog (cwC L36) (bodyOf Tryd.f36) (inTab [.agg #[.int .i64 a, .int .u64 b, .int .u64 c, .int .i64 d]] 8) (birth [] 64) (retW Tryd.prog Tryd.f36 fun v _ => Q v) = ((∃ x0 : Bool, ((pref_Ok.f a b c d = Option.some x0) ∧ bifW (!x0) (Q (Value.agg #[Value.int IntKind.i64 0, Value.int IntKind.u64 0, Value.int IntKind.u64 0])) (Q (Value.agg #[Value.int IntKind.i64 a, Value.int IntKind.u64 b, Value.int IntKind.u64 c]))))) := by kernel_rfl
theorem vx44 (a : Int) (b : Int) (c : Int) (d : Int) (e : Int) (f : Int) (g : Int) (h : Int) (Q : Value → Prop) : codeW Tryd.prog (cwC L44) (bodyOf Tryd.f44) (inTab [.agg #[.int .i64 a, .int .u64 b, .int .u64 c, .int .i64 d], .agg #[.int .i64 e, .int .u64 f, .int .u64 g, .int .i64 h]] 8) (birth [] 64) (retW Tryd.prog Tryd.f44 fun v _ => Q v) = ((∃ x0 : Int × Int × Int, ((pref_First.f e f g h = Option.some x0) ∧ (∃ x1 : Bool, ((pref_Has.f a b c d (Prod.fst x0) (Prod.fst (Prod.snd x0)) (Prod.snd (Prod.snd x0)) = Option.some x1) ∧ bifW (x1) (Q (Value.bool Bool.true)) ((∃ x2 : Int × Int × Int, ((pref_First.f a b c d = Option.some x2) ∧ (∃ x3 : Bool, ((pref_Has.f e f g h (Prod.fst x2) (Prod.fst (Prod.snd x2)) (Prod.snd (Prod.snd x2)) = Option.some x3) ∧ Q (Value.bool x3))))))))))) := by kernel_rfl
theorem vx45 (a : Int) (b : Int) (c : Int) (d : Int) (e : Int) (f : Int) (g : Int) (h : Int) (Q : Value → Prop) : codeW Tryd.prog (cwC L45) (bodyOf Tryd.f45) (inTab [.agg #[.int .i64 a, .int .u64 b, .int .u64 c, .int .i64 d], .agg #[.int .i64 e, .int .u64 f, .int .u64 g, .int .i64 h]] 8) (birth [] 64) (retW Tryd.prog Tryd.f45 fun v _ => Q v) = ((∃ x0 : Bool, ((pref_Ok.f a b c d = Option.some x0) ∧ bifW (!x0) (Q (Value.bool Bool.false)) ((∃ x1 : Bool, ((pref_Ok.f e f g h = Option.some x1) ∧ bifW (!x1) (Q (Value.bool Bool.false)) ((∃ x2 : Bool, ((addr_Less.f a b c e f g = Option.some x2) ∧ bifW (x2) (Q (Value.bool Bool.true)) (bifW (cdec (a = e) && (cdec (b = f) && (cdec (c = g) && Bool.true))) (Q (Value.bool (cdec (d < h)))) (Q (Value.bool Bool.false)))))))))))) := by kernel_rfl
theorem vx46 (a : Int) (b : Int) (c : Int) (Q : Value → Prop) : codeW Tryd.prog (cwC L46) (bodyOf Tryd.f46) (inTab [.agg #[.int .i64 a, .int .u64 b, .int .u64 c]] 8) (birth [] 64) (retW Tryd.prog Tryd.f46 fun v _ => Q v) = ((∃ x0 : Int × Int × Bool, ((gleberef1_Add.f b c 0 1 = Option.some x0) ∧ (∃ x1 : Bool, ((gleberef1_Ok.f a b c = Option.some x1) ∧ bifW (!x1) (Q (Value.tuple #[Value.agg #[Value.int IntKind.i64 0, Value.int IntKind.u64 0, Value.int IntKind.u64 0], Value.bool Bool.false])) (bifW (!Prod.snd (Prod.snd x0)) (Q (Value.tuple #[Value.agg #[Value.int IntKind.i64 0, Value.int IntKind.u64 0, Value.int IntKind.u64 0], Value.bool Bool.false])) ((∃ x2 : Bool, ((gleberef1_Ok.f a (Prod.fst x0) (Prod.fst (Prod.snd x0)) = Option.some x2) ∧ bifW (!x2) (Q (Value.tuple #[Value.agg #[Value.int IntKind.i64 0, Value.int IntKind.u64 0, Value.int IntKind.u64 0], Value.bool Bool.false])) (Q (Value.tuple #[Value.agg #[Value.int IntKind.i64 a, Value.int IntKind.u64 (Prod.fst x0), Value.int IntKind.u64 (Prod.fst (Prod.snd x0))], Value.bool Bool.true]))))))))))) := by kernel_rfl
theorem vx25 (a : ByteArray) (Q : Value → Prop) : codeW Tryd.prog (cwC L25) (bodyOf Tryd.f25) (inTab [.string a] 8) (birth [] 64) (retW Tryd.prog Tryd.f25 fun v _ => Q v) = ((∃ x0 : Bool, ((conF a { data := #[58] } = Option.some x0) ∧ bifW (x0) ((∃ x1 : Int × Int × Int × Bool, ((sixF a = Option.some x1) ∧ Q (Value.tuple #[Value.agg #[Value.int IntKind.i64 (Prod.fst x1), Value.int IntKind.u64 (Prod.fst (Prod.snd x1)), Value.int IntKind.u64 (Prod.fst (Prod.snd (Prod.snd x1)))], Value.bool (Prod.snd (Prod.snd (Prod.snd x1)))])))) ((∃ x1 : Int × Bool, ((addr_four.f 1000 a = Option.some x1) ∧ bifW (!Prod.snd x1) (Q (Value.tuple #[Value.agg #[Value.int IntKind.i64 0, Value.int IntKind.u64 0, Value.int IntKind.u64 0], Value.bool Bool.false])) (Q (Value.tuple #[Value.agg #[Value.int IntKind.i64 4, Value.int IntKind.u64 0, Value.int IntKind.u64 (Prod.fst x1)], Value.bool Bool.true])))))))) := by kernel_rfl
theorem vx33 (a : ByteArray) (Q : Value → Prop) : codeW Tryd.prog (cwC L33) (bodyOf Tryd.f33) (inTab [.string a] 8) (birth [] 64) (retW Tryd.prog Tryd.f33 fun v _ => Q v) = ((∃ x0 : ByteArray × ByteArray × Bool, ((cutF a { data := #[47] } = Option.some x0) ∧ (∃ x1 : Int × Int × Int × Bool, ((addr_Parse.f (Prod.fst x0) = Option.some x1) ∧ (∃ x2 : Int × Bool, ((numF (Prod.fst (Prod.snd x0)) 128 = Option.some x2) ∧ bifW (!Prod.snd (Prod.snd x0)) (Q (Value.tuple #[Value.agg #[Value.int IntKind.i64 0, Value.int IntKind.u64 0, Value.int IntKind.u64 0, Value.int IntKind.i64 0], Value.bool Bool.false])) (bifW (!Prod.snd (Prod.snd (Prod.snd x1))) (Q (Value.tuple #[Value.agg #[Value.int IntKind.i64 0, Value.int IntKind.u64 0, Value.int IntKind.u64 0, Value.int IntKind.i64 0], Value.bool Bool.false])) (bifW (!Prod.snd x2) (Q (Value.tuple #[Value.agg #[Value.int IntKind.i64 0, Value.int IntKind.u64 0, Value.int IntKind.u64 0, Value.int IntKind.i64 0], Value.bool Bool.false])) ((∃ x3 : Bool, ((pref_Ok.f (Prod.fst x1) (Prod.fst (Prod.snd x1)) (Prod.fst (Prod.snd (Prod.snd x1))) (IntKind.wrap IntKind.i64 (andI IntKind.u64 (Prod.fst x2) 255)) = Option.some x3) ∧ bifW (!x3) (Q (Value.tuple #[Value.agg #[Value.int IntKind.i64 0, Value.int IntKind.u64 0, Value.int IntKind.u64 0, Value.int IntKind.i64 0], Value.bool Bool.false])) (Q (Value.tuple #[Value.agg #[Value.int IntKind.i64 (Prod.fst x1), Value.int IntKind.u64 (Prod.fst (Prod.snd x1)), Value.int IntKind.u64 (Prod.fst (Prod.snd (Prod.snd x1))), Value.int IntKind.i64 (IntKind.wrap IntKind.i64 (andI IntKind.u64 (Prod.fst x2) 255))], Value.bool Bool.true])))))))))))))) := by kernel_rfl
theorem vx38 (a : Int) (b : Int) (c : Int) (d : Int) (Q : Value → Prop) : codeW Tryd.prog (cwC L38) (bodyOf Tryd.f38) (inTab [.agg #[.int .i64 a, .int .u64 b, .int .u64 c, .int .i64 d]] 8) (birth [] 64) (retW Tryd.prog Tryd.f38 fun v _ => Q v) = ((∃ x0 : Bool, ((pref_Ok.f a b c d = Option.some x0) ∧ bifW (!x0) (Q (Value.string { data := #[] })) ((∃ x1 : ByteArray, ((prF a b c = Option.some x1) ∧ ((ByteArray.size x1 + ByteArray.size { data := #[47] } ≤ 9223372036854775807) ∧ (∃ x2 : ByteArray, ((txtF (IntKind.wrap IntKind.u64 d) = Option.some x2) ∧ ((ByteArray.size (x1 ++ { data := #[47] }) + ByteArray.size x2 ≤ 9223372036854775807) ∧ Q (Value.string (x1 ++ { data := #[47] } ++ x2)))))))))))) := by kernel_rfl

end Go.Proofs.YtfnacgojmdbjmaaDoor
end

section
/- The functions without loops come to what they are told to be. No conditions. -/
namespace Go.Proofs.YtfnacgojmdbjmaaDoor
open Go.Det Go.RowKit Go.Proofs.YtfnacgojmdbjmaaDoor.PPH Go.Proofs.YtfnacgojmdbjmaaDoorW.PrintWords
set_option maxRecDepth 100000

theorem andI_eq (k : IntKind) (a b : Int) : andI k a b = Go.bits .and k a b := rfl
theorem orI_eq (k : IntKind) (a b : Int) : orI k a b = Go.bits .or k a b := rfl
theorem wrapE (n : Int) : IntKind.wrap IntKind.i64 n = wrap64 n := by rw [IntKind.wrap_i64, wrap64]
theorem wx69 (x : Int) (y : Int) (hx : gleberef1_Bits.f x = some y) : codeW Tryd.prog (cwC L69) (bodyOf Tryd.f69) (inTab (enc69 x) 8) (birth [] 64) (retW Tryd.prog Tryd.f69 fun v' _ => v' = enr69 y) := by
  refine (vx69 x _).mpr ?_
  unfold gleberef1_Bits.f at hx
  try simp only [wrapE, andI_eq, orI_eq]
  repeat' first
    | (obtain ⟨y, hy, hx⟩ := Option.bind_eq_some_iff.1 hx; refine ⟨y, hy, ?_⟩)
    | ((refine bifW_c (fun hc => ?_) (fun hc => ?_)) <;> first | rw [if_pos hc] at hx | rw [if_neg hc] at hx | rw [if_pos (Decidable.not_not.1 hc)] at hx)
    | ((refine bifW_n (fun hc => ?_) (fun hc => ?_)) <;> first | rw [if_pos hc] at hx | rw [if_neg hc] at hx)
    | ((refine bifW_b (fun hc => ?_) (fun hc => ?_)) <;> first | rw [if_pos hc] at hx | rw [if_neg hc] at hx)
    | (split at hx <;> first | (cases hx; done) | (refine And.intro (by assumption) ?_))
    | (cases hx; rfl)
    | (cases hx; simp only [enr69, cdec_eq, cdec_beq, Bool.and_true])
theorem om69 {W : World} (hW : GoodW W) : OwnAll Tryd.prog W 6 69 con69.own :=
  con_opt enc69 (Laying.empty hW.size) hW.size (by decide) dt_mixed (ownsAll_nil W 6) Tryd.func69 (fn := Tryd.f69) (c := bodyOf Tryd.f69) (by kernel_rfl) (by kernel_rfl) (fun _ _ h => dec69_enc h) (fun a => ⟨rfl, (by kernel_rfl)⟩) (fun b => rfl) wx69
theorem wx70 (x : Int × Int × Int × Int) (y : Int × Int) (hx : gleberef1_And.f x.1 x.2.1 x.2.2.1 x.2.2.2 = some y) : codeW Tryd.prog (cwC L70) (bodyOf Tryd.f70) (inTab (enc70 x) 8) (birth [] 64) (retW Tryd.prog Tryd.f70 fun v' _ => v' = enr70 y) := by
  obtain ⟨a, b, c, d⟩ := x
  refine (vx70 a b c d _).mpr ?_
  unfold gleberef1_And.f at hx
  try simp only [wrapE, andI_eq, orI_eq]
  repeat' first
    | (obtain ⟨y, hy, hx⟩ := Option.bind_eq_some_iff.1 hx; refine ⟨y, hy, ?_⟩)
    | ((refine bifW_c (fun hc => ?_) (fun hc => ?_)) <;> first | rw [if_pos hc] at hx | rw [if_neg hc] at hx | rw [if_pos (Decidable.not_not.1 hc)] at hx)
    | ((refine bifW_n (fun hc => ?_) (fun hc => ?_)) <;> first | rw [if_pos hc] at hx | rw [if_neg hc] at hx)
    | ((refine bifW_b (fun hc => ?_) (fun hc => ?_)) <;> first | rw [if_pos hc] at hx | rw [if_neg hc] at hx)
    | (split at hx <;> first | (cases hx; done) | (refine And.intro (by assumption) ?_))
    | (cases hx; rfl)
    | (cases hx; simp only [enr70, cdec_eq, cdec_beq, Bool.and_true])
theorem om70 {W : World} (hW : GoodW W) : OwnAll Tryd.prog W 6 70 con70.own :=
  con_opt enc70 (Laying.empty hW.size) hW.size (by decide) dt_mixed (ownsAll_nil W 6) Tryd.func70 (fn := Tryd.f70) (c := bodyOf Tryd.f70) (by kernel_rfl) (by kernel_rfl) (fun _ _ h => dec70_enc h) (fun a => ⟨rfl, (by kernel_rfl)⟩) (fun b => rfl) wx70
theorem wx72 (x : Int × Int) (y : Int × Int) (hx : gleberef1_Not.f x.1 x.2 = some y) : codeW Tryd.prog (cwC L72) (bodyOf Tryd.f72) (inTab (enc72 x) 8) (birth [] 64) (retW Tryd.prog Tryd.f72 fun v' _ => v' = enr72 y) := by
  obtain ⟨a, b⟩ := x
  refine (vx72 a b _).mpr ?_
  unfold gleberef1_Not.f at hx
  try simp only [wrapE, andI_eq, orI_eq]
  repeat' first
    | (obtain ⟨y, hy, hx⟩ := Option.bind_eq_some_iff.1 hx; refine ⟨y, hy, ?_⟩)
    | ((refine bifW_c (fun hc => ?_) (fun hc => ?_)) <;> first | rw [if_pos hc] at hx | rw [if_neg hc] at hx | rw [if_pos (Decidable.not_not.1 hc)] at hx)
    | ((refine bifW_n (fun hc => ?_) (fun hc => ?_)) <;> first | rw [if_pos hc] at hx | rw [if_neg hc] at hx)
    | ((refine bifW_b (fun hc => ?_) (fun hc => ?_)) <;> first | rw [if_pos hc] at hx | rw [if_neg hc] at hx)
    | (split at hx <;> first | (cases hx; done) | (refine And.intro (by assumption) ?_))
    | (cases hx; rfl)
    | (cases hx; simp only [enr72, cdec_eq, cdec_beq, Bool.and_true])
theorem om72 {W : World} (hW : GoodW W) : OwnAll Tryd.prog W 6 72 con72.own :=
  con_opt enc72 (Laying.empty hW.size) hW.size (by decide) dt_mixed (ownsAll_nil W 6) Tryd.func72 (fn := Tryd.f72) (c := bodyOf Tryd.f72) (by kernel_rfl) (by kernel_rfl) (fun _ _ h => dec72_enc h) (fun a => ⟨rfl, (by kernel_rfl)⟩) (fun b => rfl) wx72
theorem wx64 (x : Int × Int × Int) (y : Bool) (hx : gleberef1_Ok.f x.1 x.2.1 x.2.2 = some y) : codeW Tryd.prog (cwC L64) (bodyOf Tryd.f64) (inTab (enc64 x) 8) (birth [] 64) (retW Tryd.prog Tryd.f64 fun v' _ => v' = enr64 y) := by
  obtain ⟨a, b, c⟩ := x
  refine (vx64 a b c _).mpr ?_
  unfold gleberef1_Ok.f at hx
  try simp only [wrapE, andI_eq, orI_eq]
  repeat' first
    | (obtain ⟨y, hy, hx⟩ := Option.bind_eq_some_iff.1 hx; refine ⟨y, hy, ?_⟩)
    | ((refine bifW_c (fun hc => ?_) (fun hc => ?_)) <;> first | rw [if_pos hc] at hx | rw [if_neg hc] at hx | rw [if_pos (Decidable.not_not.1 hc)] at hx)
    | ((refine bifW_n (fun hc => ?_) (fun hc => ?_)) <;> first | rw [if_pos hc] at hx | rw [if_neg hc] at hx)
    | ((refine bifW_b (fun hc => ?_) (fun hc => ?_)) <;> first | rw [if_pos hc] at hx | rw [if_neg hc] at hx)
    | (split at hx <;> first | (cases hx; done) | (refine And.intro (by assumption) ?_))
    | (cases hx; rfl)
    | (cases hx; simp only [enr64, cdec_eq, cdec_beq, Bool.and_true])
theorem om64 {W : World} (hW : GoodW W) : OwnAll Tryd.prog W 6 64 con64.own :=
  con_opt enc64 (Laying.empty hW.size) hW.size (by decide) dt_mixed (ownsAll_nil W 6) Tryd.func64 (fn := Tryd.f64) (c := bodyOf Tryd.f64) (by kernel_rfl) (by kernel_rfl) (fun _ _ h => dec64_enc h) (fun a => ⟨rfl, (by kernel_rfl)⟩) (fun b => rfl) wx64
theorem wx73 (x : Int × Int × Int × Int) (y : Int × Int × Bool) (hx : gleberef1_Add.f x.1 x.2.1 x.2.2.1 x.2.2.2 = some y) : codeW Tryd.prog (cwC L73) (bodyOf Tryd.f73) (inTab (enc73 x) 8) (birth [] 64) (retW Tryd.prog Tryd.f73 fun v' _ => v' = enr73 y) := by
  obtain ⟨a, b, c, d⟩ := x
  refine (vx73 a b c d _).mpr ?_
  unfold gleberef1_Add.f at hx
  try simp only [wrapE, andI_eq, orI_eq]
  repeat' first
    | (obtain ⟨y, hy, hx⟩ := Option.bind_eq_some_iff.1 hx; refine ⟨y, hy, ?_⟩)
    | ((refine bifW_c (fun hc => ?_) (fun hc => ?_)) <;> first | rw [if_pos hc] at hx | rw [if_neg hc] at hx | rw [if_pos (Decidable.not_not.1 hc)] at hx)
    | ((refine bifW_n (fun hc => ?_) (fun hc => ?_)) <;> first | rw [if_pos hc] at hx | rw [if_neg hc] at hx)
    | ((refine bifW_b (fun hc => ?_) (fun hc => ?_)) <;> first | rw [if_pos hc] at hx | rw [if_neg hc] at hx)
    | (split at hx <;> first | (cases hx; done) | (refine And.intro (by assumption) ?_))
    | (cases hx; rfl)
    | (cases hx; simp only [enr73, cdec_eq, cdec_beq, Bool.and_true])
theorem om73 {W : World} (hW : GoodW W) : OwnAll Tryd.prog W 6 73 con73.own :=
  con_opt enc73 (Laying.empty hW.size) hW.size (by decide) dt_mixed (ownsAll_nil W 6) Tryd.func73 (fn := Tryd.f73) (c := bodyOf Tryd.f73) (by kernel_rfl) (by kernel_rfl) (fun _ _ h => dec73_enc h) (fun a => ⟨rfl, (by kernel_rfl)⟩) (fun b => rfl) wx73
theorem wx43 (x : Int × Int × Int × Int) (y : Bool) (hx : gleberef1_Less.f x.1 x.2.1 x.2.2.1 x.2.2.2 = some y) : codeW Tryd.prog (cwC L43) (bodyOf Tryd.f43) (inTab (enc43 x) 8) (birth [] 64) (retW Tryd.prog Tryd.f43 fun v' _ => v' = enr43 y) := by
  obtain ⟨a, b, c, d⟩ := x
  refine (vx43 a b c d _).mpr ?_
  unfold gleberef1_Less.f at hx
  try simp only [wrapE, andI_eq, orI_eq]
  repeat' first
    | (obtain ⟨y, hy, hx⟩ := Option.bind_eq_some_iff.1 hx; refine ⟨y, hy, ?_⟩)
    | ((refine bifW_c (fun hc => ?_) (fun hc => ?_)) <;> first | rw [if_pos hc] at hx | rw [if_neg hc] at hx | rw [if_pos (Decidable.not_not.1 hc)] at hx)
    | ((refine bifW_n (fun hc => ?_) (fun hc => ?_)) <;> first | rw [if_pos hc] at hx | rw [if_neg hc] at hx)
    | ((refine bifW_b (fun hc => ?_) (fun hc => ?_)) <;> first | rw [if_pos hc] at hx | rw [if_neg hc] at hx)
    | (split at hx <;> first | (cases hx; done) | (refine And.intro (by assumption) ?_))
    | (cases hx; rfl)
    | (cases hx; simp only [enr43, cdec_eq, cdec_beq, Bool.and_true])
theorem om43 {W : World} (hW : GoodW W) : OwnAll Tryd.prog W 6 43 con43.own :=
  con_opt enc43 (Laying.empty hW.size) hW.size (by decide) dt_mixed (ownsAll_nil W 6) Tryd.func43 (fn := Tryd.f43) (c := bodyOf Tryd.f43) (by kernel_rfl) (by kernel_rfl) (fun _ _ h => dec43_enc h) (fun a => ⟨rfl, (by kernel_rfl)⟩) (fun b => rfl) wx43
theorem wx40 (x : Int × Int × Int × Int) (y : Int × Int × Int × Int) (hx : glebelaw3_Pre.f x.1 x.2.1 x.2.2.1 x.2.2.2 = some y) : codeW Tryd.prog (cwC L40) (bodyOf Tryd.f40) (inTab (enc40 x) 8) (birth [] 64) (retW Tryd.prog Tryd.f40 fun v' _ => v' = enr40 y) := by
  obtain ⟨a, b, c, d⟩ := x
  refine (vx40 a b c d _).mpr ?_
  unfold glebelaw3_Pre.f at hx
  try simp only [wrapE, andI_eq, orI_eq]
  repeat' first
    | (obtain ⟨y, hy, hx⟩ := Option.bind_eq_some_iff.1 hx; refine ⟨y, hy, ?_⟩)
    | ((refine bifW_c (fun hc => ?_) (fun hc => ?_)) <;> first | rw [if_pos hc] at hx | rw [if_neg hc] at hx | rw [if_pos (Decidable.not_not.1 hc)] at hx)
    | ((refine bifW_n (fun hc => ?_) (fun hc => ?_)) <;> first | rw [if_pos hc] at hx | rw [if_neg hc] at hx)
    | ((refine bifW_b (fun hc => ?_) (fun hc => ?_)) <;> first | rw [if_pos hc] at hx | rw [if_neg hc] at hx)
    | (split at hx <;> first | (cases hx; done) | (refine And.intro (by assumption) ?_))
    | (cases hx; rfl)
    | (cases hx; simp only [enr40, cdec_eq, cdec_beq, Bool.and_true])
theorem om40 {W : World} (hW : GoodW W) : OwnAll Tryd.prog W 6 40 con40.own :=
  con_opt enc40 (Laying.empty hW.size) hW.size (by decide) dt_mixed (OwnsAll.con (om28 hW) (OwnsAll.con (om69 hW) (OwnsAll.con (om71 hW) (OwnsAll.con (om72 hW) (OwnsAll.con (om70 hW) (ownsAll_nil W 6)))))) Tryd.func40 (fn := Tryd.f40) (c := bodyOf Tryd.f40) (by kernel_rfl) (by kernel_rfl) (fun _ _ h => dec40_enc h) (fun a => ⟨rfl, (by kernel_rfl)⟩) (fun b => rfl) wx40
theorem wx20 (x : Int × Int × Int × Int) (y : Int × Int) (hx : quad_And.f x.1 x.2.1 x.2.2.1 x.2.2.2 = some y) : codeW Tryd.prog (cwC L20) (bodyOf Tryd.f20) (inTab (enc20 x) 8) (birth [] 64) (retW Tryd.prog Tryd.f20 fun v' _ => v' = enr20 y) := by
  obtain ⟨a, b, c, d⟩ := x
  refine (vx20 a b c d _).mpr ?_
  unfold quad_And.f at hx
  try simp only [wrapE, andI_eq, orI_eq]
  repeat' first
    | (obtain ⟨y, hy, hx⟩ := Option.bind_eq_some_iff.1 hx; refine ⟨y, hy, ?_⟩)
    | ((refine bifW_c (fun hc => ?_) (fun hc => ?_)) <;> first | rw [if_pos hc] at hx | rw [if_neg hc] at hx | rw [if_pos (Decidable.not_not.1 hc)] at hx)
    | ((refine bifW_n (fun hc => ?_) (fun hc => ?_)) <;> first | rw [if_pos hc] at hx | rw [if_neg hc] at hx)
    | ((refine bifW_b (fun hc => ?_) (fun hc => ?_)) <;> first | rw [if_pos hc] at hx | rw [if_neg hc] at hx)
    | (split at hx <;> first | (cases hx; done) | (refine And.intro (by assumption) ?_))
    | (cases hx; rfl)
    | (cases hx; simp only [enr20, cdec_eq, cdec_beq, Bool.and_true])
theorem om20 {W : World} (hW : GoodW W) : OwnAll Tryd.prog W 6 20 con20.own :=
  con_opt enc20 (Laying.empty hW.size) hW.size (by decide) dt_mixed (ownsAll_nil W 6) Tryd.func20 (fn := Tryd.f20) (c := bodyOf Tryd.f20) (by kernel_rfl) (by kernel_rfl) (fun _ _ h => dec20_enc h) (fun a => ⟨rfl, (by kernel_rfl)⟩) (fun b => rfl) wx20
theorem wx21 (x : Int × Int × Int × Int) (y : Int × Int) (hx : quad_Or.f x.1 x.2.1 x.2.2.1 x.2.2.2 = some y) : codeW Tryd.prog (cwC L21) (bodyOf Tryd.f21) (inTab (enc21 x) 8) (birth [] 64) (retW Tryd.prog Tryd.f21 fun v' _ => v' = enr21 y) := by
  obtain ⟨a, b, c, d⟩ := x
  refine (vx21 a b c d _).mpr ?_
  unfold quad_Or.f at hx
  try simp only [wrapE, andI_eq, orI_eq]
  repeat' first
    | (obtain ⟨y, hy, hx⟩ := Option.bind_eq_some_iff.1 hx; refine ⟨y, hy, ?_⟩)
    | ((refine bifW_c (fun hc => ?_) (fun hc => ?_)) <;> first | rw [if_pos hc] at hx | rw [if_neg hc] at hx | rw [if_pos (Decidable.not_not.1 hc)] at hx)
    | ((refine bifW_n (fun hc => ?_) (fun hc => ?_)) <;> first | rw [if_pos hc] at hx | rw [if_neg hc] at hx)
    | ((refine bifW_b (fun hc => ?_) (fun hc => ?_)) <;> first | rw [if_pos hc] at hx | rw [if_neg hc] at hx)
    | (split at hx <;> first | (cases hx; done) | (refine And.intro (by assumption) ?_))
    | (cases hx; rfl)
    | (cases hx; simp only [enr21, cdec_eq, cdec_beq, Bool.and_true])
theorem om21 {W : World} (hW : GoodW W) : OwnAll Tryd.prog W 6 21 con21.own :=
  con_opt enc21 (Laying.empty hW.size) hW.size (by decide) dt_mixed (ownsAll_nil W 6) Tryd.func21 (fn := Tryd.f21) (c := bodyOf Tryd.f21) (by kernel_rfl) (by kernel_rfl) (fun _ _ h => dec21_enc h) (fun a => ⟨rfl, (by kernel_rfl)⟩) (fun b => rfl) wx21
theorem wx24 (x : Int × Int) (y : Int × Int) (hx : quad_Not.f x.1 x.2 = some y) : codeW Tryd.prog (cwC L24) (bodyOf Tryd.f24) (inTab (enc24 x) 8) (birth [] 64) (retW Tryd.prog Tryd.f24 fun v' _ => v' = enr24 y) := by
  obtain ⟨a, b⟩ := x
  refine (vx24 a b _).mpr ?_
  unfold quad_Not.f at hx
  try simp only [wrapE, andI_eq, orI_eq]
  repeat' first
    | (obtain ⟨y, hy, hx⟩ := Option.bind_eq_some_iff.1 hx; refine ⟨y, hy, ?_⟩)
    | ((refine bifW_c (fun hc => ?_) (fun hc => ?_)) <;> first | rw [if_pos hc] at hx | rw [if_neg hc] at hx | rw [if_pos (Decidable.not_not.1 hc)] at hx)
    | ((refine bifW_n (fun hc => ?_) (fun hc => ?_)) <;> first | rw [if_pos hc] at hx | rw [if_neg hc] at hx)
    | ((refine bifW_b (fun hc => ?_) (fun hc => ?_)) <;> first | rw [if_pos hc] at hx | rw [if_neg hc] at hx)
    | (split at hx <;> first | (cases hx; done) | (refine And.intro (by assumption) ?_))
    | (cases hx; rfl)
    | (cases hx; simp only [enr24, cdec_eq, cdec_beq, Bool.and_true])
theorem om24 {W : World} (hW : GoodW W) : OwnAll Tryd.prog W 6 24 con24.own :=
  con_opt enc24 (Laying.empty hW.size) hW.size (by decide) dt_mixed (ownsAll_nil W 6) Tryd.func24 (fn := Tryd.f24) (c := bodyOf Tryd.f24) (by kernel_rfl) (by kernel_rfl) (fun _ _ h => dec24_enc h) (fun a => ⟨rfl, (by kernel_rfl)⟩) (fun b => rfl) wx24
theorem wx59 (x : Int) (y : Int) (hx : addr_Bits.f x = some y) : codeW Tryd.prog (cwC L59) (bodyOf Tryd.f59) (inTab (enc59 x) 8) (birth [] 64) (retW Tryd.prog Tryd.f59 fun v' _ => v' = enr59 y) := by
  refine (vx59 x _).mpr ?_
  unfold addr_Bits.f at hx
  try simp only [wrapE, andI_eq, orI_eq]
  repeat' first
    | (obtain ⟨y, hy, hx⟩ := Option.bind_eq_some_iff.1 hx; refine ⟨y, hy, ?_⟩)
    | ((refine bifW_c (fun hc => ?_) (fun hc => ?_)) <;> first | rw [if_pos hc] at hx | rw [if_neg hc] at hx | rw [if_pos (Decidable.not_not.1 hc)] at hx)
    | ((refine bifW_n (fun hc => ?_) (fun hc => ?_)) <;> first | rw [if_pos hc] at hx | rw [if_neg hc] at hx)
    | ((refine bifW_b (fun hc => ?_) (fun hc => ?_)) <;> first | rw [if_pos hc] at hx | rw [if_neg hc] at hx)
    | (split at hx <;> first | (cases hx; done) | (refine And.intro (by assumption) ?_))
    | (cases hx; rfl)
    | (cases hx; simp only [enr59, cdec_eq, cdec_beq, Bool.and_true])
theorem om59 {W : World} (hW : GoodW W) : OwnAll Tryd.prog W 6 59 con59.own :=
  con_opt enc59 (Laying.empty hW.size) hW.size (by decide) dt_mixed (ownsAll_nil W 6) Tryd.func59 (fn := Tryd.f59) (c := bodyOf Tryd.f59) (by kernel_rfl) (by kernel_rfl) (fun _ _ h => dec59_enc h) (fun a => ⟨rfl, (by kernel_rfl)⟩) (fun b => rfl) wx59
theorem wx19 (x : Int) (y : Int × Int) (hx : quad_Mask.f x = some y) : codeW Tryd.prog (cwC L19) (bodyOf Tryd.f19) (inTab (enc19 x) 8) (birth [] 64) (retW Tryd.prog Tryd.f19 fun v' _ => v' = enr19 y) := by
  refine (vx19 x _).mpr ?_
  unfold quad_Mask.f at hx
  try simp only [wrapE, andI_eq, orI_eq]
  repeat' first
    | (obtain ⟨y, hy, hx⟩ := Option.bind_eq_some_iff.1 hx; refine ⟨y, hy, ?_⟩)
    | ((refine bifW_c (fun hc => ?_) (fun hc => ?_)) <;> first | rw [if_pos hc] at hx | rw [if_neg hc] at hx | rw [if_pos (Decidable.not_not.1 hc)] at hx)
    | ((refine bifW_n (fun hc => ?_) (fun hc => ?_)) <;> first | rw [if_pos hc] at hx | rw [if_neg hc] at hx)
    | ((refine bifW_b (fun hc => ?_) (fun hc => ?_)) <;> first | rw [if_pos hc] at hx | rw [if_neg hc] at hx)
    | (split at hx <;> first | (cases hx; done) | (refine And.intro (by assumption) ?_))
    | (cases hx; rfl)
    | (cases hx; simp only [enr19, cdec_eq, cdec_beq, Bool.and_true])
theorem om19 {W : World} (hW : GoodW W) : OwnAll Tryd.prog W 6 19 con19.own :=
  con_opt enc19 (Laying.empty hW.size) hW.size (by decide) dt_mixed (OwnsAll.con (om50 hW) (ownsAll_nil W 6)) Tryd.func19 (fn := Tryd.f19) (c := bodyOf Tryd.f19) (by kernel_rfl) (by kernel_rfl) (fun _ _ h => dec19_enc h) (fun a => ⟨rfl, (by kernel_rfl)⟩) (fun b => rfl) wx19
theorem wx63 (x : Int × Int) (y : Int × Int) (hx : pref_mask.f x.1 x.2 = some y) : codeW Tryd.prog (cwC L63) (bodyOf Tryd.f63) (inTab (enc63 x) 8) (birth [] 64) (retW Tryd.prog Tryd.f63 fun v' _ => v' = enr63 y) := by
  obtain ⟨a, b⟩ := x
  refine (vx63 a b _).mpr ?_
  unfold pref_mask.f at hx
  try simp only [wrapE, andI_eq, orI_eq]
  repeat' first
    | (obtain ⟨y, hy, hx⟩ := Option.bind_eq_some_iff.1 hx; refine ⟨y, hy, ?_⟩)
    | ((refine bifW_c (fun hc => ?_) (fun hc => ?_)) <;> first | rw [if_pos hc] at hx | rw [if_neg hc] at hx | rw [if_pos (Decidable.not_not.1 hc)] at hx)
    | ((refine bifW_n (fun hc => ?_) (fun hc => ?_)) <;> first | rw [if_pos hc] at hx | rw [if_neg hc] at hx)
    | ((refine bifW_b (fun hc => ?_) (fun hc => ?_)) <;> first | rw [if_pos hc] at hx | rw [if_neg hc] at hx)
    | (split at hx <;> first | (cases hx; done) | (refine And.intro (by assumption) ?_))
    | (cases hx; rfl)
    | (cases hx; simp only [enr63, cdec_eq, cdec_beq, Bool.and_true])
theorem om63 {W : World} (hW : GoodW W) : OwnAll Tryd.prog W 6 63 con63.own :=
  con_opt enc63 (Laying.empty hW.size) hW.size (by decide) dt_mixed (OwnsAll.con (om59 hW) (OwnsAll.con (om19 hW) (ownsAll_nil W 6))) Tryd.func63 (fn := Tryd.f63) (c := bodyOf Tryd.f63) (by kernel_rfl) (by kernel_rfl) (fun _ _ h => dec63_enc h) (fun a => ⟨rfl, (by kernel_rfl)⟩) (fun b => rfl) wx63
theorem wx62 (x : Int × Int × Int × Int) (y : Bool) (hx : pref_Ok.f x.1 x.2.1 x.2.2.1 x.2.2.2 = some y) : codeW Tryd.prog (cwC L62) (bodyOf Tryd.f62) (inTab (enc62 x) 8) (birth [] 64) (retW Tryd.prog Tryd.f62 fun v' _ => v' = enr62 y) := by
  obtain ⟨a, b, c, d⟩ := x
  refine (vx62 a b c d _).mpr ?_
  unfold pref_Ok.f at hx
  try simp only [wrapE, andI_eq, orI_eq]
  repeat' first
    | (obtain ⟨y, hy, hx⟩ := Option.bind_eq_some_iff.1 hx; refine ⟨y, hy, ?_⟩)
    | ((refine bifW_c (fun hc => ?_) (fun hc => ?_)) <;> first | rw [if_pos hc] at hx | rw [if_neg hc] at hx | rw [if_pos (Decidable.not_not.1 hc)] at hx)
    | ((refine bifW_n (fun hc => ?_) (fun hc => ?_)) <;> first | rw [if_pos hc] at hx | rw [if_neg hc] at hx)
    | ((refine bifW_b (fun hc => ?_) (fun hc => ?_)) <;> first | rw [if_pos hc] at hx | rw [if_neg hc] at hx)
    | (split at hx <;> first | (cases hx; done) | (refine And.intro (by assumption) ?_))
    | (cases hx; rfl)
    | (cases hx; simp only [enr62, cdec_eq, cdec_beq, Bool.and_true])
theorem om62 {W : World} (hW : GoodW W) : OwnAll Tryd.prog W 6 62 con62.own :=
  con_opt enc62 (Laying.empty hW.size) hW.size (by decide) dt_mixed (OwnsAll.con (om31 hW) (OwnsAll.con (om59 hW) (OwnsAll.con (om63 hW) (OwnsAll.con (om24 hW) (OwnsAll.con (om20 hW) (ownsAll_nil W 6)))))) Tryd.func62 (fn := Tryd.f62) (c := bodyOf Tryd.f62) (by kernel_rfl) (by kernel_rfl) (fun _ _ h => dec62_enc h) (fun a => ⟨rfl, (by kernel_rfl)⟩) (fun b => rfl) wx62
theorem wx37 (x : Int × Int × Int × Int) (y : Int × Int × Int) (hx : pref_Last.f x.1 x.2.1 x.2.2.1 x.2.2.2 = some y) : codeW Tryd.prog (cwC L37) (bodyOf Tryd.f37) (inTab (enc37 x) 8) (birth [] 64) (retW Tryd.prog Tryd.f37 fun v' _ => v' = enr37 y) := by
  obtain ⟨a, b, c, d⟩ := x
  refine (vx37 a b c d _).mpr ?_
  unfold pref_Last.f at hx
  try simp only [wrapE, andI_eq, orI_eq]
  repeat' first
    | (obtain ⟨y, hy, hx⟩ := Option.bind_eq_some_iff.1 hx; refine ⟨y, hy, ?_⟩)
    | ((refine bifW_c (fun hc => ?_) (fun hc => ?_)) <;> first | rw [if_pos hc] at hx | rw [if_neg hc] at hx | rw [if_pos (Decidable.not_not.1 hc)] at hx)
    | ((refine bifW_n (fun hc => ?_) (fun hc => ?_)) <;> first | rw [if_pos hc] at hx | rw [if_neg hc] at hx)
    | ((refine bifW_b (fun hc => ?_) (fun hc => ?_)) <;> first | rw [if_pos hc] at hx | rw [if_neg hc] at hx)
    | (split at hx <;> first | (cases hx; done) | (refine And.intro (by assumption) ?_))
    | (cases hx; rfl)
    | (cases hx; simp only [enr37, cdec_eq, cdec_beq, Bool.and_true])
theorem om37 {W : World} (hW : GoodW W) : OwnAll Tryd.prog W 6 37 con37.own :=
  con_opt enc37 (Laying.empty hW.size) hW.size (by decide) dt_mixed (OwnsAll.con (om62 hW) (OwnsAll.con (om59 hW) (OwnsAll.con (om19 hW) (OwnsAll.con (om63 hW) (OwnsAll.con (om24 hW) (OwnsAll.con (om20 hW) (OwnsAll.con (om21 hW) (ownsAll_nil W 6)))))))) Tryd.func37 (fn := Tryd.f37) (c := bodyOf Tryd.f37) (by kernel_rfl) (by kernel_rfl) (fun _ _ h => dec37_enc h) (fun a => ⟨rfl, (by kernel_rfl)⟩) (fun b => rfl) wx37
theorem wx22 (x : Int × Int × Int × Int) (y : Bool) (hx : quad_Less.f x.1 x.2.1 x.2.2.1 x.2.2.2 = some y) : codeW Tryd.prog (cwC L22) (bodyOf Tryd.f22) (inTab (enc22 x) 8) (birth [] 64) (retW Tryd.prog Tryd.f22 fun v' _ => v' = enr22 y) := by
  obtain ⟨a, b, c, d⟩ := x
  refine (vx22 a b c d _).mpr ?_
  unfold quad_Less.f at hx
  try simp only [wrapE, andI_eq, orI_eq]
  repeat' first
    | (obtain ⟨y, hy, hx⟩ := Option.bind_eq_some_iff.1 hx; refine ⟨y, hy, ?_⟩)
    | ((refine bifW_c (fun hc => ?_) (fun hc => ?_)) <;> first | rw [if_pos hc] at hx | rw [if_neg hc] at hx | rw [if_pos (Decidable.not_not.1 hc)] at hx)
    | ((refine bifW_n (fun hc => ?_) (fun hc => ?_)) <;> first | rw [if_pos hc] at hx | rw [if_neg hc] at hx)
    | ((refine bifW_b (fun hc => ?_) (fun hc => ?_)) <;> first | rw [if_pos hc] at hx | rw [if_neg hc] at hx)
    | (split at hx <;> first | (cases hx; done) | (refine And.intro (by assumption) ?_))
    | (cases hx; rfl)
    | (cases hx; simp only [enr22, cdec_eq, cdec_beq, Bool.and_true])
theorem om22 {W : World} (hW : GoodW W) : OwnAll Tryd.prog W 6 22 con22.own :=
  con_opt enc22 (Laying.empty hW.size) hW.size (by decide) dt_mixed (ownsAll_nil W 6) Tryd.func22 (fn := Tryd.f22) (c := bodyOf Tryd.f22) (by kernel_rfl) (by kernel_rfl) (fun _ _ h => dec22_enc h) (fun a => ⟨rfl, (by kernel_rfl)⟩) (fun b => rfl) wx22
theorem wx30 (x : Int × Int × Int × Int × Int × Int) (y : Bool) (hx : addr_Less.f x.1 x.2.1 x.2.2.1 x.2.2.2.1 x.2.2.2.2.1 x.2.2.2.2.2 = some y) : codeW Tryd.prog (cwC L30) (bodyOf Tryd.f30) (inTab (enc30 x) 8) (birth [] 64) (retW Tryd.prog Tryd.f30 fun v' _ => v' = enr30 y) := by
  obtain ⟨a, b, c, d, e, f⟩ := x
  refine (vx30 a b c d e f _).mpr ?_
  unfold addr_Less.f at hx
  try simp only [wrapE, andI_eq, orI_eq]
  repeat' first
    | (obtain ⟨y, hy, hx⟩ := Option.bind_eq_some_iff.1 hx; refine ⟨y, hy, ?_⟩)
    | ((refine bifW_c (fun hc => ?_) (fun hc => ?_)) <;> first | rw [if_pos hc] at hx | rw [if_neg hc] at hx | rw [if_pos (Decidable.not_not.1 hc)] at hx)
    | ((refine bifW_n (fun hc => ?_) (fun hc => ?_)) <;> first | rw [if_pos hc] at hx | rw [if_neg hc] at hx)
    | ((refine bifW_b (fun hc => ?_) (fun hc => ?_)) <;> first | rw [if_pos hc] at hx | rw [if_neg hc] at hx)
    | (split at hx <;> first | (cases hx; done) | (refine And.intro (by assumption) ?_))
    | (cases hx; rfl)
    | (cases hx; simp only [enr30, cdec_eq, cdec_beq, Bool.and_true])
theorem om30 {W : World} (hW : GoodW W) : OwnAll Tryd.prog W 6 30 con30.own :=
  con_opt enc30 (Laying.empty hW.size) hW.size (by decide) dt_mixed (OwnsAll.con (om22 hW) (ownsAll_nil W 6)) Tryd.func30 (fn := Tryd.f30) (c := bodyOf Tryd.f30) (by kernel_rfl) (by kernel_rfl) (fun _ _ h => dec30_enc h) (fun a => ⟨rfl, (by kernel_rfl)⟩) (fun b => rfl) wx30
theorem wx42 (x : Int × Int × Int × Int × Int × Int × Int) (y : Bool) (hx : pref_Has.f x.1 x.2.1 x.2.2.1 x.2.2.2.1 x.2.2.2.2.1 x.2.2.2.2.2.1 x.2.2.2.2.2.2 = some y) : codeW Tryd.prog (cwC L42) (bodyOf Tryd.f42) (inTab (enc42 x) 8) (birth [] 64) (retW Tryd.prog Tryd.f42 fun v' _ => v' = enr42 y) := by
  obtain ⟨a, b, c, d, e, f, g⟩ := x
  refine (vx42 a b c d e f g _).mpr ?_
  unfold pref_Has.f at hx
  try simp only [wrapE, andI_eq, orI_eq]
  repeat' first
    | (obtain ⟨y, hy, hx⟩ := Option.bind_eq_some_iff.1 hx; refine ⟨y, hy, ?_⟩)
    | ((refine bifW_c (fun hc => ?_) (fun hc => ?_)) <;> first | rw [if_pos hc] at hx | rw [if_neg hc] at hx | rw [if_pos (Decidable.not_not.1 hc)] at hx)
    | ((refine bifW_n (fun hc => ?_) (fun hc => ?_)) <;> first | rw [if_pos hc] at hx | rw [if_neg hc] at hx)
    | ((refine bifW_b (fun hc => ?_) (fun hc => ?_)) <;> first | rw [if_pos hc] at hx | rw [if_neg hc] at hx)
    | (split at hx <;> first | (cases hx; done) | (refine And.intro (by assumption) ?_))
    | (cases hx; rfl)
    | (cases hx; simp only [enr42, cdec_eq, cdec_beq, Bool.and_true])
theorem om42 {W : World} (hW : GoodW W) : OwnAll Tryd.prog W 6 42 con42.own :=
  con_opt enc42 (Laying.empty hW.size) hW.size (by decide) dt_mixed (OwnsAll.con (om62 hW) (OwnsAll.con (om31 hW) (OwnsAll.con (om63 hW) (OwnsAll.con (om20 hW) (ownsAll_nil W 6))))) Tryd.func42 (fn := Tryd.f42) (c := bodyOf Tryd.f42) (by kernel_rfl) (by kernel_rfl) (fun _ _ h => dec42_enc h) (fun a => ⟨rfl, (by kernel_rfl)⟩) (fun b => rfl) wx42
theorem wx36 (x : Int × Int × Int × Int) (y : Int × Int × Int) (hx : pref_First.f x.1 x.2.1 x.2.2.1 x.2.2.2 = some y) : codeW Tryd.prog (cwC L36) (bodyOf Tryd.f36) (inTab (enc36 x) 8) (birth [] 64) (retW Tryd.prog Tryd.f36 fun v' _ => v' = enr36 y) := by
  obtain ⟨a, b, c, d⟩ := x
  refine (vx36 a b c d _).mpr ?_
  unfold pref_First.f at hx
  try simp only [wrapE, andI_eq, orI_eq]
  repeat' first
    | (obtain ⟨y, hy, hx⟩ := Option.bind_eq_some_iff.1 hx; refine ⟨y, hy, ?_⟩)
    | ((refine bifW_c (fun hc => ?_) (fun hc => ?_)) <;> first | rw [if_pos hc] at hx | rw [if_neg hc] at hx | rw [if_pos (Decidable.not_not.1 hc)] at hx)
    | ((refine bifW_n (fun hc => ?_) (fun hc => ?_)) <;> first | rw [if_pos hc] at hx | rw [if_neg hc] at hx)
    | ((refine bifW_b (fun hc => ?_) (fun hc => ?_)) <;> first | rw [if_pos hc] at hx | rw [if_neg hc] at hx)
    | (split at hx <;> first | (cases hx; done) | (refine And.intro (by assumption) ?_))
    | (cases hx; rfl)
    | (cases hx; simp only [enr36, cdec_eq, cdec_beq, Bool.and_true])
theorem om36 {W : World} (hW : GoodW W) : OwnAll Tryd.prog W 6 36 con36.own :=
  con_opt enc36 (Laying.empty hW.size) hW.size (by decide) dt_mixed (OwnsAll.con (om62 hW) (ownsAll_nil W 6)) Tryd.func36 (fn := Tryd.f36) (c := bodyOf Tryd.f36) (by kernel_rfl) (by kernel_rfl) (fun _ _ h => dec36_enc h) (fun a => ⟨rfl, (by kernel_rfl)⟩) (fun b => rfl) wx36
theorem wx44 (x : Int × Int × Int × Int × Int × Int × Int × Int) (y : Bool) (hx : pref_Over.f x.1 x.2.1 x.2.2.1 x.2.2.2.1 x.2.2.2.2.1 x.2.2.2.2.2.1 x.2.2.2.2.2.2.1 x.2.2.2.2.2.2.2 = some y) : codeW Tryd.prog (cwC L44) (bodyOf Tryd.f44) (inTab (enc44 x) 8) (birth [] 64) (retW Tryd.prog Tryd.f44 fun v' _ => v' = enr44 y) := by
  obtain ⟨a, b, c, d, e, f, g, h⟩ := x
  refine (vx44 a b c d e f g h _).mpr ?_
  unfold pref_Over.f at hx
  try simp only [wrapE, andI_eq, orI_eq]
  repeat' first
    | (obtain ⟨y, hy, hx⟩ := Option.bind_eq_some_iff.1 hx; refine ⟨y, hy, ?_⟩)
    | ((refine bifW_c (fun hc => ?_) (fun hc => ?_)) <;> first | rw [if_pos hc] at hx | rw [if_neg hc] at hx | rw [if_pos (Decidable.not_not.1 hc)] at hx)
    | ((refine bifW_n (fun hc => ?_) (fun hc => ?_)) <;> first | rw [if_pos hc] at hx | rw [if_neg hc] at hx)
    | ((refine bifW_b (fun hc => ?_) (fun hc => ?_)) <;> first | rw [if_pos hc] at hx | rw [if_neg hc] at hx)
    | (split at hx <;> first | (cases hx; done) | (refine And.intro (by assumption) ?_))
    | (cases hx; rfl)
    | (cases hx; simp only [enr44, cdec_eq, cdec_beq, Bool.and_true])
theorem om44 {W : World} (hW : GoodW W) : OwnAll Tryd.prog W 6 44 con44.own :=
  con_opt enc44 (Laying.empty hW.size) hW.size (by decide) dt_mixed (OwnsAll.con (om36 hW) (OwnsAll.con (om42 hW) (ownsAll_nil W 6))) Tryd.func44 (fn := Tryd.f44) (c := bodyOf Tryd.f44) (by kernel_rfl) (by kernel_rfl) (fun _ _ h => dec44_enc h) (fun a => ⟨rfl, (by kernel_rfl)⟩) (fun b => rfl) wx44
theorem wx45 (x : Int × Int × Int × Int × Int × Int × Int × Int) (y : Bool) (hx : pref_Less.f x.1 x.2.1 x.2.2.1 x.2.2.2.1 x.2.2.2.2.1 x.2.2.2.2.2.1 x.2.2.2.2.2.2.1 x.2.2.2.2.2.2.2 = some y) : codeW Tryd.prog (cwC L45) (bodyOf Tryd.f45) (inTab (enc45 x) 8) (birth [] 64) (retW Tryd.prog Tryd.f45 fun v' _ => v' = enr45 y) := by
  obtain ⟨a, b, c, d, e, f, g, h⟩ := x
  refine (vx45 a b c d e f g h _).mpr ?_
  unfold pref_Less.f at hx
  simp only [cdec_beq] at hx
  simp only [Bool.and_true]
  try simp only [wrapE, andI_eq, orI_eq]
  repeat' first
    | (obtain ⟨y, hy, hx⟩ := Option.bind_eq_some_iff.1 hx; refine ⟨y, hy, ?_⟩)
    | ((refine bifW_c (fun hc => ?_) (fun hc => ?_)) <;> first | rw [if_pos hc] at hx | rw [if_neg hc] at hx | rw [if_pos (Decidable.not_not.1 hc)] at hx)
    | ((refine bifW_n (fun hc => ?_) (fun hc => ?_)) <;> first | rw [if_pos hc] at hx | rw [if_neg hc] at hx)
    | ((refine bifW_b (fun hc => ?_) (fun hc => ?_)) <;> first | rw [if_pos hc] at hx | rw [if_neg hc] at hx)
    | (split at hx <;> first | (cases hx; done) | (refine And.intro (by assumption) ?_))
    | (cases hx; rfl)
    | (cases hx; simp only [enr45, cdec_eq, cdec_beq, Bool.and_true])
theorem om45 {W : World} (hW : GoodW W) : OwnAll Tryd.prog W 6 45 con45.own :=
  con_opt enc45 (Laying.empty hW.size) hW.size (by decide) dt_mixed (OwnsAll.con (om62 hW) (OwnsAll.con (om30 hW) (ownsAll_nil W 6))) Tryd.func45 (fn := Tryd.f45) (c := bodyOf Tryd.f45) (by kernel_rfl) (by kernel_rfl) (fun _ _ h => dec45_enc h) (fun a => ⟨rfl, (by kernel_rfl)⟩) (fun b => rfl) wx45
theorem wx46 (x : Int × Int × Int) (y : Int × Int × Int × Bool) (hx : gleberef1_Next.f x.1 x.2.1 x.2.2 = some y) : codeW Tryd.prog (cwC L46) (bodyOf Tryd.f46) (inTab (enc46 x) 8) (birth [] 64) (retW Tryd.prog Tryd.f46 fun v' _ => v' = enr46 y) := by
  obtain ⟨a, b, c⟩ := x
  refine (vx46 a b c _).mpr ?_
  unfold gleberef1_Next.f at hx
  try simp only [wrapE, andI_eq, orI_eq]
  repeat' first
    | (obtain ⟨y, hy, hx⟩ := Option.bind_eq_some_iff.1 hx; refine ⟨y, hy, ?_⟩)
    | ((refine bifW_c (fun hc => ?_) (fun hc => ?_)) <;> first | rw [if_pos hc] at hx | rw [if_neg hc] at hx | rw [if_pos (Decidable.not_not.1 hc)] at hx)
    | ((refine bifW_n (fun hc => ?_) (fun hc => ?_)) <;> first | rw [if_pos hc] at hx | rw [if_neg hc] at hx)
    | ((refine bifW_b (fun hc => ?_) (fun hc => ?_)) <;> first | rw [if_pos hc] at hx | rw [if_neg hc] at hx)
    | (split at hx <;> first | (cases hx; done) | (refine And.intro (by assumption) ?_))
    | (cases hx; rfl)
    | (cases hx; simp only [enr46, cdec_eq, cdec_beq, Bool.and_true])
theorem om46 {W : World} (hW : GoodW W) : OwnAll Tryd.prog W 6 46 con46.own :=
  con_opt enc46 (Laying.empty hW.size) hW.size (by decide) dt_mixed (OwnsAll.con (om73 hW) (OwnsAll.con (om64 hW) (ownsAll_nil W 6))) Tryd.func46 (fn := Tryd.f46) (c := bodyOf Tryd.f46) (by kernel_rfl) (by kernel_rfl) (fun _ _ h => dec46_enc h) (fun a => ⟨rfl, (by kernel_rfl)⟩) (fun b => rfl) wx46
theorem wx25 (x : ByteArray) (y : Int × Int × Int × Bool) (hx : addr_Parse.f x = some y) : codeW Tryd.prog (cwC L25) (bodyOf Tryd.f25) (inTab (enc25 x) 8) (birth [] 64) (retW Tryd.prog Tryd.f25 fun v' _ => v' = enr25 y) := by
  refine (vx25 x _).mpr ?_
  unfold addr_Parse.f at hx
  try simp only [wrapE, andI_eq, orI_eq]
  repeat' first
    | (obtain ⟨y, hy, hx⟩ := Option.bind_eq_some_iff.1 hx; refine ⟨y, hy, ?_⟩)
    | ((refine bifW_c (fun hc => ?_) (fun hc => ?_)) <;> first | rw [if_pos hc] at hx | rw [if_neg hc] at hx | rw [if_pos (Decidable.not_not.1 hc)] at hx)
    | ((refine bifW_n (fun hc => ?_) (fun hc => ?_)) <;> first | rw [if_pos hc] at hx | rw [if_neg hc] at hx)
    | ((refine bifW_b (fun hc => ?_) (fun hc => ?_)) <;> first | rw [if_pos hc] at hx | rw [if_neg hc] at hx)
    | (split at hx <;> first | (cases hx; done) | (refine And.intro (by assumption) ?_))
    | (cases hx; rfl)
    | (cases hx; simp only [enr25, cdec_eq, cdec_beq, Bool.and_true])
theorem om25 {W : World} (hW : GoodW W) : OwnAll Tryd.prog W 6 25 con25.own :=
  con_opt enc25 (Laying.empty hW.size) hW.size (by decide) dt_mixed (OwnsAll.con (om51 hW) (OwnsAll.con (om52 hW) (OwnsAll.con (om53 hW) (ownsAll_nil W 6)))) Tryd.func25 (fn := Tryd.f25) (c := bodyOf Tryd.f25) (by kernel_rfl) (by kernel_rfl) (fun _ _ h => dec25_enc h) (fun a => ⟨rfl, (by kernel_rfl)⟩) (fun b => rfl) wx25
theorem wx33 (x : ByteArray) (y : Int × Int × Int × Int × Bool) (hx : pref_Parse.f x = some y) : codeW Tryd.prog (cwC L33) (bodyOf Tryd.f33) (inTab (enc33 x) 8) (birth [] 64) (retW Tryd.prog Tryd.f33 fun v' _ => v' = enr33 y) := by
  refine (vx33 x _).mpr ?_
  unfold pref_Parse.f at hx
  try simp only [wrapE, andI_eq, orI_eq]
  repeat' first
    | (obtain ⟨y, hy, hx⟩ := Option.bind_eq_some_iff.1 hx; refine ⟨y, hy, ?_⟩)
    | ((refine bifW_c (fun hc => ?_) (fun hc => ?_)) <;> first | rw [if_pos hc] at hx | rw [if_neg hc] at hx | rw [if_pos (Decidable.not_not.1 hc)] at hx)
    | ((refine bifW_n (fun hc => ?_) (fun hc => ?_)) <;> first | rw [if_pos hc] at hx | rw [if_neg hc] at hx)
    | ((refine bifW_b (fun hc => ?_) (fun hc => ?_)) <;> first | rw [if_pos hc] at hx | rw [if_neg hc] at hx)
    | (split at hx <;> first | (cases hx; done) | (refine And.intro (by assumption) ?_))
    | (cases hx; rfl)
    | (cases hx; simp only [enr33, cdec_eq, cdec_beq, Bool.and_true])
theorem om33 {W : World} (hW : GoodW W) : OwnAll Tryd.prog W 6 33 con33.own :=
  con_opt enc33 (Laying.empty hW.size) hW.size (by decide) dt_mixed (OwnsAll.con (om60 hW) (OwnsAll.con (om25 hW) (OwnsAll.con (om61 hW) (OwnsAll.con (om62 hW) (ownsAll_nil W 6))))) Tryd.func33 (fn := Tryd.f33) (c := bodyOf Tryd.f33) (by kernel_rfl) (by kernel_rfl) (fun _ _ h => dec33_enc h) (fun a => ⟨rfl, (by kernel_rfl)⟩) (fun b => rfl) wx33
theorem wx38 (x : Int × Int × Int × Int) (y : ByteArray) (hx : pref_Print.f x.1 x.2.1 x.2.2.1 x.2.2.2 = some y) : codeW Tryd.prog (cwC L38) (bodyOf Tryd.f38) (inTab (enc38 x) 8) (birth [] 64) (retW Tryd.prog Tryd.f38 fun v' _ => v' = enr38 y) := by
  obtain ⟨a, b, c, d⟩ := x
  refine (vx38 a b c d _).mpr ?_
  unfold pref_Print.f at hx
  try simp only [wrapE, andI_eq, orI_eq]
  repeat' first
    | (obtain ⟨y, hy, hx⟩ := Option.bind_eq_some_iff.1 hx; refine ⟨y, hy, ?_⟩)
    | ((refine bifW_c (fun hc => ?_) (fun hc => ?_)) <;> first | rw [if_pos hc] at hx | rw [if_neg hc] at hx | rw [if_pos (Decidable.not_not.1 hc)] at hx)
    | ((refine bifW_n (fun hc => ?_) (fun hc => ?_)) <;> first | rw [if_pos hc] at hx | rw [if_neg hc] at hx)
    | ((refine bifW_b (fun hc => ?_) (fun hc => ?_)) <;> first | rw [if_pos hc] at hx | rw [if_neg hc] at hx)
    | (split at hx <;> first | (cases hx; done) | (refine And.intro (by assumption) ?_))
    | (cases hx; rfl)
    | (cases hx; simp only [enr38, cdec_eq, cdec_beq, Bool.and_true])
theorem om38 {W : World} (hW : GoodW W) : OwnAll Tryd.prog W 6 38 con38.own :=
  con_opt enc38 (Laying.empty hW.size) hW.size (by decide) dt_mixed (OwnsAll.con (om62 hW) (OwnsAll.con (om26 hW) (OwnsAll.con (om54 hW) (ownsAll_nil W 6)))) Tryd.func38 (fn := Tryd.f38) (c := bodyOf Tryd.f38) (by kernel_rfl) (by kernel_rfl) (fun _ _ h => dec38_enc h) (fun a => ⟨rfl, (by kernel_rfl)⟩) (fun b => rfl) wx38
end Go.Proofs.YtfnacgojmdbjmaaDoor
namespace Go.Proofs.YtfnacgojmdbjmaaDoor.PPH
open Go.Det Go.RowKit Go.Proofs.YtfnacgojmdbjmaaDoor Go.Proofs.YtfnacgojmdbjmaaDoorW.PrintWords
theorem gleberef1_Bits.calls (a0 : Int) (r : Int) (w : World) (hG : GoodW w) (h : gleberef1_Bits.f a0 = some r) :
    Calls Tryd.prog 69 #[.int .i64 a0] w fun e w' => e = .returned (.int .i64 r) ∧ Below w.heap.size w w' :=
  calls_of_own (fn := Tryd.f69) (c := bodyOf Tryd.f69) (om69 hG) hG Tryd.func69 (by kernel_rfl) (by kernel_rfl) (args := enc69 (a0)) (v := .int .i64 r) (opt_own (dec := dec69) (enc := enr69) (a := (a0)) (b := r) rfl h _) rfl rfl (by intro h; cases h)
theorem gleberef1_And.calls (a0_0 : Int) (a0_1 : Int) (a1_0 : Int) (a1_1 : Int) (r1 : Int) (r2 : Int) (w : World) (hG : GoodW w) (h : gleberef1_And.f a0_0 a0_1 a1_0 a1_1 = some (r1, r2)) :
    Calls Tryd.prog 70 #[.agg #[.int .u64 a0_0, .int .u64 a0_1], .agg #[.int .u64 a1_0, .int .u64 a1_1]] w fun e w' => e = .returned (.agg #[.int .u64 r1, .int .u64 r2]) ∧ Below w.heap.size w w' :=
  calls_of_own (fn := Tryd.f70) (c := bodyOf Tryd.f70) (om70 hG) hG Tryd.func70 (by kernel_rfl) (by kernel_rfl) (args := enc70 (a0_0, a0_1, a1_0, a1_1)) (v := .agg #[.int .u64 r1, .int .u64 r2]) (opt_own (dec := dec70) (enc := enr70) (a := (a0_0, a0_1, a1_0, a1_1)) (b := (r1, r2)) rfl h _) rfl rfl (by intro h; cases h)
theorem gleberef1_Not.calls (a0_0 : Int) (a0_1 : Int) (r1 : Int) (r2 : Int) (w : World) (hG : GoodW w) (h : gleberef1_Not.f a0_0 a0_1 = some (r1, r2)) :
    Calls Tryd.prog 72 #[.agg #[.int .u64 a0_0, .int .u64 a0_1]] w fun e w' => e = .returned (.agg #[.int .u64 r1, .int .u64 r2]) ∧ Below w.heap.size w w' :=
  calls_of_own (fn := Tryd.f72) (c := bodyOf Tryd.f72) (om72 hG) hG Tryd.func72 (by kernel_rfl) (by kernel_rfl) (args := enc72 (a0_0, a0_1)) (v := .agg #[.int .u64 r1, .int .u64 r2]) (opt_own (dec := dec72) (enc := enr72) (a := (a0_0, a0_1)) (b := (r1, r2)) rfl h _) rfl rfl (by intro h; cases h)
theorem gleberef1_Ok.calls (a0_0 : Int) (a0_1 : Int) (a0_2 : Int) (r : Bool) (w : World) (hG : GoodW w) (h : gleberef1_Ok.f a0_0 a0_1 a0_2 = some r) :
    Calls Tryd.prog 64 #[.agg #[.int .i64 a0_0, .int .u64 a0_1, .int .u64 a0_2]] w fun e w' => e = .returned (.bool r) ∧ Below w.heap.size w w' :=
  calls_of_own (fn := Tryd.f64) (c := bodyOf Tryd.f64) (om64 hG) hG Tryd.func64 (by kernel_rfl) (by kernel_rfl) (args := enc64 (a0_0, a0_1, a0_2)) (v := .bool r) (opt_own (dec := dec64) (enc := enr64) (a := (a0_0, a0_1, a0_2)) (b := r) rfl h _) rfl rfl (by intro h; cases h)
theorem gleberef1_Add.calls (a0_0 : Int) (a0_1 : Int) (a1_0 : Int) (a1_1 : Int) (r1 : Int) (r2 : Int) (r3 : Bool) (w : World) (hG : GoodW w) (h : gleberef1_Add.f a0_0 a0_1 a1_0 a1_1 = some (r1, r2, r3)) :
    Calls Tryd.prog 73 #[.agg #[.int .u64 a0_0, .int .u64 a0_1], .agg #[.int .u64 a1_0, .int .u64 a1_1]] w fun e w' => e = .returned (.tuple #[.agg #[.int .u64 r1, .int .u64 r2], .bool r3]) ∧ Below w.heap.size w w' :=
  calls_of_own (fn := Tryd.f73) (c := bodyOf Tryd.f73) (om73 hG) hG Tryd.func73 (by kernel_rfl) (by kernel_rfl) (args := enc73 (a0_0, a0_1, a1_0, a1_1)) (v := .tuple #[.agg #[.int .u64 r1, .int .u64 r2], .bool r3]) (opt_own (dec := dec73) (enc := enr73) (a := (a0_0, a0_1, a1_0, a1_1)) (b := (r1, r2, r3)) rfl h _) rfl rfl (by intro h; cases h)
theorem gleberef1_Less.calls (a0_0 : Int) (a0_1 : Int) (a1_0 : Int) (a1_1 : Int) (r : Bool) (w : World) (hG : GoodW w) (h : gleberef1_Less.f a0_0 a0_1 a1_0 a1_1 = some r) :
    Calls Tryd.prog 43 #[.agg #[.int .u64 a0_0, .int .u64 a0_1], .agg #[.int .u64 a1_0, .int .u64 a1_1]] w fun e w' => e = .returned (.bool r) ∧ Below w.heap.size w w' :=
  calls_of_own (fn := Tryd.f43) (c := bodyOf Tryd.f43) (om43 hG) hG Tryd.func43 (by kernel_rfl) (by kernel_rfl) (args := enc43 (a0_0, a0_1, a1_0, a1_1)) (v := .bool r) (opt_own (dec := dec43) (enc := enr43) (a := (a0_0, a0_1, a1_0, a1_1)) (b := r) rfl h _) rfl rfl (by intro h; cases h)
theorem glebelaw3_Pre.calls (a0 : Int) (a1 : Int) (a2 : Int) (a3 : Int) (r1 : Int) (r2 : Int) (r3 : Int) (r4 : Int) (w : World) (hG : GoodW w) (h : glebelaw3_Pre.f a0 a1 a2 a3 = some (r1, r2, r3, r4)) :
    Calls Tryd.prog 40 #[.int .i64 a0, .int .u64 a1, .int .u64 a2, .int .i64 a3] w fun e w' => e = .returned (.agg #[.int .i64 r1, .int .u64 r2, .int .u64 r3, .int .i64 r4]) ∧ Below w.heap.size w w' :=
  calls_of_own (fn := Tryd.f40) (c := bodyOf Tryd.f40) (om40 hG) hG Tryd.func40 (by kernel_rfl) (by kernel_rfl) (args := enc40 (a0, a1, a2, a3)) (v := .agg #[.int .i64 r1, .int .u64 r2, .int .u64 r3, .int .i64 r4]) (opt_own (dec := dec40) (enc := enr40) (a := (a0, a1, a2, a3)) (b := (r1, r2, r3, r4)) rfl h _) rfl rfl (by intro h; cases h)
theorem quad_And.calls (a0_0 : Int) (a0_1 : Int) (a1_0 : Int) (a1_1 : Int) (r1 : Int) (r2 : Int) (w : World) (hG : GoodW w) (h : quad_And.f a0_0 a0_1 a1_0 a1_1 = some (r1, r2)) :
    Calls Tryd.prog 20 #[.agg #[.int .u64 a0_0, .int .u64 a0_1], .agg #[.int .u64 a1_0, .int .u64 a1_1]] w fun e w' => e = .returned (.agg #[.int .u64 r1, .int .u64 r2]) ∧ Below w.heap.size w w' :=
  calls_of_own (fn := Tryd.f20) (c := bodyOf Tryd.f20) (om20 hG) hG Tryd.func20 (by kernel_rfl) (by kernel_rfl) (args := enc20 (a0_0, a0_1, a1_0, a1_1)) (v := .agg #[.int .u64 r1, .int .u64 r2]) (opt_own (dec := dec20) (enc := enr20) (a := (a0_0, a0_1, a1_0, a1_1)) (b := (r1, r2)) rfl h _) rfl rfl (by intro h; cases h)
theorem quad_Or.calls (a0_0 : Int) (a0_1 : Int) (a1_0 : Int) (a1_1 : Int) (r1 : Int) (r2 : Int) (w : World) (hG : GoodW w) (h : quad_Or.f a0_0 a0_1 a1_0 a1_1 = some (r1, r2)) :
    Calls Tryd.prog 21 #[.agg #[.int .u64 a0_0, .int .u64 a0_1], .agg #[.int .u64 a1_0, .int .u64 a1_1]] w fun e w' => e = .returned (.agg #[.int .u64 r1, .int .u64 r2]) ∧ Below w.heap.size w w' :=
  calls_of_own (fn := Tryd.f21) (c := bodyOf Tryd.f21) (om21 hG) hG Tryd.func21 (by kernel_rfl) (by kernel_rfl) (args := enc21 (a0_0, a0_1, a1_0, a1_1)) (v := .agg #[.int .u64 r1, .int .u64 r2]) (opt_own (dec := dec21) (enc := enr21) (a := (a0_0, a0_1, a1_0, a1_1)) (b := (r1, r2)) rfl h _) rfl rfl (by intro h; cases h)
theorem quad_Not.calls (a0_0 : Int) (a0_1 : Int) (r1 : Int) (r2 : Int) (w : World) (hG : GoodW w) (h : quad_Not.f a0_0 a0_1 = some (r1, r2)) :
    Calls Tryd.prog 24 #[.agg #[.int .u64 a0_0, .int .u64 a0_1]] w fun e w' => e = .returned (.agg #[.int .u64 r1, .int .u64 r2]) ∧ Below w.heap.size w w' :=
  calls_of_own (fn := Tryd.f24) (c := bodyOf Tryd.f24) (om24 hG) hG Tryd.func24 (by kernel_rfl) (by kernel_rfl) (args := enc24 (a0_0, a0_1)) (v := .agg #[.int .u64 r1, .int .u64 r2]) (opt_own (dec := dec24) (enc := enr24) (a := (a0_0, a0_1)) (b := (r1, r2)) rfl h _) rfl rfl (by intro h; cases h)
theorem addr_Bits.calls (a0 : Int) (r : Int) (w : World) (hG : GoodW w) (h : addr_Bits.f a0 = some r) :
    Calls Tryd.prog 59 #[.int .i64 a0] w fun e w' => e = .returned (.int .i64 r) ∧ Below w.heap.size w w' :=
  calls_of_own (fn := Tryd.f59) (c := bodyOf Tryd.f59) (om59 hG) hG Tryd.func59 (by kernel_rfl) (by kernel_rfl) (args := enc59 (a0)) (v := .int .i64 r) (opt_own (dec := dec59) (enc := enr59) (a := (a0)) (b := r) rfl h _) rfl rfl (by intro h; cases h)
theorem quad_Mask.calls (a0 : Int) (r1 : Int) (r2 : Int) (w : World) (hG : GoodW w) (h : quad_Mask.f a0 = some (r1, r2)) :
    Calls Tryd.prog 19 #[.int .i64 a0] w fun e w' => e = .returned (.agg #[.int .u64 r1, .int .u64 r2]) ∧ Below w.heap.size w w' :=
  calls_of_own (fn := Tryd.f19) (c := bodyOf Tryd.f19) (om19 hG) hG Tryd.func19 (by kernel_rfl) (by kernel_rfl) (args := enc19 (a0)) (v := .agg #[.int .u64 r1, .int .u64 r2]) (opt_own (dec := dec19) (enc := enr19) (a := (a0)) (b := (r1, r2)) rfl h _) rfl rfl (by intro h; cases h)
theorem pref_mask.calls (a0 : Int) (a1 : Int) (r1 : Int) (r2 : Int) (w : World) (hG : GoodW w) (h : pref_mask.f a0 a1 = some (r1, r2)) :
    Calls Tryd.prog 63 #[.int .i64 a0, .int .i64 a1] w fun e w' => e = .returned (.agg #[.int .u64 r1, .int .u64 r2]) ∧ Below w.heap.size w w' :=
  calls_of_own (fn := Tryd.f63) (c := bodyOf Tryd.f63) (om63 hG) hG Tryd.func63 (by kernel_rfl) (by kernel_rfl) (args := enc63 (a0, a1)) (v := .agg #[.int .u64 r1, .int .u64 r2]) (opt_own (dec := dec63) (enc := enr63) (a := (a0, a1)) (b := (r1, r2)) rfl h _) rfl rfl (by intro h; cases h)
theorem pref_Ok.calls (a0_0 : Int) (a0_1 : Int) (a0_2 : Int) (a0_3 : Int) (r : Bool) (w : World) (hG : GoodW w) (h : pref_Ok.f a0_0 a0_1 a0_2 a0_3 = some r) :
    Calls Tryd.prog 62 #[.agg #[.int .i64 a0_0, .int .u64 a0_1, .int .u64 a0_2, .int .i64 a0_3]] w fun e w' => e = .returned (.bool r) ∧ Below w.heap.size w w' :=
  calls_of_own (fn := Tryd.f62) (c := bodyOf Tryd.f62) (om62 hG) hG Tryd.func62 (by kernel_rfl) (by kernel_rfl) (args := enc62 (a0_0, a0_1, a0_2, a0_3)) (v := .bool r) (opt_own (dec := dec62) (enc := enr62) (a := (a0_0, a0_1, a0_2, a0_3)) (b := r) rfl h _) rfl rfl (by intro h; cases h)
theorem pref_Last.calls (a0_0 : Int) (a0_1 : Int) (a0_2 : Int) (a0_3 : Int) (r1 : Int) (r2 : Int) (r3 : Int) (w : World) (hG : GoodW w) (h : pref_Last.f a0_0 a0_1 a0_2 a0_3 = some (r1, r2, r3)) :
    Calls Tryd.prog 37 #[.agg #[.int .i64 a0_0, .int .u64 a0_1, .int .u64 a0_2, .int .i64 a0_3]] w fun e w' => e = .returned (.agg #[.int .i64 r1, .int .u64 r2, .int .u64 r3]) ∧ Below w.heap.size w w' :=
  calls_of_own (fn := Tryd.f37) (c := bodyOf Tryd.f37) (om37 hG) hG Tryd.func37 (by kernel_rfl) (by kernel_rfl) (args := enc37 (a0_0, a0_1, a0_2, a0_3)) (v := .agg #[.int .i64 r1, .int .u64 r2, .int .u64 r3]) (opt_own (dec := dec37) (enc := enr37) (a := (a0_0, a0_1, a0_2, a0_3)) (b := (r1, r2, r3)) rfl h _) rfl rfl (by intro h; cases h)
theorem quad_Less.calls (a0_0 : Int) (a0_1 : Int) (a1_0 : Int) (a1_1 : Int) (r : Bool) (w : World) (hG : GoodW w) (h : quad_Less.f a0_0 a0_1 a1_0 a1_1 = some r) :
    Calls Tryd.prog 22 #[.agg #[.int .u64 a0_0, .int .u64 a0_1], .agg #[.int .u64 a1_0, .int .u64 a1_1]] w fun e w' => e = .returned (.bool r) ∧ Below w.heap.size w w' :=
  calls_of_own (fn := Tryd.f22) (c := bodyOf Tryd.f22) (om22 hG) hG Tryd.func22 (by kernel_rfl) (by kernel_rfl) (args := enc22 (a0_0, a0_1, a1_0, a1_1)) (v := .bool r) (opt_own (dec := dec22) (enc := enr22) (a := (a0_0, a0_1, a1_0, a1_1)) (b := r) rfl h _) rfl rfl (by intro h; cases h)
theorem addr_Less.calls (a0_0 : Int) (a0_1 : Int) (a0_2 : Int) (a1_0 : Int) (a1_1 : Int) (a1_2 : Int) (r : Bool) (w : World) (hG : GoodW w) (h : addr_Less.f a0_0 a0_1 a0_2 a1_0 a1_1 a1_2 = some r) :
    Calls Tryd.prog 30 #[.agg #[.int .i64 a0_0, .int .u64 a0_1, .int .u64 a0_2], .agg #[.int .i64 a1_0, .int .u64 a1_1, .int .u64 a1_2]] w fun e w' => e = .returned (.bool r) ∧ Below w.heap.size w w' :=
  calls_of_own (fn := Tryd.f30) (c := bodyOf Tryd.f30) (om30 hG) hG Tryd.func30 (by kernel_rfl) (by kernel_rfl) (args := enc30 (a0_0, a0_1, a0_2, a1_0, a1_1, a1_2)) (v := .bool r) (opt_own (dec := dec30) (enc := enr30) (a := (a0_0, a0_1, a0_2, a1_0, a1_1, a1_2)) (b := r) rfl h _) rfl rfl (by intro h; cases h)
theorem pref_Has.calls (a0_0 : Int) (a0_1 : Int) (a0_2 : Int) (a0_3 : Int) (a1_0 : Int) (a1_1 : Int) (a1_2 : Int) (r : Bool) (w : World) (hG : GoodW w) (h : pref_Has.f a0_0 a0_1 a0_2 a0_3 a1_0 a1_1 a1_2 = some r) :
    Calls Tryd.prog 42 #[.agg #[.int .i64 a0_0, .int .u64 a0_1, .int .u64 a0_2, .int .i64 a0_3], .agg #[.int .i64 a1_0, .int .u64 a1_1, .int .u64 a1_2]] w fun e w' => e = .returned (.bool r) ∧ Below w.heap.size w w' :=
  calls_of_own (fn := Tryd.f42) (c := bodyOf Tryd.f42) (om42 hG) hG Tryd.func42 (by kernel_rfl) (by kernel_rfl) (args := enc42 (a0_0, a0_1, a0_2, a0_3, a1_0, a1_1, a1_2)) (v := .bool r) (opt_own (dec := dec42) (enc := enr42) (a := (a0_0, a0_1, a0_2, a0_3, a1_0, a1_1, a1_2)) (b := r) rfl h _) rfl rfl (by intro h; cases h)
theorem pref_First.calls (a0_0 : Int) (a0_1 : Int) (a0_2 : Int) (a0_3 : Int) (r1 : Int) (r2 : Int) (r3 : Int) (w : World) (hG : GoodW w) (h : pref_First.f a0_0 a0_1 a0_2 a0_3 = some (r1, r2, r3)) :
    Calls Tryd.prog 36 #[.agg #[.int .i64 a0_0, .int .u64 a0_1, .int .u64 a0_2, .int .i64 a0_3]] w fun e w' => e = .returned (.agg #[.int .i64 r1, .int .u64 r2, .int .u64 r3]) ∧ Below w.heap.size w w' :=
  calls_of_own (fn := Tryd.f36) (c := bodyOf Tryd.f36) (om36 hG) hG Tryd.func36 (by kernel_rfl) (by kernel_rfl) (args := enc36 (a0_0, a0_1, a0_2, a0_3)) (v := .agg #[.int .i64 r1, .int .u64 r2, .int .u64 r3]) (opt_own (dec := dec36) (enc := enr36) (a := (a0_0, a0_1, a0_2, a0_3)) (b := (r1, r2, r3)) rfl h _) rfl rfl (by intro h; cases h)
theorem pref_Over.calls (a0_0 : Int) (a0_1 : Int) (a0_2 : Int) (a0_3 : Int) (a1_0 : Int) (a1_1 : Int) (a1_2 : Int) (a1_3 : Int) (r : Bool) (w : World) (hG : GoodW w) (h : pref_Over.f a0_0 a0_1 a0_2 a0_3 a1_0 a1_1 a1_2 a1_3 = some r) :
    Calls Tryd.prog 44 #[.agg #[.int .i64 a0_0, .int .u64 a0_1, .int .u64 a0_2, .int .i64 a0_3], .agg #[.int .i64 a1_0, .int .u64 a1_1, .int .u64 a1_2, .int .i64 a1_3]] w fun e w' => e = .returned (.bool r) ∧ Below w.heap.size w w' :=
  calls_of_own (fn := Tryd.f44) (c := bodyOf Tryd.f44) (om44 hG) hG Tryd.func44 (by kernel_rfl) (by kernel_rfl) (args := enc44 (a0_0, a0_1, a0_2, a0_3, a1_0, a1_1, a1_2, a1_3)) (v := .bool r) (opt_own (dec := dec44) (enc := enr44) (a := (a0_0, a0_1, a0_2, a0_3, a1_0, a1_1, a1_2, a1_3)) (b := r) rfl h _) rfl rfl (by intro h; cases h)
theorem pref_Less.calls (a0_0 : Int) (a0_1 : Int) (a0_2 : Int) (a0_3 : Int) (a1_0 : Int) (a1_1 : Int) (a1_2 : Int) (a1_3 : Int) (r : Bool) (w : World) (hG : GoodW w) (h : pref_Less.f a0_0 a0_1 a0_2 a0_3 a1_0 a1_1 a1_2 a1_3 = some r) :
    Calls Tryd.prog 45 #[.agg #[.int .i64 a0_0, .int .u64 a0_1, .int .u64 a0_2, .int .i64 a0_3], .agg #[.int .i64 a1_0, .int .u64 a1_1, .int .u64 a1_2, .int .i64 a1_3]] w fun e w' => e = .returned (.bool r) ∧ Below w.heap.size w w' :=
  calls_of_own (fn := Tryd.f45) (c := bodyOf Tryd.f45) (om45 hG) hG Tryd.func45 (by kernel_rfl) (by kernel_rfl) (args := enc45 (a0_0, a0_1, a0_2, a0_3, a1_0, a1_1, a1_2, a1_3)) (v := .bool r) (opt_own (dec := dec45) (enc := enr45) (a := (a0_0, a0_1, a0_2, a0_3, a1_0, a1_1, a1_2, a1_3)) (b := r) rfl h _) rfl rfl (by intro h; cases h)
theorem gleberef1_Next.calls (a0_0 : Int) (a0_1 : Int) (a0_2 : Int) (r1 : Int) (r2 : Int) (r3 : Int) (r4 : Bool) (w : World) (hG : GoodW w) (h : gleberef1_Next.f a0_0 a0_1 a0_2 = some (r1, r2, r3, r4)) :
    Calls Tryd.prog 46 #[.agg #[.int .i64 a0_0, .int .u64 a0_1, .int .u64 a0_2]] w fun e w' => e = .returned (.tuple #[.agg #[.int .i64 r1, .int .u64 r2, .int .u64 r3], .bool r4]) ∧ Below w.heap.size w w' :=
  calls_of_own (fn := Tryd.f46) (c := bodyOf Tryd.f46) (om46 hG) hG Tryd.func46 (by kernel_rfl) (by kernel_rfl) (args := enc46 (a0_0, a0_1, a0_2)) (v := .tuple #[.agg #[.int .i64 r1, .int .u64 r2, .int .u64 r3], .bool r4]) (opt_own (dec := dec46) (enc := enr46) (a := (a0_0, a0_1, a0_2)) (b := (r1, r2, r3, r4)) rfl h _) rfl rfl (by intro h; cases h)
theorem addr_Parse.calls (a0 : ByteArray) (r1 : Int) (r2 : Int) (r3 : Int) (r4 : Bool) (w : World) (hG : GoodW w) (h : addr_Parse.f a0 = some (r1, r2, r3, r4)) :
    Calls Tryd.prog 25 #[.string a0] w fun e w' => e = .returned (.tuple #[.agg #[.int .i64 r1, .int .u64 r2, .int .u64 r3], .bool r4]) ∧ Below w.heap.size w w' :=
  calls_of_own (fn := Tryd.f25) (c := bodyOf Tryd.f25) (om25 hG) hG Tryd.func25 (by kernel_rfl) (by kernel_rfl) (args := enc25 (a0)) (v := .tuple #[.agg #[.int .i64 r1, .int .u64 r2, .int .u64 r3], .bool r4]) (opt_own (dec := dec25) (enc := enr25) (a := (a0)) (b := (r1, r2, r3, r4)) rfl h _) rfl rfl (by intro h; cases h)
theorem pref_Parse.calls (a0 : ByteArray) (r1 : Int) (r2 : Int) (r3 : Int) (r4 : Int) (r5 : Bool) (w : World) (hG : GoodW w) (h : pref_Parse.f a0 = some (r1, r2, r3, r4, r5)) :
    Calls Tryd.prog 33 #[.string a0] w fun e w' => e = .returned (.tuple #[.agg #[.int .i64 r1, .int .u64 r2, .int .u64 r3, .int .i64 r4], .bool r5]) ∧ Below w.heap.size w w' :=
  calls_of_own (fn := Tryd.f33) (c := bodyOf Tryd.f33) (om33 hG) hG Tryd.func33 (by kernel_rfl) (by kernel_rfl) (args := enc33 (a0)) (v := .tuple #[.agg #[.int .i64 r1, .int .u64 r2, .int .u64 r3, .int .i64 r4], .bool r5]) (opt_own (dec := dec33) (enc := enr33) (a := (a0)) (b := (r1, r2, r3, r4, r5)) rfl h _) rfl rfl (by intro h; cases h)
theorem pref_Print.calls (a0_0 : Int) (a0_1 : Int) (a0_2 : Int) (a0_3 : Int) (r : ByteArray) (w : World) (hG : GoodW w) (h : pref_Print.f a0_0 a0_1 a0_2 a0_3 = some r) :
    Calls Tryd.prog 38 #[.agg #[.int .i64 a0_0, .int .u64 a0_1, .int .u64 a0_2, .int .i64 a0_3]] w fun e w' => e = .returned (.string r) ∧ Below w.heap.size w w' :=
  calls_of_own (fn := Tryd.f38) (c := bodyOf Tryd.f38) (om38 hG) hG Tryd.func38 (by kernel_rfl) (by kernel_rfl) (args := enc38 (a0_0, a0_1, a0_2, a0_3)) (v := .string r) (opt_own (dec := dec38) (enc := enr38) (a := (a0_0, a0_1, a0_2, a0_3)) (b := r) rfl h _) rfl rfl (by intro h; cases h)
end Go.Proofs.YtfnacgojmdbjmaaDoor.PPH
end

section
/- Words of the print: those of them that this claim names; the others were left out by a program of this claim. -/
/- Prefixes of numbers: what the functions answer, in numbers. Plain facts over the told functions; no conditions. -/
namespace Go.Proofs.YtfnacgojmdbjmaaDoor.PPH
open Go Go.RowKit Go.Proofs.YtfnacgojmdbjmaaDoorW.PrintWords Go.Proofs.YtfnacgojmdbjmaaDoorW.PrintLast Go.Proofs.YtfnacgojmdbjmaaDoorW.PrintMore
open Go.Det (inQ inU M64 M128 qn addN highN clampN maskN inQ_quad qn_quad)

/-! halves -/
def H (q : Nat) : Int := ((q / M64 : Nat) : Int)
def L (q : Nat) : Int := ((q % M64 : Nat) : Int)
theorem m64 : M64 = 2 ^ 64 := rfl
theorem m128 : M128 = 2 ^ 128 := rfl
theorem HL_inj {a b : Nat} (h1 : H a = H b) (h2 : L a = L b) : a = b := by
  unfold H at h1; unfold L at h2
  have e1 : a / M64 = b / M64 := by exact_mod_cast h1
  have e2 : a % M64 = b % M64 := by exact_mod_cast h2
  rw [← Nat.div_add_mod a M64, ← Nat.div_add_mod b M64, e1, e2]
theorem HL_zero (r : Nat) : (H r == 0 && L r == 0) = decide (r = 0) := by
  rw [Bool.eq_iff_iff, Bool.and_eq_true, beq_iff_eq, beq_iff_eq, decide_eq_true_eq]
  constructor
  · rintro ⟨a, b⟩; exact HL_inj (b := 0) a b
  · rintro rfl; exact ⟨rfl, rfl⟩
theorem H_lt {q : Nat} (h : q < M128) : q / M64 < 18446744073709551616 := by
  have : M128 = M64 * M64 := by decide
  rw [this] at h
  exact Nat.div_lt_of_lt_mul h
theorem L_lt (q : Nat) : q % M64 < 18446744073709551616 := Nat.mod_lt _ (by decide)
theorem and_HL {a b : Nat} (ha : a < M128) (hb : b < M128) : Go.bits .and .u64 (H a) (H b) = H (a &&& b) ∧ Go.bits .and .u64 (L a) (L b) = L (a &&& b) := by
  unfold H L
  rw [Go.bits_and_u64_nat _ _ (H_lt ha) (H_lt hb), Go.bits_and_u64_nat _ _ (L_lt a) (L_lt b), m64, ← Nat.and_div_two_pow, ← Nat.and_mod_two_pow]
  exact ⟨rfl, rfl⟩
theorem or_HL {a b : Nat} (ha : a < M128) (hb : b < M128) : Go.bits .or .u64 (H a) (H b) = H (a ||| b) ∧ Go.bits .or .u64 (L a) (L b) = L (a ||| b) := by
  unfold H L
  rw [Go.bits_or_u64_nat _ _ (H_lt ha) (H_lt hb), Go.bits_or_u64_nat _ _ (L_lt a) (L_lt b), m64, ← Nat.or_div_two_pow, ← Nat.or_mod_two_pow]
  exact ⟨rfl, rfl⟩
theorem qAnd {a b : Nat} (ha : a < M128) (hb : b < M128) : quad_And.f (H a) (L a) (H b) (L b) = some (H (a &&& b), L (a &&& b)) := by
  unfold quad_And.f; rw [(and_HL ha hb).1, (and_HL ha hb).2]
theorem rAnd {a b : Nat} (ha : a < M128) (hb : b < M128) : gleberef1_And.f (H a) (L a) (H b) (L b) = some (H (a &&& b), L (a &&& b)) := by
  unfold gleberef1_And.f; rw [(and_HL ha hb).1, (and_HL ha hb).2]
theorem qOr {a b : Nat} (ha : a < M128) (hb : b < M128) : quad_Or.f (H a) (L a) (H b) (L b) = some (H (a ||| b), L (a ||| b)) := by
  unfold quad_Or.f; rw [(or_HL ha hb).1, (or_HL ha hb).2]
theorem toI {x : Nat} (h : x < 18446744073709551616) : ((x : Nat) : Int) < 18446744073709551616 := by omega
theorem xor_HL {a : Nat} (ha : a < M128) : Go.bits .xor .u64 18446744073709551615 (H a) = H (M128 - 1 - a) ∧ Go.bits .xor .u64 18446744073709551615 (L a) = L (M128 - 1 - a) := by
  have hM : M64 = 18446744073709551616 := rfl
  have hM2 : M128 = 340282366920938463463374607431768211456 := by decide
  have x1 := H_lt ha
  have l1 := L_lt a
  have i1 : Go.Det.inU (H a) = true := Go.Det.inU_iff.2 ⟨Int.natCast_nonneg _, toI x1⟩
  have i2 : Go.Det.inU (L a) = true := Go.Det.inU_iff.2 ⟨Int.natCast_nonneg _, toI l1⟩
  have n1 : Go.bits .xor .u64 18446744073709551615 (H a) = 18446744073709551615 - H a := Go.Det.notI_u64 i1
  have n2 : Go.bits .xor .u64 18446744073709551615 (L a) = 18446744073709551615 - L a := Go.Det.notI_u64 i2
  rw [n1, n2]
  unfold H L
  have h1 := Nat.div_add_mod a M64
  generalize hx : a / M64 = x at *
  generalize hz : a % M64 = z at *
  rw [hM] at h1 ⊢
  rw [hM2] at ha ⊢
  constructor <;> omega
theorem qNot {a : Nat} (ha : a < M128) : quad_Not.f (H a) (L a) = some (H (M128 - 1 - a), L (M128 - 1 - a)) := by
  unfold quad_Not.f; rw [(xor_HL ha).1, (xor_HL ha).2]
theorem rNot {a : Nat} (ha : a < M128) : gleberef1_Not.f (H a) (L a) = some (H (M128 - 1 - a), L (M128 - 1 - a)) := by
  unfold gleberef1_Not.f; rw [(xor_HL ha).1, (xor_HL ha).2]

theorem fin_at {p : Nat → Bool} {n : Nat} (h : (List.range n).all p = true) (k : Nat) (hk : k < n) : p k = true := List.all_eq_true.1 h k (List.mem_range.2 hk)
theorem fin_mask : (List.range 129).all (fun n => decide (quad_Mask.f (n : Nat) = some (H (maskN n), L (maskN n)) ∧ gleberef1_Mask.f 300 (n : Nat) = some (H (maskN n), L (maskN n)) ∧ maskN n < M128 ∧ M128 - 1 - maskN n = 2 ^ (128 - n) - 1)) = true := by decide +kernel
theorem mask_at {n : Nat} (h : n ≤ 128) : quad_Mask.f (n : Nat) = some (H (maskN n), L (maskN n)) ∧ gleberef1_Mask.f 300 (n : Nat) = some (H (maskN n), L (maskN n)) ∧ maskN n < M128 ∧ M128 - 1 - maskN n = 2 ^ (128 - n) - 1 :=
  of_decide_eq_true (fin_at fin_mask n (by omega))

def Kd' (V : Int) (B : Nat) : Prop := (V = 4 ∧ B = 32) ∨ (V = 6 ∧ B = 128)
theorem Kd'.le {V : Int} {B : Nat} (h : Kd' V B) : B ≤ 128 := by rcases h with ⟨_, rfl⟩ | ⟨_, rfl⟩ <;> decide
theorem Kd'.bits {V : Int} {B : Nat} (h : Kd' V B) : addr_Bits.f V = some (B : Int) := by rcases h with ⟨rfl, rfl⟩ | ⟨rfl, rfl⟩ <;> rfl
theorem Kd'.rbits {V : Int} {B : Nat} (h : Kd' V B) : gleberef1_Bits.f V = some (B : Int) := by rcases h with ⟨rfl, rfl⟩ | ⟨rfl, rfl⟩ <;> rfl
theorem Kd'.pow {V : Int} {B : Nat} (h : Kd' V B) {q : Nat} (hq : q < 2 ^ B) : q < M128 := by rcases h with ⟨rfl, rfl⟩ | ⟨rfl, rfl⟩ <;> (rw [m128]; omega)
theorem w64 {n : Int} (h0 : -1000 ≤ n) (h1 : n ≤ 1000) : wrap64 n = n := by unfold wrap64; omega
theorem pMask {V : Int} {B n : Nat} (h : Kd' V B) (hn : n ≤ B) : pref_mask.f V (n : Int) = some (H (maskN (128 - B + n)), L (maskN (128 - B + n))) := by
  have hB := h.le
  unfold pref_mask.f
  rw [h.bits, Option.bind_some, w64 (n := 128 - (B : Int)) (by omega) (by omega), w64 (by omega) (by omega), show (128 - (B : Int) + (n : Int)) = ((128 - B + n : Nat) : Int) by omega, (mask_at (n := 128 - B + n) (by omega)).1, Option.bind_some]
theorem okA {V : Int} {B q : Nat} (h : Kd' V B) (hq : q < 2 ^ B) : addr_Ok.f V (H q) (L q) = some true := by
  rcases h with ⟨rfl, rfl⟩ | ⟨rfl, rfl⟩
  · unfold addr_Ok.f okF
    have h1 : q / M64 = 0 := Nat.div_eq_of_lt (by rw [m64]; omega)
    have h2 : q % M64 = q := Nat.mod_eq_of_lt (by rw [m64]; omega)
    have e1 : H q = 0 := by unfold H; rw [h1]; rfl
    have e2 : L q = (q : Int) := by unfold L; rw [h2]
    rw [if_neg (by decide), if_pos rfl, e1, if_pos rfl, e2]
    rw [decide_eq_true (show (q : Int) < 4294967296 by omega)]
  · rfl
theorem low_and (q j : Nat) : q &&& (2 ^ j - 1) = q % 2 ^ j := Nat.and_two_pow_sub_one_eq_mod q j

theorem pOk {V : Int} {B q n : Nat} (h : Kd' V B) (hq : q < 2 ^ B) (hn : n ≤ B) : pref_Ok.f V (H q) (L q) (n : Int) = some (decide (q % 2 ^ (B - n) = 0)) := by
  have hB := h.le
  have hq' := h.pow hq
  obtain ⟨_, _, hm, hm2⟩ := mask_at (n := 128 - B + n) (by omega)
  have hlt : M128 - 1 - maskN (128 - B + n) < M128 := by have : 0 < M128 := by decide
                                                         omega
  have e1 := qNot hm
  have e2 := qAnd hq' hlt
  rw [hm2, show 128 - (128 - B + n) = B - n by omega] at e1 e2
  rw [low_and] at e2
  generalize q % 2 ^ (B - n) = r at e2 ⊢
  generalize 2 ^ (B - n) - 1 = z at e1 e2
  unfold pref_Ok.f
  rw [okA h hq, Option.bind_some, if_pos rfl, if_neg (by omega), h.bits, Option.bind_some, if_neg (by omega), pMask h hn, Option.bind_some, e1, Option.bind_some, e2, Option.bind_some, HL_zero]

theorem or_low (q j : Nat) (h : q % 2 ^ j = 0) : q ||| (2 ^ j - 1) = q + (2 ^ j - 1) := by
  obtain ⟨m, rfl⟩ := Nat.dvd_of_mod_eq_zero h
  have : 2 ^ j - 1 < 2 ^ j := by have := Nat.pow_pos (n := j) (show 0 < 2 by decide); omega
  rw [← Nat.two_pow_add_eq_or_of_lt this]
theorem and_ones (i j : Nat) (h : i ≤ j) : (2 ^ i - 1) &&& (2 ^ j - 1) = 2 ^ i - 1 := by
  rw [Nat.and_two_pow_sub_one_eq_mod]
  have h1 := Nat.pow_pos (n := i) (show 0 < 2 by decide)
  have h2 : 2 ^ i ≤ 2 ^ j := Nat.pow_le_pow_right (by decide) h
  exact Nat.mod_eq_of_lt (by omega)
theorem top_lt {B q j : Nat} (hj : j ≤ B) (hq : q < 2 ^ B) (h : q % 2 ^ j = 0) : q + (2 ^ j - 1) < 2 ^ B := by
  obtain ⟨m, rfl⟩ := Nat.dvd_of_mod_eq_zero h
  have e : 2 ^ B = 2 ^ j * 2 ^ (B - j) := by rw [← Nat.pow_add]; congr 1; omega
  have hp := Nat.pow_pos (n := j) (show 0 < 2 by decide)
  rw [e] at hq ⊢
  have hm : m < 2 ^ (B - j) := Nat.lt_of_mul_lt_mul_left hq
  have : 2 ^ j * (m + 1) ≤ 2 ^ j * 2 ^ (B - j) := Nat.mul_le_mul_left _ hm
  rw [Nat.mul_add] at this
  omega

theorem pLast {V : Int} {B q n : Nat} (h : Kd' V B) (hq : q < 2 ^ B) (hn : n ≤ B) (ha : q % 2 ^ (B - n) = 0) :
    pref_Last.f V (H q) (L q) (n : Int) = some (V, H (q + (2 ^ (B - n) - 1)), L (q + (2 ^ (B - n) - 1))) := by
  have hB := h.le
  have hq' := h.pow hq
  obtain ⟨_, _, hm, hm2⟩ := mask_at (n := 128 - B + n) (by omega)
  obtain ⟨hm3, _, hm4, hm5⟩ := mask_at (n := 128 - B) (by omega)
  have hlt : M128 - 1 - maskN (128 - B + n) < M128 := by have : 0 < M128 := by decide
                                                         omega
  have hlt2 : M128 - 1 - maskN (128 - B) < M128 := by have : 0 < M128 := by decide
                                                      omega
  have e1 := qNot hm
  have e2 := qNot hm4
  have e3 := qAnd hlt hlt2
  rw [hm2, show 128 - (128 - B + n) = B - n by omega] at e1 e3
  rw [hm5, show 128 - (128 - B) = B by omega] at e2 e3
  rw [and_ones _ _ (by omega)] at e3
  have hlt3 : 2 ^ (B - n) - 1 < M128 := by rw [hm2, show 128 - (128 - B + n) = B - n by omega] at hlt; exact hlt
  have e4 := qOr hq' hlt3
  rw [or_low _ _ ha] at e4
  have e0 := pOk h hq hn
  rw [decide_eq_true ha] at e0
  have w := w64 (n := 128 - (B : Int)) (by omega) (by omega)
  have hM : quad_Mask.f (128 - (B : Int)) = some (H (maskN (128 - B)), L (maskN (128 - B))) := by
    rw [show (128 - (B : Int)) = ((128 - B : Nat) : Int) by omega]; exact hm3
  generalize 2 ^ (B - n) - 1 = z at *
  generalize 2 ^ B - 1 = y at *
  unfold pref_Last.f
  rw [e0, Option.bind_some, if_pos rfl, h.bits, Option.bind_some, w, hM, Option.bind_some, pMask h hn, Option.bind_some, e1, Option.bind_some, e2, Option.bind_some, e3, Option.bind_some, e4, Option.bind_some]

theorem less_at (V : Int) {a b : Nat} : addr_Less.f V (H a) (L a) V (H b) (L b) = some (decide (a < b)) := by
  have h1 := Nat.div_add_mod a M64
  have h2 := Nat.div_add_mod b M64
  have l1 := L_lt a
  have l2 := L_lt b
  have hM : M64 = 18446744073709551616 := rfl
  unfold addr_Less.f quad_Less.f H L
  rw [if_neg (by omega), if_pos rfl]
  generalize a / M64 = x at *
  generalize b / M64 = y at *
  generalize a % M64 = z at *
  generalize b % M64 = w at *
  rw [hM] at h1 h2
  by_cases c1 : (x : Int) < (y : Int)
  · rw [if_pos c1, Option.bind_some, decide_eq_true (by omega)]
  · rw [if_neg c1]
    by_cases c2 : (x : Int) = (y : Int)
    · rw [if_pos c2, Option.bind_some]
      congr 1
      rw [Bool.eq_iff_iff, decide_eq_true_eq, decide_eq_true_eq]
      omega
    · rw [if_neg c2, Option.bind_some, decide_eq_false (by omega)]

theorem or_eq_some {α : Type} {f : Nat → Option α} (h : ∀ k, LeO (f k) (f (k + 1))) {k0 : Nat} {r : α} (h0 : f k0 = some r) : ∀ k, k0 ≤ k → f k = some r := by
  intro k hk
  induction hk with
  | refl => exact h0
  | step _ ih => exact h _ _ ih
theorem rMask {k n : Nat} (hk : 300 ≤ k) (h : n ≤ 128) : gleberef1_Mask.f k (n : Nat) = some (H (maskN n), L (maskN n)) :=
  or_eq_some (f := fun k => gleberef1_Mask.f k (n : Nat)) (fun k => gleberef1_Mask.mono _ k) (mask_at h).2.1 k hk

theorem okHL {V : Int} {B q : Nat} (h : Kd' V B) (hq : q < M128) : addr_Ok.f V (H q) (L q) = some (decide (q < 2 ^ B)) := by
  rcases h with ⟨rfl, rfl⟩ | ⟨rfl, rfl⟩
  · have h1 := Nat.div_add_mod q M64
    have l1 := L_lt q
    have hM : M64 = 18446744073709551616 := rfl
    unfold addr_Ok.f okF H L
    rw [if_neg (by decide), if_pos rfl]
    generalize q / M64 = x at *
    generalize q % M64 = z at *
    rw [hM] at h1
    by_cases c : (x : Int) = 0
    · rw [if_pos c]
      have e : ((z : Int) < 4294967296) ↔ q < 2 ^ 32 := by omega
      exact congrArg some (decide_eq_decide.2 e)
    · rw [if_neg c, decide_eq_false (by omega)]
  · unfold addr_Ok.f okF
    rw [if_pos rfl, decide_eq_true (show q < 2 ^ 128 by rw [← m128]; exact hq)]
theorem fin_all : [32, 128].all (fun B => (List.range (B + 1)).all (fun j => decide (maskN (128 - j) &&& (M128 - 1 - maskN (128 - B)) = 2 ^ B - 2 ^ j ∧ (M128 - 1 - (2 ^ B - 2 ^ j)) &&& (M128 - 1 - maskN (128 - B)) = 2 ^ j - 1 ∧ 2 ^ B - 2 ^ j < M128 ∧ M128 - 1 - (2 ^ B - 2 ^ j) < M128 ∧ M128 - 1 - maskN (128 - B) < M128 ∧ 2 ^ j - 1 < M128))) = true := by decide +kernel
theorem all_fin {V : Int} {B j : Nat} (h : Kd' V B) (hj : j ≤ B) : maskN (128 - j) &&& (M128 - 1 - maskN (128 - B)) = 2 ^ B - 2 ^ j ∧ (M128 - 1 - (2 ^ B - 2 ^ j)) &&& (M128 - 1 - maskN (128 - B)) = 2 ^ j - 1 ∧ 2 ^ B - 2 ^ j < M128 ∧ M128 - 1 - (2 ^ B - 2 ^ j) < M128 ∧ M128 - 1 - maskN (128 - B) < M128 ∧ 2 ^ j - 1 < M128 := by
  have hB : B ∈ [32, 128] := by rcases h with ⟨_, rfl⟩ | ⟨_, rfl⟩ <;> simp
  exact of_decide_eq_true (fin_at (List.all_eq_true.1 fin_all B hB) j (by omega))
theorem and_high (a j m : Nat) : a &&& (2 ^ j * m) = 2 ^ j * ((a / 2 ^ j) &&& m) := by
  apply Nat.eq_of_testBit_eq
  intro i
  rw [Nat.testBit_and, Nat.testBit_two_pow_mul, Nat.testBit_two_pow_mul, Nat.testBit_and]
  by_cases h : i ≥ j
  · have : (a / 2 ^ j).testBit (i - j) = a.testBit i := by rw [Nat.testBit_div_two_pow]; congr 1; omega
    rw [this]
    simp [h]
  · simp [h]
theorem and_mask (a N j : Nat) (hj : j ≤ N) (ha : a < 2 ^ N) : a &&& (2 ^ N - 2 ^ j) = 2 ^ j * (a / 2 ^ j) := by
  have e : 2 ^ N - 2 ^ j = 2 ^ j * (2 ^ (N - j) - 1) := by
    rw [Nat.mul_sub, ← Nat.pow_add, Nat.mul_one]; congr 2; omega
  rw [e, and_high, Nat.and_two_pow_sub_one_eq_mod]
  congr 1
  refine Nat.mod_eq_of_lt (Nat.div_lt_of_lt_mul ?_)
  rw [← Nat.pow_add]
  rwa [show j + (N - j) = N by omega]
theorem rMaskB {V : Int} {B n k : Nat} (h : Kd' V B) (hn : n ≤ B) (hk : 300 ≤ k) : gleberef1_Mask.f k (wrap64 (wrap64 (128 - (B : Int)) + (n : Int))) = some (H (maskN (128 - (B - n))), L (maskN (128 - (B - n)))) := by
  have hB := h.le
  rw [w64 (n := 128 - (B : Int)) (by omega) (by omega), w64 (by omega) (by omega), show (128 - (B : Int) + (n : Int)) = ((128 - (B - n) : Nat) : Int) by omega]
  exact rMask hk (by omega)
theorem rMask0 {V : Int} {B k : Nat} (h : Kd' V B) (hk : 300 ≤ k) : gleberef1_Mask.f k (wrap64 (128 - (B : Int))) = some (H (maskN (128 - B)), L (maskN (128 - B))) := by
  have hB := h.le
  rw [w64 (n := 128 - (B : Int)) (by omega) (by omega), show (128 - (B : Int)) = ((128 - B : Nat) : Int) by omega]
  exact rMask hk (by omega)
theorem mask_lt {n : Nat} (h : n ≤ 128) : maskN n < M128 := (mask_at h).2.2.1
theorem rOk_eq (V a b : Int) : gleberef1_Ok.f V a b = addr_Ok.f V a b := rfl
theorem HL_beq (a b : Nat) : (H a == H b && L a == L b) = decide (a = b) := by
  rw [Bool.eq_iff_iff, Bool.and_eq_true, beq_iff_eq, beq_iff_eq, decide_eq_true_eq]
  constructor
  · rintro ⟨x, y⟩; exact HL_inj x y
  · rintro rfl; exact ⟨rfl, rfl⟩
theorem wrapu_pos (x : Int) : 0 ≤ IntKind.u64.wrap x := (wrap_within .u64 x).1
theorem addr_l0 (v : Int) : ∀ (d k : Nat) (h l : Int), d ≤ 8 → d < k → 0 ≤ h → h < 18446744073709551616 → 0 ≤ l → l < 18446744073709551616 →
    ∃ h' l', glebelaw2_Addr.l0 k v (8 - (d : Int)) h l = some (6, h', l') ∧ 0 ≤ h' ∧ h' < 18446744073709551616 ∧ 0 ≤ l' ∧ l' < 18446744073709551616 := by
  intro d
  induction d with
  | zero =>
    intro k h l _ hk h1 h2 h3 h4
    obtain ⟨k, rfl⟩ : ∃ m, k = m + 1 := ⟨k - 1, by omega⟩
    refine ⟨h, l, ?_, h1, h2, h3, h4⟩
    rw [glebelaw2_Addr.l0, if_neg (by omega)]
  | succ d ih =>
    intro k h l hd hk h1 h2 h3 h4
    obtain ⟨k, rfl⟩ : ∃ m, k = m + 1 := ⟨k - 1, by omega⟩
    have hx : ((8 : Int) - ((d + 1 : Nat) : Int)) < 8 := by omega
    have hw : wrap64 ((8 : Int) - ((d + 1 : Nat) : Int) + 1) = 8 - (d : Int) := by unfold wrap64; omega
    have b0 : ∀ op (x y : Int), 0 ≤ Go.bits op .u64 x y := fun op x y => bits_lo_u64 op x y
    have b1 : ∀ op (x y : Int), Go.bits op .u64 x y < 18446744073709551616 := fun op x y => by have := bits_hi_u64 op x y; omega
    rw [glebelaw2_Addr.l0, if_pos hx, if_pos (wrapu_pos _)]
    split
    · split
      · rw [if_pos (wrapu_pos _), hw]
        exact ih k _ l (by omega) (by omega) (b0 _ _ _) (b1 _ _ _) h3 h4
      · rw [if_pos (wrapu_pos _), hw]
        exact ih k h _ (by omega) (by omega) h1 h2 (b0 _ _ _) (b1 _ _ _)
    · rw [hw]
      exact ih k h l (by omega) (by omega) h1 h2 h3 h4
theorem and32_le (a : Int) (h0 : 0 ≤ a) (h1 : a < 18446744073709551616) : 0 ≤ Go.bits .and .u64 a 4294967295 ∧ Go.bits .and .u64 a 4294967295 ≤ 4294967295 := by
  obtain ⟨A, rfl⟩ := Int.eq_ofNat_of_zero_le h0
  rw [show (4294967295 : Int) = ((4294967295 : Nat) : Int) from rfl, Go.bits_and_u64_nat A 4294967295 (by omega) (by decide)]
  have : A &&& 4294967295 ≤ 4294967295 := Nat.and_le_right
  omega
theorem HL_of {h l : Int} (h0 : 0 ≤ h) (h1 : h < 18446744073709551616) (l0 : 0 ≤ l) (l1 : l < 18446744073709551616) : ∃ q, q < 2 ^ 128 ∧ H q = h ∧ L q = l := by
  obtain ⟨x, rfl⟩ := Int.eq_ofNat_of_zero_le h0
  obtain ⟨z, rfl⟩ := Int.eq_ofNat_of_zero_le l0
  have hM : M64 = 18446744073709551616 := rfl
  have d1 : (x * 18446744073709551616 + z) / 18446744073709551616 = x := by omega
  have d2 : (x * 18446744073709551616 + z) % 18446744073709551616 = z := by omega
  refine ⟨x * 18446744073709551616 + z, by omega, ?_, ?_⟩
  · unfold H; rw [hM, d1]
  · unfold L; rw [hM, d2]
theorem addr_at {k : Nat} (hk : 9 ≤ k) (v a b : Int) (ha : 0 ≤ a) (ha2 : a < 18446744073709551616) (hb : 0 ≤ b) (hb2 : b < 18446744073709551616) : ∃ V B q, Kd' V B ∧ q < 2 ^ B ∧ glebelaw2_Addr.f k v a b = some (V, H q, L q) := by
  unfold glebelaw2_Addr.f
  split
  · rw [if_pos (wrapu_pos _)]
    obtain ⟨h0, h1⟩ := and32_le a ha ha2
    have hr : 0 ≤ shr .u64 (Go.bits .and .u64 a 4294967295) (IntKind.u64.wrap (wrap64 (Go.bits .and .i64 (v / 2) 3 * 8))) ∧ shr .u64 (Go.bits .and .u64 a 4294967295) (IntKind.u64.wrap (wrap64 (Go.bits .and .i64 (v / 2) 3 * 8))) ≤ 4294967295 := by
      unfold shr
      have hp : (0 : Int) < 2 ^ min (IntKind.u64.wrap (wrap64 (Go.bits .and .i64 (v / 2) 3 * 8))).toNat IntKind.u64.bits := Int.pow_pos (by decide)
      refine ⟨Int.ediv_nonneg h0 (by omega), ?_⟩
      have := Int.ediv_le_self (2 ^ min (IntKind.u64.wrap (wrap64 (Go.bits .and .i64 (v / 2) 3 * 8))).toNat IntKind.u64.bits) h0
      omega
    obtain ⟨Q, hQ⟩ := Int.eq_ofNat_of_zero_le hr.1
    rw [hQ] at hr ⊢
    have d1 : Q / M64 = 0 := Nat.div_eq_of_lt (by rw [m64]; omega)
    have d2 : Q % M64 = Q := Nat.mod_eq_of_lt (by rw [m64]; omega)
    refine ⟨4, 32, Q, .inl ⟨rfl, rfl⟩, by omega, ?_⟩
    unfold H L
    rw [d1, d2]
    rfl
  · obtain ⟨h', l', e, q0, q1, q2, q3⟩ := addr_l0 v 8 k a b (by omega) (by omega) ha ha2 hb hb2
    obtain ⟨Q, hQ, e1, e2⟩ := HL_of q0 q1 q2 q3
    refine ⟨6, 128, Q, .inr ⟨rfl, rfl⟩, hQ, ?_⟩
    rw [e1, e2]
    exact e

theorem tmod_at (x : Int) {B : Nat} (hB : B ≤ 128) : ∃ n : Nat, n ≤ B ∧ Int.tmod (Go.bits .and .i64 x 255) ((B : Int) + 1) = (n : Int) := by
  have h : 0 ≤ Go.bits .and .i64 x 255 ∧ Go.bits .and .i64 x 255 ≤ 255 := by
    show 0 ≤ IntKind.i64.wrap ((BitVec.ofInt 64 x &&& BitVec.ofInt 64 255).toNat : Int) ∧ IntKind.i64.wrap ((BitVec.ofInt 64 x &&& BitVec.ofInt 64 255).toNat : Int) ≤ 255
    have h : (BitVec.ofInt 64 x &&& BitVec.ofInt 64 255).toNat ≤ 255 := by
      rw [BitVec.toNat_and]
      exact Nat.le_trans Nat.and_le_right (by decide)
    rw [IntKind.wrap_i64]
    omega
  rw [Int.tmod_eq_emod_of_nonneg h.1]
  have h1 := Int.emod_nonneg (Go.bits .and .i64 x 255) (show (B : Int) + 1 ≠ 0 by omega)
  have h2 := Int.emod_lt_of_pos (Go.bits .and .i64 x 255) (show 0 < (B : Int) + 1 by omega)
  exact ⟨(Go.bits .and .i64 x 255 % ((B : Int) + 1)).toNat, by omega, by omega⟩
theorem pre_t {v a b n V h l t r M1 M2 K1 K2 N1 N2 c1 c2 x y : Int} (h0 : glebelaw2_Addr.f 300 v a b = some (V, h, l)) (hb : gleberef1_Bits.f V = some t) (hw : wrap64 (t + 1) = r) (hr : r ≠ 0) {m : Int} (hm0 : Int.tmod (Go.bits .and .i64 n 255) r = m)
    (hm : gleberef1_Mask.f 300 (wrap64 (wrap64 (128 - t) + m)) = some (M1, M2)) (hk : gleberef1_Mask.f 300 (wrap64 (128 - t)) = some (K1, K2)) (hn : gleberef1_Not.f K1 K2 = some (N1, N2))
    (ha : gleberef1_And.f M1 M2 N1 N2 = some (c1, c2)) (hx : gleberef1_And.f h l c1 c2 = some (x, y)) : glebelaw3_Pre.f v a b n = some (V, x, y, m) := by
  unfold glebelaw3_Pre.f
  rw [h0, Option.bind_some]
  simp only [hb, Option.bind_some, hw, if_neg hr, hm0, hm, hk, hn, ha, hx]
theorem and_all {V : Int} {B m : Nat} (h : Kd' V B) : gleberef1_And.f (H (maskN (128 - (B - m)))) (L (maskN (128 - (B - m)))) (H (M128 - 1 - maskN (128 - B))) (L (M128 - 1 - maskN (128 - B))) = some (H (2 ^ B - 2 ^ (B - m)), L (2 ^ B - 2 ^ (B - m))) := by
  have hB := h.le
  obtain ⟨f1, _, f3, _, f5, _⟩ := all_fin h (j := B - m) (by omega)
  have e2 := rAnd (mask_lt (n := 128 - (B - m)) (by omega)) f5
  rw [f1] at e2
  exact e2
theorem and_cut {V : Int} {B q m : Nat} (h : Kd' V B) (hq : q < 2 ^ B) : gleberef1_And.f (H q) (L q) (H (2 ^ B - 2 ^ (B - m))) (L (2 ^ B - 2 ^ (B - m))) = some (H (2 ^ (B - m) * (q / 2 ^ (B - m))), L (2 ^ (B - m) * (q / 2 ^ (B - m)))) := by
  obtain ⟨_, _, f3, _, _, _⟩ := all_fin h (j := B - m) (by omega)
  have e3 := rAnd (h.pow hq) f3
  rw [and_mask q B (B - m) (by omega) hq] at e3
  exact e3
theorem pre_u {V : Int} {B q m : Nat} (h : Kd' V B) (hq : q < 2 ^ B) (hm : m ≤ B) : ∃ u u2 u3 y c : Nat, (∀ k, 300 ≤ k → gleberef1_Mask.f k (wrap64 (wrap64 (128 - (B : Int)) + (m : Int))) = some (H u, L u)) ∧ (∀ k, 300 ≤ k → gleberef1_Mask.f k (wrap64 (128 - (B : Int))) = some (H u2, L u2)) ∧
    gleberef1_Not.f (H u2) (L u2) = some (H u3, L u3) ∧ gleberef1_And.f (H u) (L u) (H u3) (L u3) = some (H y, L y) ∧ gleberef1_And.f (H q) (L q) (H y) (L y) = some (H c, L c) ∧ c ≤ q ∧ c % 2 ^ (B - m) = 0 :=
  ⟨maskN (128 - (B - m)), maskN (128 - B), M128 - 1 - maskN (128 - B), 2 ^ B - 2 ^ (B - m), 2 ^ (B - m) * (q / 2 ^ (B - m)), fun _ hk => rMaskB h hm hk, fun _ hk => rMask0 h hk, rNot (mask_lt (by omega)), and_all h, and_cut h hq, Nat.mul_div_le _ _, Nat.mul_mod_right _ _⟩
theorem add_at {q n : Nat} (hq : q < M128) (hn : n < 4096) : gleberef1_Add.f (H q) (L q) 0 (n : Int) = if q + n < M128 then some (H (q + n), L (q + n), true) else some (0, 0, false) := by
  have h1 := Nat.div_add_mod q M64
  have l1 := L_lt q
  have x1 := H_lt hq
  have h2 := Nat.div_add_mod (q + n) M64
  have l2 := L_lt (q + n)
  have hM : M64 = 18446744073709551616 := rfl
  have hM2 : M128 = 340282366920938463463374607431768211456 := by decide
  unfold gleberef1_Add.f H L
  generalize q / M64 = x at *
  generalize q % M64 = z at *
  generalize (q + n) / M64 = x' at *
  generalize (q + n) % M64 = z' at *
  rw [hM] at h1 h2
  rw [hM2]
  simp only [IntKind.wrap_u64]
  by_cases c : z + n < 18446744073709551616
  · rw [if_neg (by omega), if_neg (by omega), if_neg (by omega), if_pos (by omega)]
    simp only [Option.some.injEq, Prod.mk.injEq, and_true]
    omega
  · rw [if_pos (by omega), if_neg (by omega)]
    by_cases c2 : q + n < 340282366920938463463374607431768211456
    · rw [if_neg (by omega), if_pos c2]
      simp only [Option.some.injEq, Prod.mk.injEq, and_true]
      omega
    · rw [if_pos (by omega), if_neg c2]

theorem rless_at {a b : Nat} : gleberef1_Less.f (H a) (L a) (H b) (L b) = some (decide (a < b)) := by
  have := less_at 4 (a := a) (b := b)
  unfold addr_Less.f at this
  rw [if_neg (by omega), if_pos rfl] at this
  have e : quad_Less.f (H a) (L a) (H b) (L b) = gleberef1_Less.f (H a) (L a) (H b) (L b) := rfl
  rw [e] at this
  cases hc : gleberef1_Less.f (H a) (L a) (H b) (L b) with
  | none => rw [hc] at this; cases this
  | some x => rw [hc, Option.bind_some] at this; exact this
theorem blk_iff {p x j : Nat} (hp : p % 2 ^ j = 0) : 2 ^ j * (x / 2 ^ j) = p ↔ p ≤ x ∧ x ≤ p + (2 ^ j - 1) := by
  have h1 := Nat.div_add_mod x (2 ^ j)
  have hpos := Nat.pow_pos (n := j) (show 0 < 2 by decide)
  have h2 := Nat.mod_lt x hpos
  constructor
  · intro e; omega
  · rintro ⟨a, b⟩
    obtain ⟨m, rfl⟩ := Nat.dvd_of_mod_eq_zero hp
    congr 1
    refine Nat.div_eq_of_lt_le ?_ ?_
    · rw [Nat.mul_comm]; exact a
    · rw [Nat.succ_mul, Nat.mul_comm]; omega
theorem phas_at {V : Int} {B p n x : Nat} (h : Kd' V B) (hp : p < 2 ^ B) (hn : n ≤ B) (ha : p % 2 ^ (B - n) = 0) (hx : x < 2 ^ B) :
    pref_Has.f V (H p) (L p) (n : Int) V (H x) (L x) = some (decide (p ≤ x ∧ x ≤ p + (2 ^ (B - n) - 1))) := by
  have hB := h.le
  have e1 := pOk h hp hn
  rw [decide_eq_true ha] at e1
  have hm : maskN (128 - B + n) < M128 := mask_lt (by omega)
  have e2 := qAnd (h.pow hx) hm
  have e3 : maskN (128 - B + n) = 2 ^ 128 - 2 ^ (B - n) := by unfold maskN; rw [show 128 - (128 - B + n) = B - n by omega, m128]
  have e4 : x &&& maskN (128 - B + n) = 2 ^ (B - n) * (x / 2 ^ (B - n)) := by rw [e3]; exact and_mask x 128 (B - n) (by omega) (by rw [← m128]; exact h.pow hx)
  rw [e4] at e2
  have e5 := blk_iff (x := x) ha
  generalize 2 ^ (B - n) * (x / 2 ^ (B - n)) = c at *
  unfold pref_Has.f
  rw [e1, Option.bind_some, if_pos rfl, okA h hx, Option.bind_some, if_pos rfl, if_pos rfl, pMask h hn, Option.bind_some, e2, Option.bind_some, HL_beq]
  exact congrArg some (decide_eq_decide.2 e5)
def Vof (v : Int) : Int := if Go.bits .and .i64 v 1 = 0 then 4 else 6
theorem addr_V {v a b V h l : Int} (h1 : glebelaw2_Addr.f 300 v a b = some (V, h, l)) (ha : 0 ≤ a) (ha2 : a < 18446744073709551616) (hb : 0 ≤ b) (hb2 : b < 18446744073709551616) : V = Vof v := by
  unfold glebelaw2_Addr.f at h1
  unfold Vof
  split at h1
  · rename_i c
    rw [if_pos c]
    rw [if_pos (wrapu_pos _)] at h1
    cases h1; rfl
  · rename_i c
    rw [if_neg c]
    obtain ⟨h', l', e, _⟩ := addr_l0 v 8 300 a b (by omega) (by omega) ha ha2 hb hb2
    rw [show (8 : Int) - ((8 : Nat) : Int) = 0 by decide] at e
    rw [e] at h1
    cases h1; rfl
theorem Kd'.one {V : Int} {B C : Nat} (h : Kd' V B) (k : Kd' V C) : C = B := by
  rcases h with ⟨rfl, rfl⟩ | ⟨rfl, rfl⟩ <;> rcases k with ⟨e, rfl⟩ | ⟨e, rfl⟩
  · rfl
  · cases e
  · cases e
  · rfl
theorem add_any {q n : Nat} (hq : q < M128) (hn : n < 18446744073709551616) : gleberef1_Add.f (H q) (L q) 0 (n : Int) = if q + n < M128 then some (H (q + n), L (q + n), true) else some (0, 0, false) := by
  have h1 := Nat.div_add_mod q M64
  have l1 := L_lt q
  have x1 := H_lt hq
  have h2 := Nat.div_add_mod (q + n) M64
  have l2 := L_lt (q + n)
  have hM : M64 = 18446744073709551616 := rfl
  have hM2 : M128 = 340282366920938463463374607431768211456 := by decide
  unfold gleberef1_Add.f H L
  generalize q / M64 = x at *
  generalize q % M64 = z at *
  generalize (q + n) / M64 = x' at *
  generalize (q + n) % M64 = z' at *
  rw [hM] at h1 h2
  rw [hM2]
  simp only [IntKind.wrap_u64]
  by_cases c : z + n < 18446744073709551616
  · rw [if_neg (by omega), if_neg (by omega), if_neg (by omega), if_pos (by omega)]
    simp only [Option.some.injEq, Prod.mk.injEq, and_true]
    omega
  · rw [if_pos (by omega), if_neg (by omega)]
    by_cases c2 : q + n < 340282366920938463463374607431768211456
    · rw [if_neg (by omega), if_pos c2]
      simp only [Option.some.injEq, Prod.mk.injEq, and_true]
      omega
    · rw [if_pos (by omega), if_neg c2]
theorem pre_V (v a b n : Int) (ha : 0 ≤ a) (ha2 : a < 18446744073709551616) (hb : 0 ≤ b) (hb2 : b < 18446744073709551616) :
    ∃ B q m, Kd' (Vof v) B ∧ q < 2 ^ B ∧ m ≤ B ∧ q % 2 ^ (B - m) = 0 ∧ glebelaw3_Pre.f v a b n = some (Vof v, H q, L q, ((m : Nat) : Int)) := by
  obtain ⟨V, B, q, h, hq, e1⟩ := addr_at (k := 300) (by omega) v a b ha ha2 hb hb2
  obtain rfl := addr_V e1 ha ha2 hb hb2
  have hB := h.le
  have hne : (B : Int) + 1 ≠ 0 := by clear e1; omega
  have w1 : wrap64 ((B : Int) + 1) = (B : Int) + 1 := by clear e1; exact w64 (by omega) (by omega)
  obtain ⟨m, hm, em⟩ := tmod_at n hB
  obtain ⟨u, u2, u3, y, c, e4, e5, e6, e2, e3, hcut, hmod⟩ := pre_u h hq hm
  exact ⟨B, c, m, h, Nat.lt_of_le_of_lt hcut hq, hm, hmod, pre_t e1 h.rbits w1 hne em (e4 300 (Nat.le_refl _)) (e5 300 (Nat.le_refl _)) e6 e2 e3⟩

end Go.Proofs.YtfnacgojmdbjmaaDoor.PPH
end

section
/- Words of the print: those of them that this claim names; the others were left out by a program of this claim. -/
/- addr.zeros, addr.text, addr.row, addr.four: what they answer at an address's groups and numbers. Plain. -/
namespace Go.Proofs.YtfnacgojmdbjmaaDoor
open Go.Det Go.RowKit Go.Proofs.YtfnacgojmdbjmaaDoorW.PrintWords Go.Proofs.YtfnacgojmdbjmaaDoor.PPH
set_option maxRecDepth 100000

/-! addr.zeros -/
def ZP (l : List Int) (f t : Nat) : Prop := (f = 0 ∧ t = 0) ∨ (f + 2 ≤ t ∧ t ≤ 8 ∧ ∀ k, f ≤ k → k < t → l.getD k 0 = 0)
def zEnd (k : Nat) (l : List Int) (f t i e : Nat) : Option (Int × Int) :=
  if (wrap64 ((e : Int) - (i : Int))) > (wrap64 ((t : Int) - (f : Int))) then (if (wrap64 ((e : Int) - (i : Int))) > 1 then (addr_zeros.l0 k l (i : Int) (e : Int) 8 (wrap64 ((i : Int) + 1))) else (addr_zeros.l0 k l (f : Int) (t : Int) 8 (wrap64 ((i : Int) + 1)))) else (addr_zeros.l0 k l (f : Int) (t : Int) 8 (wrap64 ((i : Int) + 1)))
theorem zEnd_at {k : Nat} {l : List Int} {f t i e : Nat} (h : ZP l f t) (hi : i ≤ e) (he : e ≤ 8) (hi8 : i < 8) (hz : ∀ k, i ≤ k → k < e → l.getD k 0 = 0)
    (ih : ∀ f t, ZP l f t → ∃ f' t' : Nat, ZP l f' t' ∧ addr_zeros.l0 k l (f : Int) (t : Int) 8 ((i + 1 : Nat) : Int) = some ((f' : Int), (t' : Int))) :
    ∃ f' t' : Nat, ZP l f' t' ∧ zEnd k l f t i e = some ((f' : Int), (t' : Int)) := by
  have ht : t ≤ 8 := by rcases h with ⟨_, rfl⟩ | h; omega; omega
  have hf : f ≤ t := by rcases h with ⟨rfl, rfl⟩ | h; omega; omega
  have w1 : wrap64 ((e : Int) - (i : Int)) = ((e - i : Nat) : Int) := by rw [w64 (by omega) (by omega)]; omega
  have w2 : wrap64 ((t : Int) - (f : Int)) = ((t - f : Nat) : Int) := by rw [w64 (by omega) (by omega)]; omega
  have w3 : wrap64 ((i : Int) + 1) = ((i + 1 : Nat) : Int) := by rw [w64 (by omega) (by omega)]; omega
  unfold zEnd
  rw [w1, w2, w3]
  split
  · split
    · exact ih i e (.inr ⟨by omega, he, hz⟩)
    · exact ih f t h
  · exact ih f t h
theorem zInner {l : List Int} (hl : l.length = 8) {i : Nat} (hi8 : i < 8) {K : Nat} (ih : ∀ k, K ≤ k → ∀ f t, ZP l f t → ∃ f' t' : Nat, ZP l f' t' ∧ addr_zeros.l0 k l (f : Int) (t : Int) 8 ((i + 1 : Nat) : Int) = some ((f' : Int), (t' : Int))) :
    ∀ (m e k f t : Nat), e + m = 8 → i ≤ e → (∀ k, i ≤ k → k < e → l.getD k 0 = 0) → m + 1 + K ≤ k → ZP l f t → ∃ f' t' : Nat, ZP l f' t' ∧ addr_zeros.l1 k l (f : Int) (t : Int) (i : Int) (e : Int) 8 (i : Int) = some ((f' : Int), (t' : Int)) := by
  intro m
  induction m with
  | zero =>
    intro e k f t he hi hz hk h
    obtain ⟨k, rfl⟩ : ∃ j, k = j + 1 := ⟨k - 1, by omega⟩
    unfold addr_zeros.l1
    rw [if_neg (by rw [hl]; omega)]
    exact zEnd_at h hi (by omega) hi8 hz (ih k (by omega))
  | succ m im =>
    intro e k f t he hi hz hk h
    obtain ⟨k, rfl⟩ : ∃ j, k = j + 1 := ⟨k - 1, by omega⟩
    unfold addr_zeros.l1
    rw [if_pos (by rw [hl]; omega), if_pos (by omega)]
    have w : wrap64 ((e : Int) + 1) = ((e + 1 : Nat) : Int) := by rw [w64 (by omega) (by omega)]; omega
    split
    · rename_i hr
      rw [w]
      refine im (e + 1) k f t (by omega) (by omega) (fun j h1 h2 => ?_) (by omega) h
      by_cases hj : j = e
      · subst hj
        unfold rd at hr
        rwa [Int.toNat_natCast] at hr
      · exact hz j h1 (by omega)
    · exact zEnd_at h hi (by omega) hi8 hz (ih k (by omega))
theorem zOuter {l : List Int} (hl : l.length = 8) : ∀ (d i k f t : Nat), i + d = 8 → 12 * d + 2 ≤ k → ZP l f t → ∃ f' t' : Nat, ZP l f' t' ∧ addr_zeros.l0 k l (f : Int) (t : Int) 8 (i : Int) = some ((f' : Int), (t' : Int)) := by
  intro d
  induction d with
  | zero =>
    intro i k f t hi hk h
    obtain ⟨k, rfl⟩ : ∃ j, k = j + 1 := ⟨k - 1, by omega⟩
    unfold addr_zeros.l0
    rw [if_neg (by omega)]
    exact ⟨f, t, h, rfl⟩
  | succ d ih =>
    intro i k f t hi hk h
    obtain ⟨k, rfl⟩ : ∃ j, k = j + 1 := ⟨k - 1, by omega⟩
    unfold addr_zeros.l0
    rw [if_pos (by omega)]
    exact zInner hl (i := i) (by omega) (K := 12 * d + 2) (fun k hk f t h => ih (i + 1) k f t (by omega) hk h) (8 - i) i k f t (by omega) (Nat.le_refl _) (fun j h1 h2 => by omega) (by omega) h
theorem zpairs_mem {f t : Nat} (h : (f = 0 ∧ t = 0) ∨ (f + 2 ≤ t ∧ t ≤ 8)) : ((f : Int), (t : Int)) ∈ zpairs := by
  have key : ∀ f : Fin 9, ∀ t : Fin 9, ((f.val = 0 ∧ t.val = 0) ∨ (f.val + 2 ≤ t.val ∧ t.val ≤ 8)) → ((f.val : Int), (t.val : Int)) ∈ zpairs := by decide +kernel
  exact key ⟨f, by omega⟩ ⟨t, by omega⟩ h
theorem zeros_at {l : List Int} (hl : l.length = 8) : ∃ f t : Nat, zerosF l () = some ((f : Int), (t : Int)) ∧ ((f : Int), (t : Int)) ∈ zpairs ∧ ZP l f t := by
  obtain ⟨f, t, h, e⟩ := zOuter hl 8 0 300 0 0 (by omega) (by omega) (.inl ⟨rfl, rfl⟩)
  refine ⟨f, t, ?_, zpairs_mem ?_, h⟩
  · unfold zerosF addr_zeros.f
    rw [if_pos (by omega), hl]
    exact e
  · rcases h with h | h
    · exact .inl h
    · exact .inr ⟨h.1, h.2.1⟩

/-! addr.text -/
def hexB (n : Nat) : ByteArray := ⟨⟨Txt.hexT n⟩⟩
theorem fmt_at {n : Nat} (h : n < 65536) : strconv_FormatUint.f (n : Int) 16 = some (hexB n) := by
  unfold strconv_FormatUint.f fmtF
  rw [if_pos ⟨rfl, by omega, by omega⟩, Int.toNat_natCast]; rfl
theorem text_l0 {ns : List Nat} (hn : ∀ n ∈ ns, n < 65536) (hl : ns.length ≤ 8) : ∀ (d i k : Nat) (acc : List ByteArray), i + d = ns.length → d + 2 ≤ k → acc.length ≤ i →
    addr_text.l0 k acc (ns.map fun (n : Nat) => (n : Int)) (ns.length : Int) (i : Int) = ((strings_Join.f (acc ++ (ns.drop i).map hexB) ⟨#[58]⟩).bind fun t => some t) := by
  intro d
  induction d with
  | zero =>
    intro i k acc hi hk ha
    obtain ⟨k, rfl⟩ : ∃ j, k = j + 1 := ⟨k - 1, by omega⟩
    unfold addr_text.l0
    rw [if_neg (by omega), List.drop_eq_nil_of_le (by omega), List.map_nil, List.append_nil]
  | succ d ih =>
    intro i k acc hi hk ha
    obtain ⟨k, rfl⟩ : ∃ j, k = j + 1 := ⟨k - 1, by omega⟩
    have hlt : i < ns.length := by omega
    have e1 : rd (ns.map fun (n : Nat) => (n : Int)) (i : Int) = ((ns[i] : Nat) : Int) := by
      unfold rd
      rw [Int.toNat_natCast, List.getD_eq_getElem?_getD, List.getElem?_map, List.getElem?_eq_getElem hlt]; rfl
    unfold addr_text.l0
    rw [if_pos (by omega), if_pos (by omega), if_pos (by rw [List.length_map]; omega), e1, fmt_at (hn _ (List.getElem_mem hlt)), Option.bind_some, if_pos (by omega), w64 (by omega) (by omega)]
    have := ih (i + 1) k (acc ++ [hexB ns[i]]) (by omega) (by omega) (by rw [List.length_append, List.length_singleton]; omega)
    rw [show ((i : Int) + 1) = ((i + 1 : Nat) : Int) by omega, this, List.append_assoc]
    conv => rhs; rw [List.drop_eq_getElem_cons hlt]
    rfl
theorem lens_hex : ∀ ns : List Nat, Lib.lens (ns.map Txt.hexT) ≤ 4 * ns.length
  | [] => by simp [Lib.lens]
  | n :: t => by
    have := lens_hex t
    have h := (Txt.hexT_len n).2
    simp only [Lib.lens, List.map_cons, List.sum_cons, List.length_cons] at this ⊢
    omega
theorem join_hex_len {ns : List Nat} (hl : ns.length ≤ 8) : (Lib.join (ns.map Txt.hexT) [58]).length ≤ 40 := by
  cases ns with
  | nil => simp [Lib.join_nil]
  | cons n t =>
    have := lens_hex (n :: t)
    rw [List.map_cons, Lib.join_length, ← List.map_cons]
    simp only [List.length_cons, List.length_nil, List.length_map] at this hl ⊢
    omega
theorem joinF_hex {ns : List Nat} (hl : ns.length ≤ 8) : strings_Join.f (ns.map hexB) ⟨#[58]⟩ = some ⟨⟨Lib.join (ns.map Txt.hexT) [58]⟩⟩ := by
  have e : joinB (ns.map hexB) ⟨#[58]⟩ = ⟨⟨Lib.join (ns.map Txt.hexT) [58]⟩⟩ := by
    unfold joinB
    rw [List.map_map]
    rfl
  unfold strings_Join.f
  rw [e, if_pos ⟨by rw [bsize]; have := join_hex_len hl; omega, by rw [List.length_map]; omega⟩]
theorem text_at {ns : List Nat} (hn : ∀ n ∈ ns, n < 65536) (hl : ns.length ≤ 8) : textF (ns.map fun (n : Nat) => (n : Int)) () = some ⟨⟨Lib.join (ns.map Txt.hexT) [58]⟩⟩ := by
  unfold textF addr_text.f
  rw [if_pos (by rw [List.length_map]; exact hl), List.length_map]
  have := text_l0 hn hl ns.length 0 300 [] (by omega) (by omega) (Nat.zero_le _)
  rw [show ((0 : Nat) : Int) = 0 from rfl] at this
  rw [this, List.nil_append, List.drop_zero, joinF_hex hl]; rfl

/-! addr.hex -/
theorem idx_dg : ∀ k : Fin 16, idxF dig16 (orI .u8 ((Txt.dg k.val).toNat : Int) 32) = some (k.val : Int) ∧ ¬ ((Txt.dg k.val).toNat : Int) < 48 := by decide +kernel
theorem hex_step {n k : Nat} (hn : n < 4096) (hk : k < 16) (t : List UInt8) : hexL (n : Int) (Txt.dg k :: t) = hexL ((n * 16 + k : Nat) : Int) t := by
  obtain ⟨h1, h2⟩ := idx_dg ⟨k, hk⟩
  simp only at h1 h2
  rw [hexL, h1, Option.bind_some, if_neg (by omega), if_neg h2]
  have e1 : shlI .u64 (n : Int) 4 = ((n * 2 ^ 4 : Nat) : Int) := shl_nat 4 (by decide) (by omega)
  rw [e1, Go.Det.wrapU ⟨by omega, by omega⟩, or_join 4 (by omega) (by omega)]
theorem hex_step0 {k : Nat} (hk : k < 16) (t : List UInt8) : hexL 0 (Txt.dg k :: t) = hexL (k : Int) t := by
  have := hex_step (n := 0) (by omega) hk t
  simpa using this
theorem hex_at {n : Nat} (h : n < 65536) : addr_hex.f (hexB n) = some ((n : Int), true) := by
  unfold addr_hex.f hexF hexB
  rw [blen]
  have hl := Txt.hexT_len n
  rw [if_neg (by omega)]
  unfold Txt.hexT
  split
  · rw [hex_step0 (by omega)]; rfl
  · split
    · rw [hex_step0 (by omega), hex_step (by omega) (by omega), hexL]
      congr 2; omega
    · split
      · rw [hex_step0 (by omega), hex_step (by omega) (by omega), hex_step (by omega) (by omega), hexL]
        congr 2; omega
      · rw [hex_step0 (by omega), hex_step (by omega) (by omega), hex_step (by omega) (by omega), hex_step (by omega) (by omega), hexL]
        congr 2; omega

/-! addr.row -/
theorem row_l0 {ns : List Nat} (hn : ∀ n ∈ ns, n < 65536) (hl : ns.length ≤ 8) (last : Bool) : ∀ (d i k : Nat) (acc : List Int), i + d = ns.length → 2 * d + 2 ≤ k → acc.length ≤ i →
    addr_row.l0 k last acc (ns.map hexB) (ns.map hexB) (ns.length : Int) (i : Int) = some (acc ++ (ns.drop i).map (fun (n : Nat) => (n : Int)), true) := by
  intro d
  induction d with
  | zero =>
    intro i k acc hi hk ha
    obtain ⟨k, rfl⟩ : ∃ j, k = j + 1 := ⟨k - 1, by omega⟩
    unfold addr_row.l0
    rw [if_neg (by omega), List.drop_eq_nil_of_le (by omega), List.map_nil, List.append_nil]
  | succ d ih =>
    intro i k acc hi hk ha
    obtain ⟨k, rfl⟩ : ∃ j, k = j + 2 := ⟨k - 2, by omega⟩
    have hlt : i < ns.length := by omega
    have hni := hn _ (List.getElem_mem hlt)
    have e1 : rdOf ByteArray.empty (ns.map hexB) (i : Int) = hexB ns[i] := by
      unfold rdOf
      rw [Int.toNat_natCast, List.getD_eq_getElem?_getD, List.getElem?_map, List.getElem?_eq_getElem hlt]; rfl
    have ec : strings_Contains.f (hexB ns[i]) ⟨#[46]⟩ = some false := by
      unfold strings_Contains.f
      have hs : (hexB ns[i]).size < 4294967281 := by
        have := (Txt.hexT_len ns[i]).2
        unfold hexB
        rw [bsize]; omega
      rw [if_pos hs]
      exact congrArg some (Txt.contains_no (Txt.hexT_sgn hni (by decide)))
    have ej : ∀ x36, x36 = false → addr_row.j1 (k + 1) last acc (ns.map hexB) (hexB ns[i]) (ns.map hexB) (ns.length : Int) (i : Int) x36 = some (acc ++ (ns.drop i).map (fun (n : Nat) => (n : Int)), true) := by
      rintro _ rfl
      unfold addr_row.j1
      rw [if_neg (by decide), hex_at hni, Option.bind_some, if_pos rfl, if_pos (by omega), w64 (by omega) (by omega), show ((i : Int) + 1) = ((i + 1 : Nat) : Int) by omega,
        ih (i + 1) k (acc ++ [((ns[i] : Nat) : Int)]) (by omega) (by omega) (by rw [List.length_append, List.length_singleton]; omega), List.append_assoc]
      conv => rhs; rw [List.drop_eq_getElem_cons hlt]
      rfl
    unfold addr_row.l0
    rw [if_pos (by omega), if_pos (by omega), if_pos (by rw [List.length_map]; omega), e1]
    split
    · split
      · rw [ec, Option.bind_some]; exact ej _ rfl
      · exact ej _ rfl
    · exact ej _ rfl
theorem join_ne {ns : List Nat} (h : ns ≠ []) : Lib.join (ns.map Txt.hexT) [58] ≠ [] := by
  cases ns with
  | nil => exact absurd rfl h
  | cons n t =>
    rw [List.map_cons, Lib.join_cons]
    intro e
    exact Txt.hexT_ne n (List.append_eq_nil_iff.1 e).1
theorem row_at {ns : List Nat} (hn : ∀ n ∈ ns, n < 65536) (hl : ns.length ≤ 8) (last : Bool) : rowF (⟨⟨Lib.join (ns.map Txt.hexT) [58]⟩⟩, last) = some (ns.map (fun (n : Nat) => (n : Int)), true) := by
  unfold rowF addr_row.f
  cases hns : ns with
  | nil =>
    rw [if_pos (by rw [ByteArray.toList_eq]; rfl)]
    rfl
  | cons n0 t0 =>
    rw [← hns]
    have hne : ns ≠ [] := by rw [hns]; simp
    rw [if_neg (by rw [ByteArray.toList_eq]; exact join_ne hne)]
    have es : strings_Split.f ⟨⟨Lib.join (ns.map Txt.hexT) [58]⟩⟩ ⟨#[58]⟩ = some (ns.map hexB) := by
      unfold strings_Split.f
      rw [if_pos ⟨by rw [bsize]; have := join_hex_len hl; omega, by decide⟩]
      have := Txt.splitB_join (c := 58) (ns.map Txt.hexT) (by simpa using hne) (fun p hp => by
        obtain ⟨m, hm, rfl⟩ := List.mem_map.1 hp
        exact Txt.hexT_sgn (hn m hm) (by decide))
      rw [List.map_map] at this
      exact congrArg some this
    simp only
    rw [es, Option.bind_some, List.length_map]
    have := row_l0 hn hl last ns.length 0 1000 [] (by omega) (by omega) (Nat.zero_le _)
    rw [show ((0 : Nat) : Int) = 0 from rfl] at this
    rw [this, List.nil_append, List.drop_zero]

end Go.Proofs.YtfnacgojmdbjmaaDoor
end

section
/- An address is printed, and read as it was: addr.Print and addr.Parse at addresses of numbers. Plain. -/
namespace Go.Proofs.YtfnacgojmdbjmaaDoor
open Go.Det Go.RowKit Go.Proofs.YtfnacgojmdbjmaaDoorW.PrintWords Go.Proofs.YtfnacgojmdbjmaaDoor.PPH
set_option maxRecDepth 100000

/-! four numbers -/
def txtB (n : Nat) : ByteArray := ⟨⟨Txt.decT n⟩⟩
theorem txt_at {n : Nat} (h : n < 256) : txtF (n : Int) = some (txtB n) := by
  unfold txtF
  rw [if_pos ⟨by omega, by omega⟩, Int.toNat_natCast]; rfl
theorem num_all : ∀ n : Fin 256, numF (txtB n.val) 255 = some ((n.val : Int), true) := by decide +kernel
theorem num_at {n : Nat} (h : n < 256) : date_Num.f (txtB n) 255 = some ((n : Int), true) := num_all ⟨n, h⟩
theorem num128_all : ∀ n : Fin 129, numF (txtB n.val) 128 = some ((n.val : Int), true) := by decide +kernel
theorem num128_at {n : Nat} (h : n ≤ 128) : date_Num.f (txtB n) 128 = some ((n : Int), true) := num128_all ⟨n, by omega⟩
theorem decT_len (n : Nat) : (Txt.decT n).length ≤ 3 := by
  unfold Txt.decT
  split
  · simp
  · split <;> simp
theorem byte_at {q : Nat} (hq : q < 18446744073709551616) (s : Nat) (hs : s ≤ 64) : txtF (andI .u64 (shrI .u64 (q : Int) (s : Int)) 255) = some (txtB (q / 2 ^ s % 256)) := by
  rw [shr_nat s hs]
  have h1 : q / 2 ^ s ≤ q := Nat.div_le_self _ _
  obtain ⟨x, hx⟩ : ∃ x, x = q / 2 ^ s := ⟨_, rfl⟩
  rw [← hx] at h1 ⊢
  have e : andI .u64 (x : Int) 255 = ((x % 256 : Nat) : Int) := and_low (by omega) 8 (by decide)
  rw [e, txt_at (by omega)]
def dots (a b c d : Nat) : List UInt8 := Lib.join [Txt.decT a, Txt.decT b, Txt.decT c, Txt.decT d] [46]
theorem dots_len (a b c d : Nat) : (dots a b c d).length ≤ 15 := by
  unfold dots
  have h1 := decT_len a
  have h2 := decT_len b
  have h3 := decT_len c
  have h4 := decT_len d
  rw [Lib.join_length]
  simp only [Lib.lens, List.map_cons, List.map_nil, List.sum_cons, List.sum_nil, List.length_cons, List.length_nil]
  omega
theorem join_dots (a b c d : Nat) : joinF [txtB a, txtB b, txtB c, txtB d] dotB = some ⟨⟨dots a b c d⟩⟩ := by
  have e : joinB [txtB a, txtB b, txtB c, txtB d] dotB = ⟨⟨dots a b c d⟩⟩ := rfl
  unfold joinF
  rw [e, if_pos ⟨by rw [bsize]; have := dots_len a b c d; omega, by simp only [List.length_cons, List.length_nil]; omega⟩]
theorem or_byte {x n : Nat} (hx : x < 16777216) (hn : n < 256) : Go.bits .or .u64 (IntKind.u64.wrap ((x : Int) * 256)) (Go.bits .and .u64 (n : Int) 255) = ((x * 256 + n : Nat) : Int) := by
  have e1 : Go.bits .and .u64 (n : Int) 255 = ((n % 256 : Nat) : Int) := and_low (by omega) 8 (by decide)
  have e2 : IntKind.u64.wrap ((x : Int) * 256) = ((x * 2 ^ 8 : Nat) : Int) := by rw [Go.Det.wrapU ⟨by omega, by omega⟩]; omega
  rw [e1, e2, Nat.mod_eq_of_lt hn]
  exact or_join (s := 8) (by omega) (by omega)
theorem four_at {a b c d : Nat} (ha : a < 256) (hb : b < 256) (hc : c < 256) (hd : d < 256) : addr_four.f 1000 ⟨⟨dots a b c d⟩⟩ = some (((((a * 256 + b) * 256 + c) * 256 + d : Nat) : Int), true) := by
  have es : strings_Split.f ⟨⟨dots a b c d⟩⟩ ⟨#[46]⟩ = some [txtB a, txtB b, txtB c, txtB d] := by
    unfold strings_Split.f
    rw [if_pos ⟨by rw [bsize]; have := dots_len a b c d; omega, by decide⟩]
    exact congrArg some (Txt.splitB_join (c := 46) [Txt.decT a, Txt.decT b, Txt.decT c, Txt.decT d] (by simp) (fun p hp => by
      simp only [List.mem_cons, List.not_mem_nil, or_false] at hp
      rcases hp with rfl | rfl | rfl | rfl
      · exact Txt.decT_sgn ha (by decide)
      · exact Txt.decT_sgn hb (by decide)
      · exact Txt.decT_sgn hc (by decide)
      · exact Txt.decT_sgn hd (by decide)))
  unfold addr_four.f
  rw [es, Option.bind_some]
  have step : ∀ (k i x n : Nat), i < 4 → x < 16777216 → n < 256 → [txtB a, txtB b, txtB c, txtB d][i]? = some (txtB n) →
      addr_four.l0 (k + 1) [txtB a, txtB b, txtB c, txtB d] (x : Int) [txtB a, txtB b, txtB c, txtB d] 4 (i : Int) = addr_four.l0 k [txtB a, txtB b, txtB c, txtB d] ((x * 256 + n : Nat) : Int) [txtB a, txtB b, txtB c, txtB d] 4 ((i + 1 : Nat) : Int) := by
    intro k i x n hi hx hn hg
    have e1 : rdOf ByteArray.empty [txtB a, txtB b, txtB c, txtB d] (i : Int) = txtB n := by
      unfold rdOf
      rw [Int.toNat_natCast, List.getD_eq_getElem?_getD, hg]; rfl
    conv => lhs; unfold addr_four.l0
    rw [if_pos (by omega), if_pos (by omega), if_pos (by simp only [List.length_cons, List.length_nil]; omega), e1, num_at hn, Option.bind_some, if_pos rfl, or_byte hx hn, w64 (by omega) (by omega)]
    rfl
  have h0 := step 999 0 0 a (by omega) (by omega) ha rfl
  have h1 := step 998 1 a b (by omega) (by omega) hb rfl
  have h2 := step 997 2 (a * 256 + b) c (by omega) (by omega) hc rfl
  have h3 := step 996 3 ((a * 256 + b) * 256 + c) d (by omega) (by omega) hd rfl
  have e0 : 0 * 256 + a = a := by omega
  rw [e0] at h0
  have ee : addr_four.l0 996 [txtB a, txtB b, txtB c, txtB d] ((((a * 256 + b) * 256 + c) * 256 + d : Nat) : Int) [txtB a, txtB b, txtB c, txtB d] 4 ((3 + 1 : Nat) : Int) = some (((((a * 256 + b) * 256 + c) * 256 + d : Nat) : Int), true) := by
    conv => lhs; unfold addr_four.l0
    rw [if_neg (by omega)]
    rfl
  exact h0.trans (h1.trans (h2.trans (h3.trans ee)))

/-! eight groups -/
theorem part_at {h : Nat} (hh : h < 18446744073709551616) : partL (h : Int) = [h / 281474976710656 % 65536, h / 4294967296 % 65536, h / 65536 % 65536, h % 65536].map (fun (n : Nat) => (n : Int)) := by
  have p : ∀ (s : Nat), s ≤ 64 → andI .u64 (shrI .u64 (h : Int) (s : Int)) 65535 = ((h / 2 ^ s % 65536 : Nat) : Int) := by
    intro s hs
    rw [shr_nat s hs]
    have h1 : h / 2 ^ s ≤ h := Nat.div_le_self _ _
    obtain ⟨x, hx⟩ : ∃ x, x = h / 2 ^ s := ⟨_, rfl⟩
    rw [← hx] at h1 ⊢
    exact and_low (by omega) 16 (by decide)
  have p0 := p 0 (by omega)
  have p1 := p 16 (by omega)
  have p2 := p 32 (by omega)
  have p3 := p 48 (by omega)
  rw [Nat.pow_zero, Nat.div_one] at p0
  unfold partL
  simp only [List.map_cons, List.map_nil]
  exact congr (congrArg List.cons p3) (congr (congrArg List.cons p2) (congr (congrArg List.cons p1) (congrArg (List.cons · []) p0)))
theorem comb_at {a b c d : Nat} (ha : a < 65536) (hb : b < 65536) (hc : c < 65536) (hd : d < 65536) : comb4 (a : Int) (b : Int) (c : Int) (d : Int) = ((((a * 65536 + b) * 65536 + c) * 65536 + d : Nat) : Int) := by
  have st : ∀ {x n : Nat}, x < 281474976710656 → n < 65536 → orI .u64 (shlI .u64 (x : Int) 16) (n : Int) = ((x * 65536 + n : Nat) : Int) := by
    intro x n hx hn
    have e1 : shlI .u64 (x : Int) 16 = ((x * 2 ^ 16 : Nat) : Int) := shl_nat 16 (by decide) (by omega)
    rw [e1]
    exact or_join 16 (by omega) (by omega)
  have s0 := st (x := 0) (n := a) (by omega) ha
  rw [show 0 * 65536 + a = a by omega] at s0
  unfold comb4
  rw [show ((0 : Int)) = ((0 : Nat) : Int) from rfl, s0, st (by omega) hb, st (by omega) hc, st (by omega) hd]
theorem fill_eq {l : List Int} (hl : l.length = 8) {f t : Nat} (hft : f + 2 ≤ t) (ht : t ≤ 8) (hz : ∀ k, f ≤ k → k < t → l.getD k 0 = 0) : l.take f ++ List.replicate (8 - ((l.take f).length + (l.drop t).length)) 0 ++ l.drop t = l := by
  have e : 8 - ((l.take f).length + (l.drop t).length) = t - f := by rw [List.length_take, List.length_drop]; omega
  rw [e]
  have e2 : List.replicate (t - f) (0 : Int) = (l.drop f).take (t - f) := by
    refine List.ext_getElem (by rw [List.length_replicate, List.length_take, List.length_drop]; omega) fun i h1 h2 => ?_
    rw [List.length_replicate] at h1
    have := hz (f + i) (by omega) (by omega)
    rw [List.getD_eq_getElem?_getD, List.getElem?_eq_getElem (by omega)] at this
    rw [List.getElem_replicate, List.getElem_take, List.getElem_drop]
    exact this.symm
  rw [e2, List.append_assoc]
  have e3 : l.drop t = (l.drop f).drop (t - f) := by rw [List.drop_drop]; congr 1; omega
  rw [e3, List.take_append_drop, List.take_append_drop]

end Go.Proofs.YtfnacgojmdbjmaaDoor
end

section
/- An address is printed, and read as it was. Plain: over addr.Print and addr.Parse as they are told. -/
namespace Go.Proofs.YtfnacgojmdbjmaaDoor
open Go.Det Go.RowKit Go.Proofs.YtfnacgojmdbjmaaDoorW.PrintWords Go.Proofs.YtfnacgojmdbjmaaDoor.PPH
set_option maxRecDepth 100000

/-- a text that an address is printed as: no '/' and no '-' in it, not long -/
structure PT (s : List UInt8) : Prop where
  len : s.length ≤ 100
  ne : s ≠ []
  sl : (47 : UInt8) ∉ s
  da : (45 : UInt8) ∉ s

theorem contains_at (s : List UInt8) (c : UInt8) (h : s.length ≤ 1000) : strings_Contains.f ⟨⟨s⟩⟩ ⟨#[c]⟩ = some (Lib.contains s [c]) := by
  unfold strings_Contains.f
  rw [if_pos (by rw [bsize]; omega)]
theorem back4 {q : Nat} (hq : q < 4294967296) : ∃ s, PT s ∧ prF 4 0 (q : Int) = some ⟨⟨s⟩⟩ ∧ addr_Parse.f ⟨⟨s⟩⟩ = some (4, 0, (q : Int), true) := by
  have b0 := byte_at (q := q) (by omega) 24 (by omega)
  have b1 := byte_at (q := q) (by omega) 16 (by omega)
  have b2 := byte_at (q := q) (by omega) 8 (by omega)
  have b3 := byte_at (q := q) (by omega) 0 (by omega)
  have e0 : q / 2 ^ 24 % 256 = q / 16777216 % 256 := rfl
  have e1 : q / 2 ^ 16 % 256 = q / 65536 % 256 := rfl
  have e2 : q / 2 ^ 8 % 256 = q / 256 % 256 := rfl
  have e3 : q / 2 ^ 0 % 256 = q % 256 := by rw [Nat.pow_zero, Nat.div_one]
  rw [e0] at b0
  rw [e1] at b1
  rw [e2] at b2
  rw [e3] at b3
  have hj := join_dots (q / 16777216 % 256) (q / 65536 % 256) (q / 256 % 256) (q % 256)
  have h4 := four_at (a := q / 16777216 % 256) (b := q / 65536 % 256) (c := q / 256 % 256) (d := q % 256) (by omega) (by omega) (by omega) (by omega)
  have hl := dots_len (q / 16777216 % 256) (q / 65536 % 256) (q / 256 % 256) (q % 256)
  have hq' : ((q / 16777216 % 256 * 256 + q / 65536 % 256) * 256 + q / 256 % 256) * 256 + q % 256 = q := by omega
  rw [hq'] at h4
  have hn : ∀ c, Txt.sgn c = true → c ≠ 46 → c ∉ dots (q / 16777216 % 256) (q / 65536 % 256) (q / 256 % 256) (q % 256) := by
    intro c hc hd
    refine Txt.not_mem_join hd _ fun p hp => ?_
    simp only [List.mem_cons, List.not_mem_nil, or_false] at hp
    rcases hp with rfl | rfl | rfl | rfl
    · exact Txt.decT_sgn (by omega) hc
    · exact Txt.decT_sgn (by omega) hc
    · exact Txt.decT_sgn (by omega) hc
    · exact Txt.decT_sgn (by omega) hc
  refine ⟨dots (q / 16777216 % 256) (q / 65536 % 256) (q / 256 % 256) (q % 256), ⟨by omega, ?_, hn 47 (by decide) (by decide), hn 45 (by decide) (by decide)⟩, ?_, ?_⟩
  · unfold dots
    rw [Lib.join_cons]
    intro e
    exact Txt.decT_ne _ (List.append_eq_nil_iff.1 e).1
  · unfold prF okF
    rw [if_neg (by decide), if_pos rfl, if_pos rfl, Option.bind_some, if_pos (by rw [decide_eq_true_eq]; omega), if_pos rfl]
    unfold pr4
    have b0' : txtF (andI .u64 (shrI .u64 (q : Int) 24) 255) = _ := b0
    have b1' : txtF (andI .u64 (shrI .u64 (q : Int) 16) 255) = _ := b1
    have b2' : txtF (andI .u64 (shrI .u64 (q : Int) 8) 255) = _ := b2
    have b3' : txtF (andI .u64 (shrI .u64 (q : Int) 0) 255) = _ := b3
    rw [b0', Option.bind_some, b1', Option.bind_some, b2', Option.bind_some, b3', Option.bind_some, hj]
  · unfold addr_Parse.f
    have hc := contains_at (dots (q / 16777216 % 256) (q / 65536 % 256) (q / 256 % 256) (q % 256)) 58 (by omega)
    rw [Txt.contains_no (hn 58 (by decide) (by decide))] at hc
    have hc' : strings_Contains.f ⟨⟨dots (q / 16777216 % 256) (q / 65536 % 256) (q / 256 % 256) (q % 256)⟩⟩ { data := #[58] } = some false := hc
    rw [hc', Option.bind_some, if_neg (by decide), h4, Option.bind_some, if_pos rfl]

theorem cutF_at (s sep : List UInt8) (h : s.length ≤ 1000) : cutF ⟨⟨s⟩⟩ ⟨⟨sep⟩⟩ = some (⟨⟨(Lib.cut s sep).1⟩⟩, ⟨⟨(Lib.cut s sep).2.1⟩⟩, (Lib.cut s sep).2.2) := by
  unfold cutF
  rw [if_pos (by rw [bsize]; omega)]
  rfl
/-- eight groups -/
structure G8 (ns : List Nat) : Prop where
  len : ns.length = 8
  lt : ∀ n ∈ ns, n < 65536
def castI (ns : List Nat) : List Int := ns.map fun (n : Nat) => (n : Int)
theorem castI_len (ns : List Nat) : (castI ns).length = ns.length := List.length_map ..
theorem six_whole {ns : List Nat} (h : G8 ns) : sixF ⟨⟨Lib.join (ns.map Txt.hexT) [58]⟩⟩ = some (6, (comb8 (castI ns)).1, (comb8 (castI ns)).2, true) := by
  have hl := join_hex_len (ns := ns) (by rw [h.len]; omega)
  have hne : ns ≠ [] := by intro e; have := h.len; rw [e] at this; simp at this
  have htw : Txt.twice 58 (Lib.join (ns.map Txt.hexT) [58]) = false := by
    have := Txt.twice_join (c := 58) (ns.map Txt.hexT) (fun p hp => by
      obtain ⟨m, hm, rfl⟩ := List.mem_map.1 hp
      exact ⟨Txt.hexT_sgn (h.lt m hm) (by decide), Txt.hexT_ne m⟩) []
    rw [List.append_nil] at this
    exact this
  have hc := cutF_at (Lib.join (ns.map Txt.hexT) [58]) [58, 58] (by omega)
  rw [Txt.cut_miss htw] at hc
  have hc' : cutF ⟨⟨Lib.join (ns.map Txt.hexT) [58]⟩⟩ { data := #[58, 58] } = some (⟨⟨Lib.join (ns.map Txt.hexT) [58]⟩⟩, ⟨⟨[]⟩⟩, false) := hc
  have r1 := row_at h.lt (by rw [h.len]; omega) true
  have r2 := row_at (ns := []) (by simp) (by simp) true
  have r2' : rowF (⟨⟨[]⟩⟩, true) = some ([], true) := r2
  unfold sixF
  rw [hc', Option.bind_some]
  simp only
  rw [show (!false) = true from rfl, r1, Option.bind_some, r2', Option.bind_some]
  have hB : sixB ⟨⟨Lib.join (ns.map Txt.hexT) [58]⟩⟩ false (castI ns, true) ([], true) = false := by
    unfold sixB
    simp only [Bool.not_true, Bool.false_or, blen, castI_len, h.len, List.length_nil]
    rw [decide_eq_false (join_ne hne)]; rfl
  have hB' : ¬ sixB ⟨⟨Lib.join (ns.map Txt.hexT) [58]⟩⟩ false (ns.map fun (n : Nat) => (n : Int), true) ([], true) = true := by
    intro e; exact absurd (e.symm.trans hB) (by decide)
  rw [if_neg hB']
  simp only [List.length_map, h.len, List.length_nil, Nat.add_zero, Nat.sub_self, List.replicate_zero, List.append_nil]
  rfl
theorem six_cut {ns : List Nat} (h : G8 ns) {f t : Nat} (hft : f + 2 ≤ t) (ht : t ≤ 8) (hz : ∀ k, f ≤ k → k < t → (castI ns).getD k 0 = 0) :
    sixF ⟨⟨Lib.join ((ns.take f).map Txt.hexT) [58] ++ 58 :: 58 :: Lib.join ((ns.drop t).map Txt.hexT) [58]⟩⟩ = some (6, (comb8 (castI ns)).1, (comb8 (castI ns)).2, true) := by
  have lf : (ns.take f).length ≤ 8 := by rw [List.length_take, h.len]; omega
  have lt : (ns.drop t).length ≤ 8 := by rw [List.length_drop, h.len]; omega
  have gf : ∀ n ∈ ns.take f, n < 65536 := fun n hn => h.lt n (List.mem_of_mem_take hn)
  have gt : ∀ n ∈ ns.drop t, n < 65536 := fun n hn => h.lt n (List.mem_of_mem_drop hn)
  have l1 := join_hex_len lf
  have l2 := join_hex_len lt
  have htw : Txt.twice 58 (Lib.join ((ns.take f).map Txt.hexT) [58] ++ [58]) = false := by
    rw [Txt.twice_join (c := 58) ((ns.take f).map Txt.hexT) (fun p hp => by
      obtain ⟨m, hm, rfl⟩ := List.mem_map.1 hp
      exact ⟨Txt.hexT_sgn (gf m hm) (by decide), Txt.hexT_ne m⟩) [58]]
    rfl
  have hc := cutF_at (Lib.join ((ns.take f).map Txt.hexT) [58] ++ 58 :: 58 :: Lib.join ((ns.drop t).map Txt.hexT) [58]) [58, 58] (by simp only [List.length_append, List.length_cons]; omega)
  rw [Txt.cut_hit _ htw] at hc
  have hc' : cutF ⟨⟨Lib.join ((ns.take f).map Txt.hexT) [58] ++ 58 :: 58 :: Lib.join ((ns.drop t).map Txt.hexT) [58]⟩⟩ { data := #[58, 58] } = some (⟨⟨Lib.join ((ns.take f).map Txt.hexT) [58]⟩⟩, ⟨⟨Lib.join ((ns.drop t).map Txt.hexT) [58]⟩⟩, true) := hc
  have r1 := row_at gf lf false
  have r2 := row_at gt lt true
  unfold sixF
  rw [hc', Option.bind_some]
  simp only
  rw [show (!true) = false from rfl, r1, Option.bind_some, r2, Option.bind_some]
  have hlen : (ns.take f).length + (ns.drop t).length = f + (8 - t) := by rw [List.length_take, List.length_drop, h.len]; omega
  have hB : ∀ X Y : List Int, X.length = (ns.take f).length → Y.length = (ns.drop t).length → sixB ⟨⟨Lib.join ((ns.take f).map Txt.hexT) [58] ++ 58 :: 58 :: Lib.join ((ns.drop t).map Txt.hexT) [58]⟩⟩ true (X, true) (Y, true) = false := by
    intro X Y hX hY
    unfold sixB
    simp only [Bool.not_true, Bool.false_or, blen]
    rw [decide_eq_false (by simp), Bool.false_or, hX, hY, hlen]
    exact decide_eq_false (by omega)
  rw [if_neg (by rw [hB _ _ (List.length_map ..) (List.length_map ..)]; decide)]
  have hf := fill_eq (l := castI ns) (by rw [castI_len, h.len]) hft ht hz
  unfold castI at hf ⊢
  rw [← List.map_take, ← List.map_drop] at hf
  rw [hf]
theorem app_ba (a b : List UInt8) : (⟨⟨a⟩⟩ : ByteArray) ++ colB ++ (⟨⟨b⟩⟩ : ByteArray) = ⟨⟨a ++ 58 :: 58 :: b⟩⟩ := by
  have h : ((⟨⟨a⟩⟩ : ByteArray) ++ colB ++ (⟨⟨b⟩⟩ : ByteArray)).data.toList = a ++ 58 :: 58 :: b := by
    simp [colB]
  have e : ∀ x : ByteArray, x = ⟨⟨x.data.toList⟩⟩ := fun _ => rfl
  rw [e ((⟨⟨a⟩⟩ : ByteArray) ++ colB ++ (⟨⟨b⟩⟩ : ByteArray)), h]
theorem split4 {h : Nat} (hh : h < 18446744073709551616) : ((h / 281474976710656 % 65536 * 65536 + h / 4294967296 % 65536) * 65536 + h / 65536 % 65536) * 65536 + h % 65536 = h := by omega
theorem back6 {h l : Nat} (hh : h < 18446744073709551616) (hl : l < 18446744073709551616) : ∃ s, PT s ∧ prF 6 (h : Int) (l : Int) = some ⟨⟨s⟩⟩ ∧ addr_Parse.f ⟨⟨s⟩⟩ = some (6, (h : Int), (l : Int), true) := by
  obtain ⟨ns, hns⟩ : ∃ ns, ns = [h / 281474976710656 % 65536, h / 4294967296 % 65536, h / 65536 % 65536, h % 65536, l / 281474976710656 % 65536, l / 4294967296 % 65536, l / 65536 % 65536, l % 65536] := ⟨_, rfl⟩
  have G : G8 ns := by
    subst hns
    refine ⟨rfl, fun n hn => ?_⟩
    simp only [List.mem_cons, List.not_mem_nil, or_false] at hn
    rcases hn with rfl | rfl | rfl | rfl | rfl | rfl | rfl | rfl <;> omega
  have hg : grp (h : Int) (l : Int) = castI ns := by
    unfold grp castI
    rw [part_at hh, part_at hl, hns]
    simp only [List.map_cons, List.map_nil, List.cons_append, List.nil_append]
  have hc8 : comb8 (castI ns) = ((h : Int), (l : Int)) := by
    have c1 := comb_at (a := h / 281474976710656 % 65536) (b := h / 4294967296 % 65536) (c := h / 65536 % 65536) (d := h % 65536) (by omega) (by omega) (by omega) (by omega)
    have c2 := comb_at (a := l / 281474976710656 % 65536) (b := l / 4294967296 % 65536) (c := l / 65536 % 65536) (d := l % 65536) (by omega) (by omega) (by omega) (by omega)
    have d1 : ((h / 281474976710656 % 65536 * 65536 + h / 4294967296 % 65536) * 65536 + h / 65536 % 65536) * 65536 + h % 65536 = h := split4 hh
    have d2 : ((l / 281474976710656 % 65536 * 65536 + l / 4294967296 % 65536) * 65536 + l / 65536 % 65536) * 65536 + l % 65536 = l := split4 hl
    rw [d1] at c1
    rw [d2] at c2
    rw [hns]
    show (comb4 _ _ _ _, comb4 _ _ _ _) = _
    rw [c1, c2]
  have sg : ∀ ms : List Nat, (∀ n ∈ ms, n < 65536) → ∀ c, Txt.sgn c = true → c ≠ 58 → c ∉ Lib.join (ms.map Txt.hexT) [58] := by
    intro ms hm c hc hd
    refine Txt.not_mem_join hd _ fun p hp => ?_
    obtain ⟨m, hmm, rfl⟩ := List.mem_map.1 hp
    exact Txt.hexT_sgn (hm m hmm) hc
  have parse : ∀ s : List UInt8, s.length ≤ 1000 → (58 : UInt8) ∈ s → sixF ⟨⟨s⟩⟩ = some (6, (comb8 (castI ns)).1, (comb8 (castI ns)).2, true) → addr_Parse.f ⟨⟨s⟩⟩ = some (6, (h : Int), (l : Int), true) := by
    intro s hs hm h6
    unfold addr_Parse.f
    have hc := contains_at s 58 hs
    rw [Txt.contains_yes hm] at hc
    have hc' : strings_Contains.f ⟨⟨s⟩⟩ { data := #[58] } = some true := hc
    unfold addr_six.f
    rw [hc', Option.bind_some, if_pos rfl, h6, hc8]; rfl
  have hpr : ∀ s, ((zerosF (castI ns) ()).bind fun ij => pr6 (castI ns) ij) = some s → prF 6 (h : Int) (l : Int) = some s := by
    intro s hs
    unfold prF okF
    rw [if_pos rfl, Option.bind_some, if_pos rfl, if_neg (by decide), hg]
    exact hs
  obtain ⟨f, t, hz, hm, hP⟩ := zeros_at (l := castI ns) (by rw [castI_len, G.len])
  rcases hP with ⟨rfl, rfl⟩ | ⟨hft, ht, hzz⟩
  · have hlen := join_hex_len (ns := ns) (by rw [G.len]; omega)
    have htx := text_at G.lt (by rw [G.len]; omega)
    refine ⟨Lib.join (ns.map Txt.hexT) [58], ⟨by omega, join_ne (by intro e; have := G.len; rw [e] at this; simp at this), sg ns G.lt 47 (by decide) (by decide), sg ns G.lt 45 (by decide) (by decide)⟩, hpr _ ?_, parse _ (by omega) ?_ (six_whole G)⟩
    · rw [hz, Option.bind_some]
      unfold pr6
      rw [if_pos (show ((((0 : Nat) : Int), ((0 : Nat) : Int)) : Int × Int) = (0, 0) from rfl)]
      exact htx
    · rw [hns, List.map_cons, List.map_cons, Txt.join_more]
      simp
  · have lf : (ns.take f).length ≤ 8 := by rw [List.length_take, G.len]; omega
    have lt : (ns.drop t).length ≤ 8 := by rw [List.length_drop, G.len]; omega
    have gf : ∀ n ∈ ns.take f, n < 65536 := fun n hn => G.lt n (List.mem_of_mem_take hn)
    have gt : ∀ n ∈ ns.drop t, n < 65536 := fun n hn => G.lt n (List.mem_of_mem_drop hn)
    have l1 := join_hex_len lf
    have l2 := join_hex_len lt
    have t1 := text_at gf lf
    have t2 := text_at gt lt
    have hs : ∀ c, Txt.sgn c = true → c ≠ 58 → c ∉ Lib.join ((ns.take f).map Txt.hexT) [58] ++ 58 :: 58 :: Lib.join ((ns.drop t).map Txt.hexT) [58] := by
      intro c hc hd
      simp only [List.mem_append, List.mem_cons, not_or]
      exact ⟨sg _ gf c hc hd, hd, hd, sg _ gt c hc hd⟩
    refine ⟨Lib.join ((ns.take f).map Txt.hexT) [58] ++ 58 :: 58 :: Lib.join ((ns.drop t).map Txt.hexT) [58], ⟨by simp only [List.length_append, List.length_cons]; omega, by simp, hs 47 (by decide) (by decide), hs 45 (by decide) (by decide)⟩, hpr _ ?_, parse _ (by simp only [List.length_append, List.length_cons]; omega) (by simp) (six_cut G hft ht hzz)⟩
    rw [hz, Option.bind_some]
    unfold pr6
    rw [if_neg (by intro e; have := congrArg Prod.snd e; simp only at this; omega), if_pos hm]
    simp only [Int.toNat_natCast]
    have e1 : (castI ns).take f = (ns.take f).map fun (n : Nat) => (n : Int) := (List.map_take ..).symm
    have e2 : (castI ns).drop t = (ns.drop t).map fun (n : Nat) => (n : Int) := (List.map_drop ..).symm
    rw [e1, e2, t1, Option.bind_some, t2, Option.bind_some, if_pos (by rw [bsize, bsize]; omega), app_ba]
/-- An address of numbers is printed, and read as it was. -/
theorem back_at {V : Int} {B q : Nat} (h : Kd' V B) (hq : q < 2 ^ B) : ∃ s, PT s ∧ addr_Print.f V (H q) (L q) = some ⟨⟨s⟩⟩ ∧ addr_Parse.f ⟨⟨s⟩⟩ = some (V, H q, L q, true) := by
  have hM : M64 = 18446744073709551616 := rfl
  rcases h with ⟨rfl, rfl⟩ | ⟨rfl, rfl⟩
  · have hq' : q < 4294967296 := hq
    have e1 : H q = 0 := by unfold H; rw [hM]; omega
    have e2 : L q = (q : Int) := by unfold L; rw [hM]; omega
    rw [e1, e2]
    exact back4 hq'
  · have h1 := H_lt (q := q) hq
    have h2 := L_lt q
    exact back6 h1 h2

end Go.Proofs.YtfnacgojmdbjmaaDoor
end

section
/- PrefHolds: the law's words: the functions that it calls as contracts. No conditions. -/
namespace Go.Proofs.YtfnacgojmdbjmaaDoor
open Go.Det Go.RowKit Go.Proofs.YtfnacgojmdbjmaaDoor.PPH Go.Proofs.YtfnacgojmdbjmaaDoorW.PrintWords
set_option maxRecDepth 100000

noncomputable def dec39 : List Value → Option Unit
  | [] => some ()
  | _ => none
noncomputable def con39 : Con := Con.opt dec39 (fun _ => some true) fun b => .bool b
theorem om39 {W : World} (hW : GoodW W) : OwnAll Tryd.prog W 6 39 con39.own := by
  refine own_of_calls (fn := Tryd.f39) (c := bodyOf Tryd.f39) hW Tryd.func39 (by kernel_rfl) (by kernel_rfl) fun args v h => ?_
  split at h
  case h_2 => cases h
  rename_i a ha
  cases h
  unfold dec39 at ha
  split at ha
  case h_2 => cases ha
  exact ⟨rfl, rfl, fun w hG => st_awake39 w hG⟩
noncomputable def L13 : List (Nat × Con) := [(40, con40), (28, con28), (36, con36), (37, con37), (43, con43), (38, con38), (33, con33), (42, con42), (44, con44), (45, con45), (46, con46), (39, con39)]
theorem own13 {W : World} (hW : GoodW W) : OwnsAll Tryd.prog W 6 (extC L13) :=
  OwnsAll.con (om40 hW) (OwnsAll.con (om28 hW) (OwnsAll.con (om36 hW) (OwnsAll.con (om37 hW) (OwnsAll.con (om43 hW) (OwnsAll.con (om38 hW) (OwnsAll.con (om33 hW) (OwnsAll.con (om42 hW) (OwnsAll.con (om44 hW) (OwnsAll.con (om45 hW) (OwnsAll.con (om46 hW) (OwnsAll.con (om39 hW) (ownsAll_nil W 6))))))))))))

end Go.Proofs.YtfnacgojmdbjmaaDoor
end

section
/- Conditions, reckoned by the kernel. -/
namespace Go.Proofs.YtfnacgojmdbjmaaDoor
open Go.Det Go.RowKit Go.Proofs.YtfnacgojmdbjmaaDoor.PPH Go.Proofs.YtfnacgojmdbjmaaDoorW.PrintWords
set_option maxRecDepth 100000

theorem vl13 (v a b n w c d m : Int) (Q : Value → Prop) : codeU Tryd.prog (cwC L13) (oxE []) 1 (bodyOf Tryd.f13) (inTab [.int .i64 v, .int .u64 a, .int .u64 b, .int .i64 n, .int .i64 w, .int .u64 c, .int .u64 d, .int .i64 m] 8) (birth [] 64) (retW Tryd.prog Tryd.f13 fun v _ => Q v) = ((∃ x0 : Int × Int × Int × Int, ((glebelaw3_Pre.f v a b n = some x0) ∧ (∃ x1 : Int × Int × Int × Int, ((glebelaw3_Pre.f w c d m = some x1) ∧ (∃ x2 : Int × Int × Int, ((glebelaw2_Addr.f 300 v c d = some x2) ∧ (∃ x3 : Int × Int × Int, ((pref_First.f (x0.1) (Prod.fst (x0.2)) (Prod.fst (Prod.snd (x0.2))) (Prod.snd (Prod.snd (x0.2))) = some x3) ∧ (∃ x4 : Int × Int × Int, ((pref_Last.f (x0.1) (Prod.fst (x0.2)) (Prod.fst (Prod.snd (x0.2))) (Prod.snd (Prod.snd (x0.2))) = some x4) ∧ bifW (cdec (x2.1 = x0.1)) ((∃ x5 : Bool, ((gleberef1_Less.f (Prod.fst (x2.2)) (Prod.snd (x2.2)) (Prod.fst (x3.2)) (Prod.snd (x3.2)) = some x5) ∧ bifW (!x5) ((∃ x6 : Bool, ((gleberef1_Less.f (Prod.fst (x4.2)) (Prod.snd (x4.2)) (Prod.fst (x2.2)) (Prod.snd (x2.2)) = some x6) ∧ (∃ x7 : ByteArray, ((pref_Print.f (x0.1) (Prod.fst (x0.2)) (Prod.fst (Prod.snd (x0.2))) (Prod.snd (Prod.snd (x0.2))) = some x7) ∧ (∃ x8 : Int × Int × Int × Int × Bool, ((pref_Parse.f x7 = some x8) ∧ bifW (!Prod.snd (Prod.snd (Prod.snd (x8.2)))) (Q (Value.bool false)) (bifW (!(cdec (x8.1 = x0.1) && (cdec (Prod.fst (x8.2) = Prod.fst (x0.2)) && (cdec (Prod.fst (Prod.snd (x8.2)) = Prod.fst (Prod.snd (x0.2))) && (cdec (Prod.fst (Prod.snd (Prod.snd (x8.2))) = Prod.snd (Prod.snd (x0.2))) && true))))) (Q (Value.bool false)) ((∃ x9 : Bool, ((pref_Has.f (x0.1) (Prod.fst (x0.2)) (Prod.fst (Prod.snd (x0.2))) (Prod.snd (Prod.snd (x0.2))) x3.1 (Prod.fst (x3.2)) (Prod.snd (x3.2)) = some x9) ∧ bifW (!x9) (Q (Value.bool false)) ((∃ x10 : Bool, ((pref_Has.f (x0.1) (Prod.fst (x0.2)) (Prod.fst (Prod.snd (x0.2))) (Prod.snd (Prod.snd (x0.2))) x4.1 (Prod.fst (x4.2)) (Prod.snd (x4.2)) = some x10) ∧ bifW (!x10) (Q (Value.bool false)) ((∃ x11 : Bool, ((pref_Has.f (x0.1) (Prod.fst (x0.2)) (Prod.fst (Prod.snd (x0.2))) (Prod.snd (Prod.snd (x0.2))) x2.1 (Prod.fst (x2.2)) (Prod.snd (x2.2)) = some x11) ∧ bifW (!x11 == !x6) (Q (Value.bool false)) ((∃ x12 : Bool, ((pref_Over.f (x0.1) (Prod.fst (x0.2)) (Prod.fst (Prod.snd (x0.2))) (Prod.snd (Prod.snd (x0.2))) x1.1 (Prod.fst (x1.2)) (Prod.fst (Prod.snd (x1.2))) (Prod.snd (Prod.snd (x1.2))) = some x12) ∧ (∃ x13 : Bool, ((pref_Over.f (x1.1) (Prod.fst (x1.2)) (Prod.fst (Prod.snd (x1.2))) (Prod.snd (Prod.snd (x1.2))) x0.1 (Prod.fst (x0.2)) (Prod.fst (Prod.snd (x0.2))) (Prod.snd (Prod.snd (x0.2))) = some x13) ∧ bifW (!x12 == x13) (Q (Value.bool false)) ((∃ x14 : Bool, ((pref_Over.f (x0.1) (Prod.fst (x0.2)) (Prod.fst (Prod.snd (x0.2))) (Prod.snd (Prod.snd (x0.2))) x1.1 (Prod.fst (x1.2)) (Prod.fst (Prod.snd (x1.2))) (Prod.snd (Prod.snd (x1.2))) = some x14) ∧ (∃ x15 : Int × Int × Int, ((pref_First.f (x1.1) (Prod.fst (x1.2)) (Prod.fst (Prod.snd (x1.2))) (Prod.snd (Prod.snd (x1.2))) = some x15) ∧ (∃ x16 : Bool, ((pref_Has.f (x0.1) (Prod.fst (x0.2)) (Prod.fst (Prod.snd (x0.2))) (Prod.snd (Prod.snd (x0.2))) x15.1 (Prod.fst (x15.2)) (Prod.snd (x15.2)) = some x16) ∧ bifW (x16) (bifW (!x14 == true) (Q (Value.bool false)) ((∃ x17 : Bool, ((pref_Less.f (x0.1) (Prod.fst (x0.2)) (Prod.fst (Prod.snd (x0.2))) (Prod.snd (Prod.snd (x0.2))) x1.1 (Prod.fst (x1.2)) (Prod.fst (Prod.snd (x1.2))) (Prod.snd (Prod.snd (x1.2))) = some x17) ∧ bifW (x17) (bifW (!true == !(cdec (x0.1 = x1.1) && (cdec (Prod.fst (x0.2) = Prod.fst (x1.2)) && (cdec (Prod.fst (Prod.snd (x0.2)) = Prod.fst (Prod.snd (x1.2))) && (cdec (Prod.snd (Prod.snd (x0.2)) = Prod.snd (Prod.snd (x1.2))) && true))))) (Q (Value.bool false)) ((∃ x18 : Int × Int × Int × Bool, ((gleberef1_Next.f (x4.1) (Prod.fst (x4.2)) (Prod.snd (x4.2)) = some x18) ∧ bifW (Prod.snd (Prod.snd (x18.2))) ((∃ x19 : Bool, ((pref_Has.f (x0.1) (Prod.fst (x0.2)) (Prod.fst (Prod.snd (x0.2))) (Prod.snd (Prod.snd (x0.2))) x18.1 (Prod.fst (x18.2)) (Prod.fst (Prod.snd (x18.2))) = some x19) ∧ bifW (x19) (Q (Value.bool false)) ((∃ x20 : Bool, ((some true = some x20) ∧ Q (Value.bool x20))))))) ((∃ x19 : Bool, ((some true = some x19) ∧ Q (Value.bool x19)))))))) ((∃ x18 : Bool, ((pref_Less.f (x1.1) (Prod.fst (x1.2)) (Prod.fst (Prod.snd (x1.2))) (Prod.snd (Prod.snd (x1.2))) x0.1 (Prod.fst (x0.2)) (Prod.fst (Prod.snd (x0.2))) (Prod.snd (Prod.snd (x0.2))) = some x18) ∧ bifW (!x18 == !(cdec (x0.1 = x1.1) && (cdec (Prod.fst (x0.2) = Prod.fst (x1.2)) && (cdec (Prod.fst (Prod.snd (x0.2)) = Prod.fst (Prod.snd (x1.2))) && (cdec (Prod.snd (Prod.snd (x0.2)) = Prod.snd (Prod.snd (x1.2))) && true))))) (Q (Value.bool false)) ((∃ x19 : Int × Int × Int × Bool, ((gleberef1_Next.f (x4.1) (Prod.fst (x4.2)) (Prod.snd (x4.2)) = some x19) ∧ bifW (Prod.snd (Prod.snd (x19.2))) ((∃ x20 : Bool, ((pref_Has.f (x0.1) (Prod.fst (x0.2)) (Prod.fst (Prod.snd (x0.2))) (Prod.snd (Prod.snd (x0.2))) x19.1 (Prod.fst (x19.2)) (Prod.fst (Prod.snd (x19.2))) = some x20) ∧ bifW (x20) (Q (Value.bool false)) ((∃ x21 : Bool, ((some true = some x21) ∧ Q (Value.bool x21))))))) ((∃ x20 : Bool, ((some true = some x20) ∧ Q (Value.bool x20)))))))))))))) ((∃ x17 : Bool, ((pref_Has.f (x1.1) (Prod.fst (x1.2)) (Prod.fst (Prod.snd (x1.2))) (Prod.snd (Prod.snd (x1.2))) x3.1 (Prod.fst (x3.2)) (Prod.snd (x3.2)) = some x17) ∧ bifW (!x14 == x17) (Q (Value.bool false)) ((∃ x18 : Bool, ((pref_Less.f (x0.1) (Prod.fst (x0.2)) (Prod.fst (Prod.snd (x0.2))) (Prod.snd (Prod.snd (x0.2))) x1.1 (Prod.fst (x1.2)) (Prod.fst (Prod.snd (x1.2))) (Prod.snd (Prod.snd (x1.2))) = some x18) ∧ bifW (x18) (bifW (!true == !(cdec (x0.1 = x1.1) && (cdec (Prod.fst (x0.2) = Prod.fst (x1.2)) && (cdec (Prod.fst (Prod.snd (x0.2)) = Prod.fst (Prod.snd (x1.2))) && (cdec (Prod.snd (Prod.snd (x0.2)) = Prod.snd (Prod.snd (x1.2))) && true))))) (Q (Value.bool false)) ((∃ x19 : Int × Int × Int × Bool, ((gleberef1_Next.f (x4.1) (Prod.fst (x4.2)) (Prod.snd (x4.2)) = some x19) ∧ bifW (Prod.snd (Prod.snd (x19.2))) ((∃ x20 : Bool, ((pref_Has.f (x0.1) (Prod.fst (x0.2)) (Prod.fst (Prod.snd (x0.2))) (Prod.snd (Prod.snd (x0.2))) x19.1 (Prod.fst (x19.2)) (Prod.fst (Prod.snd (x19.2))) = some x20) ∧ bifW (x20) (Q (Value.bool false)) ((∃ x21 : Bool, ((some true = some x21) ∧ Q (Value.bool x21))))))) ((∃ x20 : Bool, ((some true = some x20) ∧ Q (Value.bool x20)))))))) ((∃ x19 : Bool, ((pref_Less.f (x1.1) (Prod.fst (x1.2)) (Prod.fst (Prod.snd (x1.2))) (Prod.snd (Prod.snd (x1.2))) x0.1 (Prod.fst (x0.2)) (Prod.fst (Prod.snd (x0.2))) (Prod.snd (Prod.snd (x0.2))) = some x19) ∧ bifW (!x19 == !(cdec (x0.1 = x1.1) && (cdec (Prod.fst (x0.2) = Prod.fst (x1.2)) && (cdec (Prod.fst (Prod.snd (x0.2)) = Prod.fst (Prod.snd (x1.2))) && (cdec (Prod.snd (Prod.snd (x0.2)) = Prod.snd (Prod.snd (x1.2))) && true))))) (Q (Value.bool false)) ((∃ x20 : Int × Int × Int × Bool, ((gleberef1_Next.f (x4.1) (Prod.fst (x4.2)) (Prod.snd (x4.2)) = some x20) ∧ bifW (Prod.snd (Prod.snd (x20.2))) ((∃ x21 : Bool, ((pref_Has.f (x0.1) (Prod.fst (x0.2)) (Prod.fst (Prod.snd (x0.2))) (Prod.snd (Prod.snd (x0.2))) x20.1 (Prod.fst (x20.2)) (Prod.fst (Prod.snd (x20.2))) = some x21) ∧ bifW (x21) (Q (Value.bool false)) ((∃ x22 : Bool, ((some true = some x22) ∧ Q (Value.bool x22))))))) ((∃ x21 : Bool, ((some true = some x21) ∧ Q (Value.bool x21))))))))))))))))))))))))))))))))))))))))))))) ((∃ x6 : ByteArray, ((pref_Print.f (x0.1) (Prod.fst (x0.2)) (Prod.fst (Prod.snd (x0.2))) (Prod.snd (Prod.snd (x0.2))) = some x6) ∧ (∃ x7 : Int × Int × Int × Int × Bool, ((pref_Parse.f x6 = some x7) ∧ bifW (!Prod.snd (Prod.snd (Prod.snd (x7.2)))) (Q (Value.bool false)) (bifW (!(cdec (x7.1 = x0.1) && (cdec (Prod.fst (x7.2) = Prod.fst (x0.2)) && (cdec (Prod.fst (Prod.snd (x7.2)) = Prod.fst (Prod.snd (x0.2))) && (cdec (Prod.fst (Prod.snd (Prod.snd (x7.2))) = Prod.snd (Prod.snd (x0.2))) && true))))) (Q (Value.bool false)) ((∃ x8 : Bool, ((pref_Has.f (x0.1) (Prod.fst (x0.2)) (Prod.fst (Prod.snd (x0.2))) (Prod.snd (Prod.snd (x0.2))) x3.1 (Prod.fst (x3.2)) (Prod.snd (x3.2)) = some x8) ∧ bifW (!x8) (Q (Value.bool false)) ((∃ x9 : Bool, ((pref_Has.f (x0.1) (Prod.fst (x0.2)) (Prod.fst (Prod.snd (x0.2))) (Prod.snd (Prod.snd (x0.2))) x4.1 (Prod.fst (x4.2)) (Prod.snd (x4.2)) = some x9) ∧ bifW (!x9) (Q (Value.bool false)) ((∃ x10 : Bool, ((pref_Has.f (x0.1) (Prod.fst (x0.2)) (Prod.fst (Prod.snd (x0.2))) (Prod.snd (Prod.snd (x0.2))) x2.1 (Prod.fst (x2.2)) (Prod.snd (x2.2)) = some x10) ∧ bifW (!x10 == false) (Q (Value.bool false)) ((∃ x11 : Bool, ((pref_Over.f (x0.1) (Prod.fst (x0.2)) (Prod.fst (Prod.snd (x0.2))) (Prod.snd (Prod.snd (x0.2))) x1.1 (Prod.fst (x1.2)) (Prod.fst (Prod.snd (x1.2))) (Prod.snd (Prod.snd (x1.2))) = some x11) ∧ (∃ x12 : Bool, ((pref_Over.f (x1.1) (Prod.fst (x1.2)) (Prod.fst (Prod.snd (x1.2))) (Prod.snd (Prod.snd (x1.2))) x0.1 (Prod.fst (x0.2)) (Prod.fst (Prod.snd (x0.2))) (Prod.snd (Prod.snd (x0.2))) = some x12) ∧ bifW (!x11 == x12) (Q (Value.bool false)) ((∃ x13 : Bool, ((pref_Over.f (x0.1) (Prod.fst (x0.2)) (Prod.fst (Prod.snd (x0.2))) (Prod.snd (Prod.snd (x0.2))) x1.1 (Prod.fst (x1.2)) (Prod.fst (Prod.snd (x1.2))) (Prod.snd (Prod.snd (x1.2))) = some x13) ∧ (∃ x14 : Int × Int × Int, ((pref_First.f (x1.1) (Prod.fst (x1.2)) (Prod.fst (Prod.snd (x1.2))) (Prod.snd (Prod.snd (x1.2))) = some x14) ∧ (∃ x15 : Bool, ((pref_Has.f (x0.1) (Prod.fst (x0.2)) (Prod.fst (Prod.snd (x0.2))) (Prod.snd (Prod.snd (x0.2))) x14.1 (Prod.fst (x14.2)) (Prod.snd (x14.2)) = some x15) ∧ bifW (x15) (bifW (!x13 == true) (Q (Value.bool false)) ((∃ x16 : Bool, ((pref_Less.f (x0.1) (Prod.fst (x0.2)) (Prod.fst (Prod.snd (x0.2))) (Prod.snd (Prod.snd (x0.2))) x1.1 (Prod.fst (x1.2)) (Prod.fst (Prod.snd (x1.2))) (Prod.snd (Prod.snd (x1.2))) = some x16) ∧ bifW (x16) (bifW (!true == !(cdec (x0.1 = x1.1) && (cdec (Prod.fst (x0.2) = Prod.fst (x1.2)) && (cdec (Prod.fst (Prod.snd (x0.2)) = Prod.fst (Prod.snd (x1.2))) && (cdec (Prod.snd (Prod.snd (x0.2)) = Prod.snd (Prod.snd (x1.2))) && true))))) (Q (Value.bool false)) ((∃ x17 : Int × Int × Int × Bool, ((gleberef1_Next.f (x4.1) (Prod.fst (x4.2)) (Prod.snd (x4.2)) = some x17) ∧ bifW (Prod.snd (Prod.snd (x17.2))) ((∃ x18 : Bool, ((pref_Has.f (x0.1) (Prod.fst (x0.2)) (Prod.fst (Prod.snd (x0.2))) (Prod.snd (Prod.snd (x0.2))) x17.1 (Prod.fst (x17.2)) (Prod.fst (Prod.snd (x17.2))) = some x18) ∧ bifW (x18) (Q (Value.bool false)) ((∃ x19 : Bool, ((some true = some x19) ∧ Q (Value.bool x19))))))) ((∃ x18 : Bool, ((some true = some x18) ∧ Q (Value.bool x18)))))))) ((∃ x17 : Bool, ((pref_Less.f (x1.1) (Prod.fst (x1.2)) (Prod.fst (Prod.snd (x1.2))) (Prod.snd (Prod.snd (x1.2))) x0.1 (Prod.fst (x0.2)) (Prod.fst (Prod.snd (x0.2))) (Prod.snd (Prod.snd (x0.2))) = some x17) ∧ bifW (!x17 == !(cdec (x0.1 = x1.1) && (cdec (Prod.fst (x0.2) = Prod.fst (x1.2)) && (cdec (Prod.fst (Prod.snd (x0.2)) = Prod.fst (Prod.snd (x1.2))) && (cdec (Prod.snd (Prod.snd (x0.2)) = Prod.snd (Prod.snd (x1.2))) && true))))) (Q (Value.bool false)) ((∃ x18 : Int × Int × Int × Bool, ((gleberef1_Next.f (x4.1) (Prod.fst (x4.2)) (Prod.snd (x4.2)) = some x18) ∧ bifW (Prod.snd (Prod.snd (x18.2))) ((∃ x19 : Bool, ((pref_Has.f (x0.1) (Prod.fst (x0.2)) (Prod.fst (Prod.snd (x0.2))) (Prod.snd (Prod.snd (x0.2))) x18.1 (Prod.fst (x18.2)) (Prod.fst (Prod.snd (x18.2))) = some x19) ∧ bifW (x19) (Q (Value.bool false)) ((∃ x20 : Bool, ((some true = some x20) ∧ Q (Value.bool x20))))))) ((∃ x19 : Bool, ((some true = some x19) ∧ Q (Value.bool x19)))))))))))))) ((∃ x16 : Bool, ((pref_Has.f (x1.1) (Prod.fst (x1.2)) (Prod.fst (Prod.snd (x1.2))) (Prod.snd (Prod.snd (x1.2))) x3.1 (Prod.fst (x3.2)) (Prod.snd (x3.2)) = some x16) ∧ bifW (!x13 == x16) (Q (Value.bool false)) ((∃ x17 : Bool, ((pref_Less.f (x0.1) (Prod.fst (x0.2)) (Prod.fst (Prod.snd (x0.2))) (Prod.snd (Prod.snd (x0.2))) x1.1 (Prod.fst (x1.2)) (Prod.fst (Prod.snd (x1.2))) (Prod.snd (Prod.snd (x1.2))) = some x17) ∧ bifW (x17) (bifW (!true == !(cdec (x0.1 = x1.1) && (cdec (Prod.fst (x0.2) = Prod.fst (x1.2)) && (cdec (Prod.fst (Prod.snd (x0.2)) = Prod.fst (Prod.snd (x1.2))) && (cdec (Prod.snd (Prod.snd (x0.2)) = Prod.snd (Prod.snd (x1.2))) && true))))) (Q (Value.bool false)) ((∃ x18 : Int × Int × Int × Bool, ((gleberef1_Next.f (x4.1) (Prod.fst (x4.2)) (Prod.snd (x4.2)) = some x18) ∧ bifW (Prod.snd (Prod.snd (x18.2))) ((∃ x19 : Bool, ((pref_Has.f (x0.1) (Prod.fst (x0.2)) (Prod.fst (Prod.snd (x0.2))) (Prod.snd (Prod.snd (x0.2))) x18.1 (Prod.fst (x18.2)) (Prod.fst (Prod.snd (x18.2))) = some x19) ∧ bifW (x19) (Q (Value.bool false)) ((∃ x20 : Bool, ((some true = some x20) ∧ Q (Value.bool x20))))))) ((∃ x19 : Bool, ((some true = some x19) ∧ Q (Value.bool x19)))))))) ((∃ x18 : Bool, ((pref_Less.f (x1.1) (Prod.fst (x1.2)) (Prod.fst (Prod.snd (x1.2))) (Prod.snd (Prod.snd (x1.2))) x0.1 (Prod.fst (x0.2)) (Prod.fst (Prod.snd (x0.2))) (Prod.snd (Prod.snd (x0.2))) = some x18) ∧ bifW (!x18 == !(cdec (x0.1 = x1.1) && (cdec (Prod.fst (x0.2) = Prod.fst (x1.2)) && (cdec (Prod.fst (Prod.snd (x0.2)) = Prod.fst (Prod.snd (x1.2))) && (cdec (Prod.snd (Prod.snd (x0.2)) = Prod.snd (Prod.snd (x1.2))) && true))))) (Q (Value.bool false)) ((∃ x19 : Int × Int × Int × Bool, ((gleberef1_Next.f (x4.1) (Prod.fst (x4.2)) (Prod.snd (x4.2)) = some x19) ∧ bifW (Prod.snd (Prod.snd (x19.2))) ((∃ x20 : Bool, ((pref_Has.f (x0.1) (Prod.fst (x0.2)) (Prod.fst (Prod.snd (x0.2))) (Prod.snd (Prod.snd (x0.2))) x19.1 (Prod.fst (x19.2)) (Prod.fst (Prod.snd (x19.2))) = some x20) ∧ bifW (x20) (Q (Value.bool false)) ((∃ x21 : Bool, ((some true = some x21) ∧ Q (Value.bool x21))))))) ((∃ x20 : Bool, ((some true = some x20) ∧ Q (Value.bool x20)))))))))))))))))))))))))))))))))))))))))))))) ((∃ x5 : ByteArray, ((pref_Print.f (x0.1) (Prod.fst (x0.2)) (Prod.fst (Prod.snd (x0.2))) (Prod.snd (Prod.snd (x0.2))) = some x5) ∧ (∃ x6 : Int × Int × Int × Int × Bool, ((pref_Parse.f x5 = some x6) ∧ bifW (!Prod.snd (Prod.snd (Prod.snd (x6.2)))) (Q (Value.bool false)) (bifW (!(cdec (x6.1 = x0.1) && (cdec (Prod.fst (x6.2) = Prod.fst (x0.2)) && (cdec (Prod.fst (Prod.snd (x6.2)) = Prod.fst (Prod.snd (x0.2))) && (cdec (Prod.fst (Prod.snd (Prod.snd (x6.2))) = Prod.snd (Prod.snd (x0.2))) && true))))) (Q (Value.bool false)) ((∃ x7 : Bool, ((pref_Has.f (x0.1) (Prod.fst (x0.2)) (Prod.fst (Prod.snd (x0.2))) (Prod.snd (Prod.snd (x0.2))) x3.1 (Prod.fst (x3.2)) (Prod.snd (x3.2)) = some x7) ∧ bifW (!x7) (Q (Value.bool false)) ((∃ x8 : Bool, ((pref_Has.f (x0.1) (Prod.fst (x0.2)) (Prod.fst (Prod.snd (x0.2))) (Prod.snd (Prod.snd (x0.2))) x4.1 (Prod.fst (x4.2)) (Prod.snd (x4.2)) = some x8) ∧ bifW (!x8) (Q (Value.bool false)) ((∃ x9 : Bool, ((pref_Has.f (x0.1) (Prod.fst (x0.2)) (Prod.fst (Prod.snd (x0.2))) (Prod.snd (Prod.snd (x0.2))) x2.1 (Prod.fst (x2.2)) (Prod.snd (x2.2)) = some x9) ∧ bifW (!x9 == false) (Q (Value.bool false)) ((∃ x10 : Bool, ((pref_Over.f (x0.1) (Prod.fst (x0.2)) (Prod.fst (Prod.snd (x0.2))) (Prod.snd (Prod.snd (x0.2))) x1.1 (Prod.fst (x1.2)) (Prod.fst (Prod.snd (x1.2))) (Prod.snd (Prod.snd (x1.2))) = some x10) ∧ (∃ x11 : Bool, ((pref_Over.f (x1.1) (Prod.fst (x1.2)) (Prod.fst (Prod.snd (x1.2))) (Prod.snd (Prod.snd (x1.2))) x0.1 (Prod.fst (x0.2)) (Prod.fst (Prod.snd (x0.2))) (Prod.snd (Prod.snd (x0.2))) = some x11) ∧ bifW (!x10 == x11) (Q (Value.bool false)) ((∃ x12 : Bool, ((pref_Over.f (x0.1) (Prod.fst (x0.2)) (Prod.fst (Prod.snd (x0.2))) (Prod.snd (Prod.snd (x0.2))) x1.1 (Prod.fst (x1.2)) (Prod.fst (Prod.snd (x1.2))) (Prod.snd (Prod.snd (x1.2))) = some x12) ∧ (∃ x13 : Int × Int × Int, ((pref_First.f (x1.1) (Prod.fst (x1.2)) (Prod.fst (Prod.snd (x1.2))) (Prod.snd (Prod.snd (x1.2))) = some x13) ∧ (∃ x14 : Bool, ((pref_Has.f (x0.1) (Prod.fst (x0.2)) (Prod.fst (Prod.snd (x0.2))) (Prod.snd (Prod.snd (x0.2))) x13.1 (Prod.fst (x13.2)) (Prod.snd (x13.2)) = some x14) ∧ bifW (x14) (bifW (!x12 == true) (Q (Value.bool false)) ((∃ x15 : Bool, ((pref_Less.f (x0.1) (Prod.fst (x0.2)) (Prod.fst (Prod.snd (x0.2))) (Prod.snd (Prod.snd (x0.2))) x1.1 (Prod.fst (x1.2)) (Prod.fst (Prod.snd (x1.2))) (Prod.snd (Prod.snd (x1.2))) = some x15) ∧ bifW (x15) (bifW (!true == !(cdec (x0.1 = x1.1) && (cdec (Prod.fst (x0.2) = Prod.fst (x1.2)) && (cdec (Prod.fst (Prod.snd (x0.2)) = Prod.fst (Prod.snd (x1.2))) && (cdec (Prod.snd (Prod.snd (x0.2)) = Prod.snd (Prod.snd (x1.2))) && true))))) (Q (Value.bool false)) ((∃ x16 : Int × Int × Int × Bool, ((gleberef1_Next.f (x4.1) (Prod.fst (x4.2)) (Prod.snd (x4.2)) = some x16) ∧ bifW (Prod.snd (Prod.snd (x16.2))) ((∃ x17 : Bool, ((pref_Has.f (x0.1) (Prod.fst (x0.2)) (Prod.fst (Prod.snd (x0.2))) (Prod.snd (Prod.snd (x0.2))) x16.1 (Prod.fst (x16.2)) (Prod.fst (Prod.snd (x16.2))) = some x17) ∧ bifW (x17) (Q (Value.bool false)) ((∃ x18 : Bool, ((some true = some x18) ∧ Q (Value.bool x18))))))) ((∃ x17 : Bool, ((some true = some x17) ∧ Q (Value.bool x17)))))))) ((∃ x16 : Bool, ((pref_Less.f (x1.1) (Prod.fst (x1.2)) (Prod.fst (Prod.snd (x1.2))) (Prod.snd (Prod.snd (x1.2))) x0.1 (Prod.fst (x0.2)) (Prod.fst (Prod.snd (x0.2))) (Prod.snd (Prod.snd (x0.2))) = some x16) ∧ bifW (!x16 == !(cdec (x0.1 = x1.1) && (cdec (Prod.fst (x0.2) = Prod.fst (x1.2)) && (cdec (Prod.fst (Prod.snd (x0.2)) = Prod.fst (Prod.snd (x1.2))) && (cdec (Prod.snd (Prod.snd (x0.2)) = Prod.snd (Prod.snd (x1.2))) && true))))) (Q (Value.bool false)) ((∃ x17 : Int × Int × Int × Bool, ((gleberef1_Next.f (x4.1) (Prod.fst (x4.2)) (Prod.snd (x4.2)) = some x17) ∧ bifW (Prod.snd (Prod.snd (x17.2))) ((∃ x18 : Bool, ((pref_Has.f (x0.1) (Prod.fst (x0.2)) (Prod.fst (Prod.snd (x0.2))) (Prod.snd (Prod.snd (x0.2))) x17.1 (Prod.fst (x17.2)) (Prod.fst (Prod.snd (x17.2))) = some x18) ∧ bifW (x18) (Q (Value.bool false)) ((∃ x19 : Bool, ((some true = some x19) ∧ Q (Value.bool x19))))))) ((∃ x18 : Bool, ((some true = some x18) ∧ Q (Value.bool x18)))))))))))))) ((∃ x15 : Bool, ((pref_Has.f (x1.1) (Prod.fst (x1.2)) (Prod.fst (Prod.snd (x1.2))) (Prod.snd (Prod.snd (x1.2))) x3.1 (Prod.fst (x3.2)) (Prod.snd (x3.2)) = some x15) ∧ bifW (!x12 == x15) (Q (Value.bool false)) ((∃ x16 : Bool, ((pref_Less.f (x0.1) (Prod.fst (x0.2)) (Prod.fst (Prod.snd (x0.2))) (Prod.snd (Prod.snd (x0.2))) x1.1 (Prod.fst (x1.2)) (Prod.fst (Prod.snd (x1.2))) (Prod.snd (Prod.snd (x1.2))) = some x16) ∧ bifW (x16) (bifW (!true == !(cdec (x0.1 = x1.1) && (cdec (Prod.fst (x0.2) = Prod.fst (x1.2)) && (cdec (Prod.fst (Prod.snd (x0.2)) = Prod.fst (Prod.snd (x1.2))) && (cdec (Prod.snd (Prod.snd (x0.2)) = Prod.snd (Prod.snd (x1.2))) && true))))) (Q (Value.bool false)) ((∃ x17 : Int × Int × Int × Bool, ((gleberef1_Next.f (x4.1) (Prod.fst (x4.2)) (Prod.snd (x4.2)) = some x17) ∧ bifW (Prod.snd (Prod.snd (x17.2))) ((∃ x18 : Bool, ((pref_Has.f (x0.1) (Prod.fst (x0.2)) (Prod.fst (Prod.snd (x0.2))) (Prod.snd (Prod.snd (x0.2))) x17.1 (Prod.fst (x17.2)) (Prod.fst (Prod.snd (x17.2))) = some x18) ∧ bifW (x18) (Q (Value.bool false)) ((∃ x19 : Bool, ((some true = some x19) ∧ Q (Value.bool x19))))))) ((∃ x18 : Bool, ((some true = some x18) ∧ Q (Value.bool x18)))))))) ((∃ x17 : Bool, ((pref_Less.f (x1.1) (Prod.fst (x1.2)) (Prod.fst (Prod.snd (x1.2))) (Prod.snd (Prod.snd (x1.2))) x0.1 (Prod.fst (x0.2)) (Prod.fst (Prod.snd (x0.2))) (Prod.snd (Prod.snd (x0.2))) = some x17) ∧ bifW (!x17 == !(cdec (x0.1 = x1.1) && (cdec (Prod.fst (x0.2) = Prod.fst (x1.2)) && (cdec (Prod.fst (Prod.snd (x0.2)) = Prod.fst (Prod.snd (x1.2))) && (cdec (Prod.snd (Prod.snd (x0.2)) = Prod.snd (Prod.snd (x1.2))) && true))))) (Q (Value.bool false)) ((∃ x18 : Int × Int × Int × Bool, ((gleberef1_Next.f (x4.1) (Prod.fst (x4.2)) (Prod.snd (x4.2)) = some x18) ∧ bifW (Prod.snd (Prod.snd (x18.2))) ((∃ x19 : Bool, ((pref_Has.f (x0.1) (Prod.fst (x0.2)) (Prod.fst (Prod.snd (x0.2))) (Prod.snd (Prod.snd (x0.2))) x18.1 (Prod.fst (x18.2)) (Prod.fst (Prod.snd (x18.2))) = some x19) ∧ bifW (x19) (Q (Value.bool false)) ((∃ x20 : Bool, ((some true = some x20) ∧ Q (Value.bool x20))))))) ((∃ x19 : Bool, ((some true = some x19) ∧ Q (Value.bool x19)))))))))))))))))))))))))))))))))))))))))))))))))))))) := by kernel_rfl

end Go.Proofs.YtfnacgojmdbjmaaDoor
end

section
/- PrefHolds: the law's condition, met by what is known of the calls. Conditions: these. -/
namespace Go.Proofs.YtfnacgojmdbjmaaDoor
open Go.Det Go.RowKit Go.Proofs.YtfnacgojmdbjmaaDoor.PPH Go.Proofs.YtfnacgojmdbjmaaDoorW.PrintWords
set_option maxRecDepth 100000

theorem bif_yes {b : Bool} {A B : Prop} (h : b = true) (k : A) : bifW b A B := by rw [h]; exact k
theorem bif_no {b : Bool} {A B : Prop} (h : b = false) (k : B) : bifW b A B := by rw [h]; exact k
set_option maxHeartbeats 8000000 in
theorem pf_core {v a b n w c d m V p1 p2 pn W q1 q2 qn x1 x2 h1 h2 n0 n1 n2 : Int} {n3 b1 b2 a1 a2 l1 l2 : Bool} {s : ByteArray}
    (f0 : glebelaw3_Pre.f v a b n = some (V, p1, p2, pn)) (f1 : glebelaw3_Pre.f w c d m = some (W, q1, q2, qn)) (f2 : glebelaw2_Addr.f 300 v c d = some (V, x1, x2))
    (f3 : pref_First.f V p1 p2 pn = some (V, p1, p2)) (f4 : pref_Last.f V p1 p2 pn = some (V, h1, h2)) (f5 : gleberef1_Less.f x1 x2 p1 p2 = some b1) (f6 : gleberef1_Less.f h1 h2 x1 x2 = some b2)
    (f7 : pref_Print.f V p1 p2 pn = some s) (f8 : pref_Parse.f s = some (V, p1, p2, pn, true)) (f9 : pref_Has.f V p1 p2 pn V p1 p2 = some true) (f10 : pref_Has.f V p1 p2 pn V h1 h2 = some true)
    (f11 : pref_Has.f V p1 p2 pn V x1 x2 = some (!b1 && !b2)) (f12 : pref_Over.f V p1 p2 pn W q1 q2 qn = some (a1 || a2)) (f13 : pref_Over.f W q1 q2 qn V p1 p2 pn = some (a2 || a1))
    (f14 : pref_First.f W q1 q2 qn = some (W, q1, q2)) (f15 : pref_Has.f V p1 p2 pn W q1 q2 = some a1) (f16 : pref_Has.f W q1 q2 qn V p1 p2 = some a2)
    (f17 : pref_Less.f V p1 p2 pn W q1 q2 qn = some l1) (f18 : pref_Less.f W q1 q2 qn V p1 p2 pn = some l2) (f19 : (cdec (V = W) && (cdec (p1 = q1) && (cdec (p2 = q2) && (cdec (pn = qn) && Bool.true)))) = !(l1 || l2))
    (f20 : gleberef1_Next.f V h1 h2 = some (n0, n1, n2, n3)) (f21 : n3 = true → pref_Has.f V p1 p2 pn n0 n1 n2 = some false) :
    codeW Tryd.prog (cwC L13) (bodyOf Tryd.f13) (inTab [.int .i64 v, .int .u64 a, .int .u64 b, .int .i64 n, .int .i64 w, .int .u64 c, .int .u64 d, .int .i64 m] 8) (birth [] 64) (retW Tryd.prog Tryd.f13 fun v' _ => v' = .bool true) := by
  have fe : (cdec (V = V) && (cdec (p1 = p1) && (cdec (p2 = p2) && (cdec (pn = pn) && Bool.true)))) = true := by
    rw [cdec_true.2 (rfl : V = V), cdec_true.2 (rfl : p1 = p1), cdec_true.2 (rfl : p2 = p2), cdec_true.2 (rfl : pn = pn)]; rfl
  refine codeU_codeW (cwC_mono _) (oxE_ok _) (n := 1) (by kernel_rfl) ((vl13 v a b n w c d m _).mpr ?_)
  refine ⟨_, f0, _, f1, _, f2, _, f3, _, f4, bifW_t rfl ?_⟩
  refine ⟨_, f5, ?_⟩
  generalize pref_Has.f = gprefHasf at *
  generalize pref_Over.f = gprefOverf at *
  generalize pref_Less.f = gprefLessf at *
  generalize pref_Print.f = gprefPrintf at *
  generalize pref_Parse.f = gprefParsef at *
  generalize pref_First.f = gprefFirstf at *
  generalize gleberef1_Next.f = ggleberef1Nextf at *
  generalize gleberef1_Less.f = ggleberef1Lessf at *
  have fe' : (!(cdec (V = V) && (cdec (p1 = p1) && (cdec (p2 = p2) && (cdec (pn = pn) && Bool.true))))) = false := by rw [fe]; rfl
  have f19' : ∀ l : Bool, (!(l == !(cdec (V = W) && (cdec (p1 = q1) && (cdec (p2 = q2) && (cdec (pn = qn) && Bool.true)))))) = !(l == (l1 || l2)) := by intro l; rw [f19, Bool.not_not]
  cases n3
  case' true => replace f21 := f21 rfl
  all_goals
    cases b1 <;> cases b2 <;> cases a1 <;> cases a2 <;> cases l1 <;> cases l2 <;>
    repeat' first
      | refine ⟨_, f6, ?_⟩
      | refine ⟨_, f7, ?_⟩
      | refine ⟨_, f8, ?_⟩
      | refine ⟨_, f9, ?_⟩
      | refine ⟨_, f10, ?_⟩
      | refine ⟨_, f11, ?_⟩
      | refine ⟨_, f12, ?_⟩
      | refine ⟨_, f13, ?_⟩
      | refine ⟨_, f14, ?_⟩
      | refine ⟨_, f15, ?_⟩
      | refine ⟨_, f16, ?_⟩
      | refine ⟨_, f17, ?_⟩
      | refine ⟨_, f18, ?_⟩
      | refine ⟨_, f20, ?_⟩
      | refine ⟨_, f21, ?_⟩
      | refine bif_no fe' ?_
      | refine bif_no ((f19' _).trans rfl) ?_
      | refine bif_yes rfl ?_
      | refine bif_no rfl ?_
      | exact ⟨true, rfl, rfl⟩
end Go.Proofs.YtfnacgojmdbjmaaDoor
end

section
/- PrefHolds: the law's condition is met, whatever the numbers. No conditions. -/
namespace Go.Proofs.YtfnacgojmdbjmaaDoor
open Go.Det Go.RowKit Go.Proofs.YtfnacgojmdbjmaaDoor.PPH Go.Proofs.YtfnacgojmdbjmaaDoorW.PrintWords
set_option maxRecDepth 100000

theorem first_at {V : Int} {B p n : Nat} (h : Kd' V B) (hp : p < 2 ^ B) (hn : n ≤ B) (ha : p % 2 ^ (B - n) = 0) : pref_First.f V (H p) (L p) (n : Int) = some (V, H p, L p) := by
  have e := pOk h hp hn
  rw [decide_eq_true ha] at e
  unfold pref_First.f
  rw [e, Option.bind_some, if_pos rfl]
theorem has_ne {V W : Int} {B C p n x : Nat} (h : Kd' V B) (hp : p < 2 ^ B) (hn : n ≤ B) (ha : p % 2 ^ (B - n) = 0) (k : Kd' W C) (hx : x < 2 ^ C) (hne : W ≠ V) : pref_Has.f V (H p) (L p) (n : Int) W (H x) (L x) = some false := by
  have e := pOk h hp hn
  rw [decide_eq_true ha] at e
  unfold pref_Has.f
  rw [e, Option.bind_some, if_pos rfl, PPH.okA k hx, Option.bind_some, if_pos rfl, if_neg hne]
theorem app_ba1 (a b : List UInt8) : (⟨⟨a⟩⟩ : ByteArray) ++ ({ data := #[47] } : ByteArray) ++ (⟨⟨b⟩⟩ : ByteArray) = ⟨⟨a ++ 47 :: b⟩⟩ := by
  have h : ((⟨⟨a⟩⟩ : ByteArray) ++ ({ data := #[47] } : ByteArray) ++ (⟨⟨b⟩⟩ : ByteArray)).data.toList = a ++ 47 :: b := by simp
  have e : ∀ x : ByteArray, x = ⟨⟨x.data.toList⟩⟩ := fun _ => rfl
  rw [e ((⟨⟨a⟩⟩ : ByteArray) ++ ({ data := #[47] } : ByteArray) ++ (⟨⟨b⟩⟩ : ByteArray)), h]
/-- A prefix of numbers is printed, and read as it was. -/
theorem pback_at {V : Int} {B p n : Nat} (h : Kd' V B) (hp : p < 2 ^ B) (hn : n ≤ B) (ha : p % 2 ^ (B - n) = 0) :
    ∃ s, pref_Print.f V (H p) (L p) (n : Int) = some s ∧ pref_Parse.f s = some (V, H p, L p, (n : Int), true) := by
  obtain ⟨s, hs, e1, e2⟩ := back_at h hp
  have hB := h.le
  have e := pOk h hp hn
  rw [decide_eq_true ha] at e
  have ht := decT_len n
  have hl := hs.len
  refine ⟨⟨⟨s ++ 47 :: Txt.decT n⟩⟩, ?_, ?_⟩
  · unfold pref_Print.f
    have et : date_Text.f (IntKind.u64.wrap (n : Int)) = some (txtB n) := by
      rw [Go.Det.wrapU ⟨by omega, by omega⟩]
      exact txt_at (by omega)
    have s1 : ByteArray.size ({ data := #[47] } : ByteArray) = 1 := rfl
    rw [e, Option.bind_some, if_pos rfl, e1, Option.bind_some, if_pos (by rw [s1, bsize]; omega), et, Option.bind_some, if_pos (by rw [ByteArray.size_append, s1, bsize]; unfold txtB; rw [bsize]; omega)]
    exact congrArg some (app_ba1 s (Txt.decT n))
  · unfold pref_Parse.f
    have hc := cutF_at (s ++ 47 :: Txt.decT n) [47] (by simp only [List.length_append, List.length_cons]; omega)
    rw [Txt.cut_one _ hs.sl] at hc
    have hc' : strings_Cut.f ⟨⟨s ++ 47 :: Txt.decT n⟩⟩ { data := #[47] } = some (⟨⟨s⟩⟩, txtB n, true) := hc
    have en : wrap64 (Go.bits .and .u64 (n : Int) 255) = (n : Int) := by
      have e1 : Go.bits .and .u64 (n : Int) 255 = ((n % 256 : Nat) : Int) := and_low (by omega) 8 (by decide)
      rw [e1, Nat.mod_eq_of_lt (by omega), w64 (by omega) (by omega)]
    rw [hc', Option.bind_some]
    simp only
    rw [e2, Option.bind_some, num128_at (by omega), Option.bind_some, if_pos rfl, if_pos rfl, if_pos trivial]
    simp only
    rw [en, e, Option.bind_some, if_pos rfl]
theorem over_of {V W p1 p2 pn q1 q2 qn : Int} {a1 a2 : Bool} (f3 : pref_First.f V p1 p2 pn = some (V, p1, p2)) (f14 : pref_First.f W q1 q2 qn = some (W, q1, q2)) (f15 : pref_Has.f V p1 p2 pn W q1 q2 = some a1) (f16 : pref_Has.f W q1 q2 qn V p1 p2 = some a2) :
    pref_Over.f V p1 p2 pn W q1 q2 qn = some (a1 || a2) := by
  unfold pref_Over.f
  rw [f14, Option.bind_some]
  simp only
  rw [f15, Option.bind_some]
  cases a1 with
  | true => rfl
  | false =>
    rw [if_neg (by decide), f3, Option.bind_some]
    simp only
    rw [f16, Option.bind_some]; rfl
theorem next_at {V : Int} {B q : Nat} (h : Kd' V B) (hq : q < 2 ^ B) : gleberef1_Next.f V (H q) (L q) = if q + 1 < 2 ^ B then some (V, H (q + 1), L (q + 1), true) else some (0, 0, 0, false) := by
  have e := add_any (q := q) (n := 1) (h.pow hq) (by omega)
  have ok := PPH.okA h hq
  unfold gleberef1_Next.f
  rw [show (1 : Int) = ((1 : Nat) : Int) from rfl, e]
  by_cases c : q + 1 < M128
  · have e2 := okHL h c
    rw [if_pos c, Option.bind_some, rOk_eq, ok, Option.bind_some, if_pos rfl, if_pos rfl]
    simp only
    rw [rOk_eq, e2, Option.bind_some]
    by_cases c2 : q + 1 < 2 ^ B
    · rw [if_pos (decide_eq_true c2), if_pos c2]
    · rw [if_neg (by simpa using c2), if_neg c2]
  · rw [if_neg c, Option.bind_some, rOk_eq, ok, Option.bind_some, if_pos rfl, if_neg (by decide), if_neg fun k => c (h.pow k)]
theorem aless_ne {V W a b c d : Int} (hne : V ≠ W) : addr_Less.f V a b W c d = some (decide (V < W)) := by
  unfold addr_Less.f
  by_cases hc : V < W
  · rw [if_pos hc, decide_eq_true hc]
  · rw [if_neg hc, if_neg hne, decide_eq_false hc]
theorem pless_at {V W : Int} {B C p n q m : Nat} (h : Kd' V B) (hp : p < 2 ^ B) (hn : n ≤ B) (ha : p % 2 ^ (B - n) = 0) (k : Kd' W C) (hq : q < 2 ^ C) (hm : m ≤ C) (hb : q % 2 ^ (C - m) = 0) :
    pref_Less.f V (H p) (L p) (n : Int) W (H q) (L q) (m : Int) = some (decide (V < W ∨ (V = W ∧ (p < q ∨ (p = q ∧ n < m))))) := by
  have e := pOk h hp hn
  rw [decide_eq_true ha] at e
  have e2 := pOk k hq hm
  rw [decide_eq_true hb] at e2
  unfold pref_Less.f
  rw [e, Option.bind_some, if_pos rfl, e2, Option.bind_some, if_pos rfl]
  by_cases hv : V = W
  · subst hv
    rw [less_at, Option.bind_some]
    by_cases c : p < q
    · rw [if_pos (decide_eq_true c)]
      exact congrArg some (decide_eq_true (.inr ⟨rfl, .inl c⟩)).symm
    · rw [if_neg (by simpa using c)]
      have eq : (V == V && (H p == H q && (L p == L q))) = decide (p = q) := by rw [HL_beq]; simp
      rw [eq]
      by_cases c2 : p = q
      · rw [if_pos (decide_eq_true c2)]
        exact congrArg some (decide_eq_decide.2 (by omega))
      · rw [if_neg (by simpa using c2)]
        exact congrArg some (decide_eq_false (by omega)).symm
  · rw [aless_ne hv, Option.bind_some]
    by_cases c : V < W
    · rw [if_pos (decide_eq_true c)]
      exact congrArg some (decide_eq_true (.inl c)).symm
    · rw [if_neg (by simpa using c)]
      have eq : (V == W && (H p == H q && (L p == L q))) = false := by rw [beq_eq_false_iff_ne.2 hv]; rfl
      rw [eq, if_neg (by decide)]
      exact congrArg some (decide_eq_false (by rintro (x | x); exact c x; exact hv x.1)).symm
theorem cdec_bool2 {p : Prop} [Decidable p] {b : Bool} (h : p ↔ b = true) : cdec p = b := by
  rw [← cdec_eq]
  cases b
  · exact decide_eq_false fun k => Bool.noConfusion (h.1 k)
  · exact decide_eq_true (h.2 rfl)
theorem and4 {p q r s : Prop} : (cdec p && (cdec q && (cdec r && (cdec s && Bool.true)))) = cdec (p ∧ (q ∧ (r ∧ s))) := by
  rw [Bool.eq_iff_iff]
  simp only [Bool.and_eq_true, cdec_true, and_true]
theorem pf_w (v a b n w c d m : Int) (ha : (Lit.int .u64 a).wf = true) (hb : (Lit.int .u64 b).wf = true) (hc : (Lit.int .u64 c).wf = true) (hd : (Lit.int .u64 d).wf = true) :
    codeW Tryd.prog (cwC L13) (bodyOf Tryd.f13) (inTab [.int .i64 v, .int .u64 a, .int .u64 b, .int .i64 n, .int .i64 w, .int .u64 c, .int .u64 d, .int .i64 m] 8) (birth [] 64) (retW Tryd.prog Tryd.f13 fun v' _ => v' = .bool true) := by
  have wf : ∀ {x : Int}, (Lit.int .u64 x).wf = true → 0 ≤ x ∧ x < 18446744073709551616 := by
    intro x h
    simp [Lit.wf, IntKind.min, IntKind.max, IntKind.signed, IntKind.bits] at h
    omega
  have ha := wf ha
  have hb := wf hb
  have hc := wf hc
  have hd := wf hd
  obtain ⟨B, P, N, h, hP, hN, hPa, e0⟩ := pre_V v a b n ha.1 ha.2 hb.1 hb.2
  obtain ⟨C, Q, M, k, hQ, hM, hQa, e1⟩ := pre_V w c d m hc.1 hc.2 hd.1 hd.2
  obtain ⟨V', B', X, h', hX, e2⟩ := addr_at (k := 300) (by decide) v c d hc.1 hc.2 hd.1 hd.2
  obtain rfl := addr_V e2 hc.1 hc.2 hd.1 hd.2
  obtain rfl := Kd'.one h h'
  have hz := top_lt (Nat.sub_le B' N) hP hPa
  obtain ⟨s, f7, f8⟩ := pback_at h hP hN hPa
  have f3 := first_at h hP hN hPa
  have f4 := pLast h hP hN hPa
  have f9 := phas_at h hP hN hPa hP
  have f10 := phas_at h hP hN hPa hz
  have f11 := phas_at h hP hN hPa hX
  have f14 := first_at k hQ hM hQa
  have f20 := next_at h hz
  have f17 := pless_at h hP hN hPa k hQ hM hQa
  have f18 := pless_at k hQ hM hQa h hP hN hPa
  have hs : ∃ a1 a2 : Bool, pref_Has.f (Vof v) (H P) (L P) (N : Int) (Vof w) (H Q) (L Q) = some a1 ∧ pref_Has.f (Vof w) (H Q) (L Q) (M : Int) (Vof v) (H P) (L P) = some a2 := by
    by_cases hv : Vof w = Vof v
    · rw [hv] at k ⊢
      obtain rfl := Kd'.one h k
      exact ⟨_, _, phas_at h hP hN hPa hQ, phas_at h hQ hM hQa hP⟩
    · exact ⟨_, _, has_ne h hP hN hPa k hQ hv, has_ne k hQ hM hQa h hP (Ne.symm hv)⟩
  obtain ⟨a1, a2, f15, f16⟩ := hs
  have f12 := over_of f3 f14 f15 f16
  have f13 := over_of f14 f3 f16 f15
  have f5 := rless_at (a := X) (b := P)
  have f6 := rless_at (a := P + (2 ^ (B' - N) - 1)) (b := X)
  have f21 : ∀ x ∈ (if P + (2 ^ (B' - N) - 1) + 1 < 2 ^ B' then some (Vof v, H (P + (2 ^ (B' - N) - 1) + 1), L (P + (2 ^ (B' - N) - 1) + 1), true) else some (0, 0, 0, false)), x.2.2.2 = true → pref_Has.f (Vof v) (H P) (L P) (N : Int) x.1 x.2.1 x.2.2.1 = some false := by
    intro x hx hx3
    split at hx
    · rename_i hlt
      cases hx
      have := phas_at h hP hN hPa hlt
      rw [decide_eq_false (by omega)] at this
      exact this
    · cases hx
      cases hx3
  have hPZ : P ≤ P + (2 ^ (B' - N) - 1) := Nat.le_add_right _ _
  generalize P + (2 ^ (B' - N) - 1) = Z at *
  have f19 : (cdec (Vof v = Vof w) && (cdec (H P = H Q) && (cdec (L P = L Q) && (cdec ((N : Int) = (M : Int)) && Bool.true)))) = !(decide (Vof v < Vof w ∨ (Vof v = Vof w ∧ (P < Q ∨ (P = Q ∧ N < M)))) || decide (Vof w < Vof v ∨ (Vof w = Vof v ∧ (Q < P ∨ (Q = P ∧ M < N))))) := by
    rw [and4]
    have hh : (Vof v = Vof w ∧ (H P = H Q ∧ (L P = L Q ∧ (N : Int) = (M : Int)))) ↔ (Vof v = Vof w ∧ (P = Q ∧ N = M)) := by
      constructor
      · rintro ⟨x, y, z, u⟩
        exact ⟨x, HL_inj y z, by omega⟩
      · rintro ⟨x, y, z⟩
        subst y; subst z
        exact ⟨x, rfl, rfl, rfl⟩
    refine cdec_bool2 (hh.trans ?_)
    simp only [Bool.not_eq_true', Bool.or_eq_false_iff, decide_eq_false_iff_not]
    omega
  have fx : pref_Has.f (Vof v) (H P) (L P) (N : Int) (Vof v) (H X) (L X) = some (!decide (X < P) && !decide (Z < X)) := by
    rw [f11]
    congr 1
    rw [Bool.eq_iff_iff]
    simp only [Bool.and_eq_true, Bool.not_eq_true', decide_eq_true_eq, decide_eq_false_iff_not]
    omega
  have f9' : pref_Has.f (Vof v) (H P) (L P) (N : Int) (Vof v) (H P) (L P) = some true := by rw [f9, decide_eq_true (by omega)]
  have f10' : pref_Has.f (Vof v) (H P) (L P) (N : Int) (Vof v) (H Z) (L Z) = some true := by rw [f10, decide_eq_true (by omega)]
  split at f20
  · rename_i hlt
    rw [if_pos hlt] at f21
    exact pf_core e0 e1 e2 f3 f4 f5 f6 f7 f8 f9' f10' fx f12 f13 f14 f15 f16 f17 f18 f19 f20 (f21 _ rfl)
  · rename_i hlt
    rw [if_neg hlt] at f21
    exact pf_core e0 e1 e2 f3 f4 f5 f6 f7 f8 f9' f10' fx f12 f13 f14 f15 f16 f17 f18 f19 f20 (f21 _ rfl)

end Go.Proofs.YtfnacgojmdbjmaaDoor
end

section
/- PrefHolds: at every start, whatever the numbers, the call returns true; the conditions: the tables that the row lists read as the program lays them. -/
namespace Go.Proofs.YtfnacgojmdbjmaaDoor
open Go.ChangeShapes Go.WideShapes Go.ChangeAt Go.RowKit Go.Det
set_option maxRecDepth 100000

/-- what the condition comes to, the call comes to -/
theorem prefHolds_calls {W : World} (hW : GoodW W) (x0 : Int) (x1 : Int) (x2 : Int) (x3 : Int) (x4 : Int) (x5 : Int) (x6 : Int) (x7 : Int) (h0 : (Lit.int .i64 x0).wf = true) (h1 : (Lit.int .u64 x1).wf = true) (h2 : (Lit.int .u64 x2).wf = true) (h3 : (Lit.int .i64 x3).wf = true) (h4 : (Lit.int .i64 x4).wf = true) (h5 : (Lit.int .u64 x5).wf = true) (h6 : (Lit.int .u64 x6).wf = true) (h7 : (Lit.int .i64 x7).wf = true) :
    Calls Tryd.prog 13 #[.int .i64 x0, .int .u64 x1, .int .u64 x2, .int .i64 x3, .int .i64 x4, .int .u64 x5, .int .u64 x6, .int .i64 x7] W fun e W' => e = .returned (.bool true) ∧ Kept W W' := by
  have L0 := Laying.empty (G := 6) hW.size
  refine (fnW_calls (P := Tryd.prog) (w0 := W) (φ0 := glob 6 W) (G := 6) (fn := Tryd.f13) (c := bodyOf Tryd.f13) (args := [.int .i64 x0, .int .u64 x1, .int .u64 x2, .int .i64 x3, .int .i64 x4, .int .u64 x5, .int .u64 x6, .int .i64 x7]) (cwC_ok L13) (ownCall_ok (own13 hW) (Later.refl W)) (ownCall_tr (own13 hW)) dt_mixed (glob_glob 6 W) (fun id q => glob_top 6 W (by decide) id q) Tryd.func13 (by kernel_rfl) (by kernel_rfl) (by kernel_rfl) L0.hr (flat2L_self (by rfl) _) (fun id q => glob_top 6 W (by decide) id q) (fun id q => L0.top id (Nat.le_trans (by decide) q)) (Nat.le_refl 64) (pf_w x0 x1 x2 x3 x4 x5 x6 x7 h1 h2 h5 h6)).mono ?_
  rintro e W' ⟨v1, v', s1, φ', rfl, rfl, hv, H', _, _⟩
  rw [bool_inv hv]
  exact ⟨rfl, H'.kept⟩

theorem prefHolds_lifted (os : Os) (started : os.Started) (H : Type) (enc : TypeId × Value → H) :
    ReturnsInHanded {} Tryd.checked os 13 .any (fun w args => (Rows.prefHoldsSpec.pre enc Tryd.prog Tryd.f13 [] false w args ∧ laidMetH Tryd.prog Rows.prefHoldsRow.laid w) ∧ sizedMet enc Tryd.prog Tryd.f13 (OpenSpec.ofChange Rows.prefHoldsSpec) false w args)
      (Rows.prefHoldsSpec.post enc Tryd.prog Tryd.f13 false true false false) := by
  refine wrap_shaped (C := Tryd.checked) (X := fun w _ => laidMetH Tryd.prog Rows.prefHoldsRow.laid w) (fun _ _ _ hh h => h.of_heap hh) dt_own started (by kernel_rfl) Tryd.func13
    (ChangeSpec.witness_shaped (enc := enc) (C := Tryd.checked) (os := os) (X := fun w _ => laidMetH Tryd.prog Rows.prefHoldsRow.laid w) false (World.laidAll Tryd.prog os laidA) #[.int .i64 0, .int .u64 0, .int .u64 0, .int .i64 0, .int .i64 0, .int .u64 0, .int .u64 0, .int .i64 0] 8 (World.laidAll_os _ _ _) (World.shaped_of_ZipB (by kernel_rfl) (by kernel_rfl)) (by kernel_rfl) (by kernel_rfl) (by kernel_rfl) (door_metA os _)) ?_
  intro W base args ds gs before hval0 hW hL hsh
  obtain ⟨t0, t2, t5, L, hs⟩ := laidA_at hL
  have hG : GoodW W := ⟨⟨t0, t2, t5, L⟩, hs, Len.of_shape hsh hs⟩
  have hval : ∀ (j : Nat) t v, Tryd.f13.params[j]? = some t → args[j]? = some v → Value.okWide Tryd.prog W .any base t v := hval0
  have hW' := hW
  obtain ⟨p, q, hA0, hV, rfl, hfz, hnd⟩ := hW
  have hA : DataW.TrodAll enc Tryd.prog W 0 (fun _ => true) true Tryd.f13.params.toList args.toList ds p := hA0
  rw [Tryd.params13] at hA hval
  obtain ⟨v0, vs0, d0, ds0, p0, q0, hargs, rfl, rfl, h0, k0⟩ := trodAll_cons hA
  obtain ⟨v1, vs1, d1, ds1, p1, q1, rfl, rfl, rfl, h1, k1⟩ := trodAll_cons k0
  obtain ⟨v2, vs2, d2, ds2, p2, q2, rfl, rfl, rfl, h2, k2⟩ := trodAll_cons k1
  obtain ⟨v3, vs3, d3, ds3, p3, q3, rfl, rfl, rfl, h3, k3⟩ := trodAll_cons k2
  obtain ⟨v4, vs4, d4, ds4, p4, q4, rfl, rfl, rfl, h4, k4⟩ := trodAll_cons k3
  obtain ⟨v5, vs5, d5, ds5, p5, q5, rfl, rfl, rfl, h5, k5⟩ := trodAll_cons k4
  obtain ⟨v6, vs6, d6, ds6, p6, q6, rfl, rfl, rfl, h6, k6⟩ := trodAll_cons k5
  obtain ⟨v7, vs7, d7, ds7, p7, q7, rfl, rfl, rfl, h7, k7⟩ := trodAll_cons k6
  obtain ⟨rfl, rfl, rfl⟩ := trodAll_nil k7
  obtain rfl : args = #[v0, v1, v2, v3, v4, v5, v6, v7] := by cases args; simp_all
  obtain ⟨rfl, rfl⟩ := trodVars_none hV
  obtain ⟨n0, rfl, rfl, rfl, wn0⟩ := open_int Tryd.underlying3 (hval 0 3 v0 rfl rfl) h0
  obtain ⟨n1, rfl, rfl, rfl, wn1⟩ := open_int Tryd.underlying27 (hval 1 27 v1 rfl rfl) h1
  obtain ⟨n2, rfl, rfl, rfl, wn2⟩ := open_int Tryd.underlying27 (hval 2 27 v2 rfl rfl) h2
  obtain ⟨n3, rfl, rfl, rfl, wn3⟩ := open_int Tryd.underlying3 (hval 3 3 v3 rfl rfl) h3
  obtain ⟨n4, rfl, rfl, rfl, wn4⟩ := open_int Tryd.underlying3 (hval 4 3 v4 rfl rfl) h4
  obtain ⟨n5, rfl, rfl, rfl, wn5⟩ := open_int Tryd.underlying27 (hval 5 27 v5 rfl rfl) h5
  obtain ⟨n6, rfl, rfl, rfl, wn6⟩ := open_int Tryd.underlying27 (hval 6 27 v6 rfl rfl) h6
  obtain ⟨n7, rfl, rfl, rfl, wn7⟩ := open_int Tryd.underlying3 (hval 7 3 v7 rfl rfl) h7
  refine (prefHolds_calls hG n0 n1 n2 n3 n4 n5 n6 n7 wn0 wn1 wn2 wn3 wn4 wn5 wn6 wn7).mono fun e W' ⟨he, hw⟩ => ?_
  subst he
  exact ⟨_, rfl, _, _, _, [], [], [], hW', trodAll_mk1 (shut_bool Tryd.underlying4 true), ⟨[], [], shut_int Tryd.underlying3 wn0, ⟨[], [], shut_int Tryd.underlying27 wn1, ⟨[], [], shut_int Tryd.underlying27 wn2, ⟨[], [], shut_int Tryd.underlying3 wn3, ⟨[], [], shut_int Tryd.underlying3 wn4, ⟨[], [], shut_int Tryd.underlying27 wn5, ⟨[], [], shut_int Tryd.underlying27 wn6, ⟨[], [], shut_int Tryd.underlying3 wn7, rfl, rfl⟩, rfl⟩, rfl⟩, rfl⟩, rfl⟩, rfl⟩, rfl⟩, rfl⟩, rfl, hw.but _, fun h => by cases h⟩

theorem prefHolds_holds : Rows.PrefHoldsSaid :=
  OpenClaim.holds_of_wide 13 Tryd.f13 rfl rfl rfl rfl rfl rfl rfl ⟨rfl, rfl, rfl, rfl, rfl⟩ rfl rfl rfl rfl rfl (by kernel_rfl) Tryd.func13 (by kernel_rfl)
    (of_decide_eq_true (by kernel_rfl)) (by unfold Func.isWrapper; first | (rw [if_pos (by decide +kernel)]; kernel_rfl) | (rw [if_neg (by decide +kernel)]; exact ⟨rfl, rfl⟩))
    (fun os started H enc _ => prefHolds_lifted os started H enc)

theorem prefHolds_card_holds : Rows.PrefHoldsCardSaid :=
  Claim7.holds_tied_plain_at .later [] [.data, .data, .data, .data, .pinned] true (true, "f4485812763653ffca44ca5064ea510697a50d409c0e67ea003c933eb6baadb5") false
    prefHolds_holds (fun _ h => by cases h) (by kernel_rfl) (fun _ h => by cases h) prefHolds_row_tie rfl ⟨rfl, rfl⟩ (by kernel_rfl) rfl
    (fun f fn hf hfn => by
      obtain rfl : f = 13 := Option.some.inj ((show Tryd.prog.funcNamed "glebe/glebelaw3.PrefHolds" = some 13 by kernel_rfl).symm.trans hf) |>.symm
      obtain rfl : fn = Tryd.f13 := (Option.some.inj (Tryd.func13.symm.trans hfn)).symm
      exact ⟨by kernel_rfl, fun j t ht => by
        rw [Tryd.params13] at ht
        have h3 : t = 3 ∨ t = 27 := by
          match j, ht with
          | 0, ht => simp at ht; subst ht; first | rfl | exact .inl rfl | exact .inr rfl | exact .inr (.inl rfl) | exact .inr (.inr rfl)
          | 1, ht => simp at ht; subst ht; first | rfl | exact .inl rfl | exact .inr rfl | exact .inr (.inl rfl) | exact .inr (.inr rfl)
          | 2, ht => simp at ht; subst ht; first | rfl | exact .inl rfl | exact .inr rfl | exact .inr (.inl rfl) | exact .inr (.inr rfl)
          | 3, ht => simp at ht; subst ht; first | rfl | exact .inl rfl | exact .inr rfl | exact .inr (.inl rfl) | exact .inr (.inr rfl)
          | 4, ht => simp at ht; subst ht; first | rfl | exact .inl rfl | exact .inr rfl | exact .inr (.inl rfl) | exact .inr (.inr rfl)
          | 5, ht => simp at ht; subst ht; first | rfl | exact .inl rfl | exact .inr rfl | exact .inr (.inl rfl) | exact .inr (.inr rfl)
          | 6, ht => simp at ht; subst ht; first | rfl | exact .inl rfl | exact .inr rfl | exact .inr (.inl rfl) | exact .inr (.inr rfl)
          | 7, ht => simp at ht; subst ht; first | rfl | exact .inl rfl | exact .inr rfl | exact .inr (.inl rfl) | exact .inr (.inr rfl)
          | j + 8, ht => simp at ht
        rcases h3 with rfl | rfl
        · exact (show Tryd.prog.wantsStandIn 3 = false by kernel_rfl)
        · exact (show Tryd.prog.wantsStandIn 27 = false by kernel_rfl)⟩)
    (by kernel_rfl)
#print axioms prefHolds_card_holds

end Go.Proofs.YtfnacgojmdbjmaaDoor
end
