/- PrefMasks: the printed functions that the law calls, as contracts. -/
import Derived.Test.YtfnacgojmdbjmaaDoorPj19
import Derived.Test.YtfnacgojmdbjmaaDoorPj21
import Derived.Test.YtfnacgojmdbjmaaDoorPj22
namespace Go.Proofs.YtfnacgojmdbjmaaDoor
open Go.Det Go.RowKit Go.Proofs.YtfnacgojmdbjmaaDoor.PM Go.Proofs.YtfnacgojmdbjmaaDoorW.PrintWords
set_option maxRecDepth 100000

def f62 (a b c d : Int) := pref_Ok.f 300 a b c d
def d62 (a b c d : Int) : Bool := (f62 a b c d).isSome
def r62 (a b c d : Int) : Bool := ((f62 a b c d).getD false)
noncomputable def dec62 : List Value → Option (Int × Int × Int × Int)
  | [.agg ⟨[.int .i64 a, .int .u64 b, .int .u64 c, .int .i64 d]⟩] => some (a, b, c, d)
  | _ => none
noncomputable def con62 : Con := Con.flat dec62 (fun x => d62 x.1 x.2.1 x.2.2.1 x.2.2.2) fun x => .bool (cdec (r62 x.1 x.2.1 x.2.2.1 x.2.2.2 = true))
theorem om62 {W : World} (hW : GoodW W) : OwnAll Tryd.prog W 6 62 con62.own := by
  refine own_of_calls (fn := Tryd.f62) (c := bodyOf Tryd.f62) hW Tryd.func62 (by kernel_rfl) (by kernel_rfl) fun args v h => ?_
  split at h
  case h_2 => cases h
  rename_i a ha
  split at h
  case h_2 => cases h
  rename_i hd
  cases h
  unfold dec62 at ha
  split at ha
  case h_2 => cases ha
  rename_i a b c d
  cases ha
  obtain ⟨x, hx⟩ := Option.isSome_iff_exists.1 hd
  refine ⟨rfl, rfl, fun w hG => ?_⟩
  have hx' : f62 a b c d = some x := hx
  simp only [cdec_bool, r62, hx', Option.getD_some]
  first | exact pref_Ok.calls 300 a b c d x w hG hx' | exact (pref_Ok.calls 300 a b c d x w hG hx').mono fun e w' h => ⟨h.1, h.2.below⟩
def f63 (a b : Int) := pref_mask.f a b
def d63 (a b : Int) : Bool := (f63 a b).isSome
def r63a (a b : Int) : Int := ((f63 a b).getD (0, 0)).1
def r63b (a b : Int) : Int := ((f63 a b).getD (0, 0)).2
noncomputable def dec63 : List Value → Option (Int × Int)
  | [.int .i64 a, .int .i64 b] => some (a, b)
  | _ => none
noncomputable def con63 : Con := Con.flat dec63 (fun x => d63 x.1 x.2) fun x => .agg #[.int .u64 (r63a x.1 x.2), .int .u64 (r63b x.1 x.2)]
theorem om63 {W : World} (hW : GoodW W) : OwnAll Tryd.prog W 6 63 con63.own := by
  refine own_of_calls (fn := Tryd.f63) (c := bodyOf Tryd.f63) hW Tryd.func63 (by kernel_rfl) (by kernel_rfl) fun args v h => ?_
  split at h
  case h_2 => cases h
  rename_i a ha
  split at h
  case h_2 => cases h
  rename_i hd
  cases h
  unfold dec63 at ha
  split at ha
  case h_2 => cases ha
  rename_i a b
  cases ha
  obtain ⟨⟨x, y⟩, hx⟩ := Option.isSome_iff_exists.1 hd
  refine ⟨rfl, rfl, fun w hG => ?_⟩
  have hx' : f63 a b = some (x, y) := hx
  simp only [r63a, r63b, hx', Option.getD_some]
  first | exact pref_mask.calls a b x y w hG hx' | exact (pref_mask.calls a b x y w hG hx').mono fun e w' h => ⟨h.1, h.2.below⟩
def f20 (a b c d : Int) := quad_And.f a b c d
def d20 (a b c d : Int) : Bool := (f20 a b c d).isSome
def r20a (a b c d : Int) : Int := ((f20 a b c d).getD (0, 0)).1
def r20b (a b c d : Int) : Int := ((f20 a b c d).getD (0, 0)).2
noncomputable def dec20 : List Value → Option (Int × Int × Int × Int)
  | [.agg ⟨[.int .u64 a, .int .u64 b]⟩, .agg ⟨[.int .u64 c, .int .u64 d]⟩] => some (a, b, c, d)
  | _ => none
noncomputable def con20 : Con := Con.flat dec20 (fun x => d20 x.1 x.2.1 x.2.2.1 x.2.2.2) fun x => .agg #[.int .u64 (r20a x.1 x.2.1 x.2.2.1 x.2.2.2), .int .u64 (r20b x.1 x.2.1 x.2.2.1 x.2.2.2)]
theorem om20 {W : World} (hW : GoodW W) : OwnAll Tryd.prog W 6 20 con20.own := by
  refine own_of_calls (fn := Tryd.f20) (c := bodyOf Tryd.f20) hW Tryd.func20 (by kernel_rfl) (by kernel_rfl) fun args v h => ?_
  split at h
  case h_2 => cases h
  rename_i a ha
  split at h
  case h_2 => cases h
  rename_i hd
  cases h
  unfold dec20 at ha
  split at ha
  case h_2 => cases ha
  rename_i a b c d
  cases ha
  obtain ⟨⟨x, y⟩, hx⟩ := Option.isSome_iff_exists.1 hd
  refine ⟨rfl, rfl, fun w hG => ?_⟩
  have hx' : f20 a b c d = some (x, y) := hx
  simp only [r20a, r20b, hx', Option.getD_some]
  first | exact quad_And.calls a b c d x y w hG hx' | exact (quad_And.calls a b c d x y w hG hx').mono fun e w' h => ⟨h.1, h.2.below⟩
def f31 (a b c : Int) := addr_Ok.f a b c
def d31 (a b c : Int) : Bool := (f31 a b c).isSome
def r31 (a b c : Int) : Bool := ((f31 a b c).getD false)
noncomputable def dec31 : List Value → Option (Int × Int × Int)
  | [.agg ⟨[.int .i64 a, .int .u64 b, .int .u64 c]⟩] => some (a, b, c)
  | _ => none
noncomputable def con31 : Con := Con.flat dec31 (fun x => d31 x.1 x.2.1 x.2.2) fun x => .bool (cdec (r31 x.1 x.2.1 x.2.2 = true))
theorem om31 {W : World} (hW : GoodW W) : OwnAll Tryd.prog W 6 31 con31.own := by
  refine own_of_calls (fn := Tryd.f31) (c := bodyOf Tryd.f31) hW Tryd.func31 (by kernel_rfl) (by kernel_rfl) fun args v h => ?_
  split at h
  case h_2 => cases h
  rename_i a ha
  split at h
  case h_2 => cases h
  rename_i hd
  cases h
  unfold dec31 at ha
  split at ha
  case h_2 => cases ha
  rename_i a b c
  cases ha
  obtain ⟨x, hx⟩ := Option.isSome_iff_exists.1 hd
  refine ⟨rfl, rfl, fun w hG => ?_⟩
  have hx' : f31 a b c = some x := hx
  simp only [cdec_bool, r31, hx', Option.getD_some]
  first | exact addr_Ok.calls a b c x w hG hx' | exact (addr_Ok.calls a b c x w hG hx').mono fun e w' h => ⟨h.1, h.2.below⟩
def f28 (a b c : Int) := glebelaw2_Addr.f 300 a b c
def d28 (a b c : Int) : Bool := (f28 a b c).isSome
def r28a (a b c : Int) : Int := ((f28 a b c).getD (0, 0, 0)).1
def r28b (a b c : Int) : Int := ((f28 a b c).getD (0, 0, 0)).2.1
def r28c (a b c : Int) : Int := ((f28 a b c).getD (0, 0, 0)).2.2
noncomputable def dec28 : List Value → Option (Int × Int × Int)
  | [.int .i64 a, .int .u64 b, .int .u64 c] => some (a, b, c)
  | _ => none
noncomputable def con28 : Con := Con.flat dec28 (fun x => d28 x.1 x.2.1 x.2.2) fun x => .agg #[.int .i64 (r28a x.1 x.2.1 x.2.2), .int .u64 (r28b x.1 x.2.1 x.2.2), .int .u64 (r28c x.1 x.2.1 x.2.2)]
theorem om28 {W : World} (hW : GoodW W) : OwnAll Tryd.prog W 6 28 con28.own := by
  refine own_of_calls (fn := Tryd.f28) (c := bodyOf Tryd.f28) hW Tryd.func28 (by kernel_rfl) (by kernel_rfl) fun args v h => ?_
  split at h
  case h_2 => cases h
  rename_i a ha
  split at h
  case h_2 => cases h
  rename_i hd
  cases h
  unfold dec28 at ha
  split at ha
  case h_2 => cases ha
  rename_i a b c
  cases ha
  obtain ⟨⟨x, y, z⟩, hx⟩ := Option.isSome_iff_exists.1 hd
  refine ⟨rfl, rfl, fun w hG => ?_⟩
  have hx' : f28 a b c = some (x, y, z) := hx
  simp only [r28a, r28b, r28c, hx', Option.getD_some]
  first | exact glebelaw2_Addr.calls 300 a b c x y z w hG hx' | exact (glebelaw2_Addr.calls 300 a b c x y z w hG hx').mono fun e w' h => ⟨h.1, h.2.below⟩
def f69 (a : Int) := gleberef1_Bits.f a
def d69 (a : Int) : Bool := (f69 a).isSome
def r69 (a : Int) : Int := ((f69 a).getD 0)
noncomputable def dec69 : List Value → Option (Int)
  | [.int .i64 a] => some (a)
  | _ => none
noncomputable def con69 : Con := Con.flat dec69 (fun x => d69 x) fun x => .int .i64 (r69 x)
theorem om69 {W : World} (hW : GoodW W) : OwnAll Tryd.prog W 6 69 con69.own := by
  refine own_of_calls (fn := Tryd.f69) (c := bodyOf Tryd.f69) hW Tryd.func69 (by kernel_rfl) (by kernel_rfl) fun args v h => ?_
  split at h
  case h_2 => cases h
  rename_i a ha
  split at h
  case h_2 => cases h
  rename_i hd
  cases h
  unfold dec69 at ha
  split at ha
  case h_2 => cases ha
  rename_i a
  cases ha
  obtain ⟨x, hx⟩ := Option.isSome_iff_exists.1 hd
  refine ⟨rfl, rfl, fun w hG => ?_⟩
  have hx' : f69 a = some x := hx
  simp only [r69, hx', Option.getD_some]
  first | exact gleberef1_Bits.calls a x w hG hx' | exact (gleberef1_Bits.calls a x w hG hx').mono fun e w' h => ⟨h.1, h.2.below⟩
def f70 (a b c d : Int) := gleberef1_And.f a b c d
def d70 (a b c d : Int) : Bool := (f70 a b c d).isSome
def r70a (a b c d : Int) : Int := ((f70 a b c d).getD (0, 0)).1
def r70b (a b c d : Int) : Int := ((f70 a b c d).getD (0, 0)).2
noncomputable def dec70 : List Value → Option (Int × Int × Int × Int)
  | [.agg ⟨[.int .u64 a, .int .u64 b]⟩, .agg ⟨[.int .u64 c, .int .u64 d]⟩] => some (a, b, c, d)
  | _ => none
noncomputable def con70 : Con := Con.flat dec70 (fun x => d70 x.1 x.2.1 x.2.2.1 x.2.2.2) fun x => .agg #[.int .u64 (r70a x.1 x.2.1 x.2.2.1 x.2.2.2), .int .u64 (r70b x.1 x.2.1 x.2.2.1 x.2.2.2)]
theorem om70 {W : World} (hW : GoodW W) : OwnAll Tryd.prog W 6 70 con70.own := by
  refine own_of_calls (fn := Tryd.f70) (c := bodyOf Tryd.f70) hW Tryd.func70 (by kernel_rfl) (by kernel_rfl) fun args v h => ?_
  split at h
  case h_2 => cases h
  rename_i a ha
  split at h
  case h_2 => cases h
  rename_i hd
  cases h
  unfold dec70 at ha
  split at ha
  case h_2 => cases ha
  rename_i a b c d
  cases ha
  obtain ⟨⟨x, y⟩, hx⟩ := Option.isSome_iff_exists.1 hd
  refine ⟨rfl, rfl, fun w hG => ?_⟩
  have hx' : f70 a b c d = some (x, y) := hx
  simp only [r70a, r70b, hx', Option.getD_some]
  first | exact gleberef1_And.calls a b c d x y w hG hx' | exact (gleberef1_And.calls a b c d x y w hG hx').mono fun e w' h => ⟨h.1, h.2.below⟩
def f71 (a : Int) := gleberef1_Mask.f 300 a
def d71 (a : Int) : Bool := (f71 a).isSome
def r71a (a : Int) : Int := ((f71 a).getD (0, 0)).1
def r71b (a : Int) : Int := ((f71 a).getD (0, 0)).2
noncomputable def dec71 : List Value → Option (Int)
  | [.int .i64 a] => some (a)
  | _ => none
noncomputable def con71 : Con := Con.flat dec71 (fun x => d71 x) fun x => .agg #[.int .u64 (r71a x), .int .u64 (r71b x)]
theorem om71 {W : World} (hW : GoodW W) : OwnAll Tryd.prog W 6 71 con71.own := by
  refine own_of_calls (fn := Tryd.f71) (c := bodyOf Tryd.f71) hW Tryd.func71 (by kernel_rfl) (by kernel_rfl) fun args v h => ?_
  split at h
  case h_2 => cases h
  rename_i a ha
  split at h
  case h_2 => cases h
  rename_i hd
  cases h
  unfold dec71 at ha
  split at ha
  case h_2 => cases ha
  rename_i a
  cases ha
  obtain ⟨⟨x, y⟩, hx⟩ := Option.isSome_iff_exists.1 hd
  refine ⟨rfl, rfl, fun w hG => ?_⟩
  have hx' : f71 a = some (x, y) := hx
  simp only [r71a, r71b, hx', Option.getD_some]
  first | exact gleberef1_Mask.calls 300 a x y w hG hx' | exact (gleberef1_Mask.calls 300 a x y w hG hx').mono fun e w' h => ⟨h.1, h.2.below⟩
def f72 (a b : Int) := gleberef1_Not.f a b
def d72 (a b : Int) : Bool := (f72 a b).isSome
def r72a (a b : Int) : Int := ((f72 a b).getD (0, 0)).1
def r72b (a b : Int) : Int := ((f72 a b).getD (0, 0)).2
noncomputable def dec72 : List Value → Option (Int × Int)
  | [.agg ⟨[.int .u64 a, .int .u64 b]⟩] => some (a, b)
  | _ => none
noncomputable def con72 : Con := Con.flat dec72 (fun x => d72 x.1 x.2) fun x => .agg #[.int .u64 (r72a x.1 x.2), .int .u64 (r72b x.1 x.2)]
theorem om72 {W : World} (hW : GoodW W) : OwnAll Tryd.prog W 6 72 con72.own := by
  refine own_of_calls (fn := Tryd.f72) (c := bodyOf Tryd.f72) hW Tryd.func72 (by kernel_rfl) (by kernel_rfl) fun args v h => ?_
  split at h
  case h_2 => cases h
  rename_i a ha
  split at h
  case h_2 => cases h
  rename_i hd
  cases h
  unfold dec72 at ha
  split at ha
  case h_2 => cases ha
  rename_i a b
  cases ha
  obtain ⟨⟨x, y⟩, hx⟩ := Option.isSome_iff_exists.1 hd
  refine ⟨rfl, rfl, fun w hG => ?_⟩
  have hx' : f72 a b = some (x, y) := hx
  simp only [r72a, r72b, hx', Option.getD_some]
  first | exact gleberef1_Not.calls a b x y w hG hx' | exact (gleberef1_Not.calls a b x y w hG hx').mono fun e w' h => ⟨h.1, h.2.below⟩
def f34 (a b c d : Int) := pref_Netmask.f 300 a b c d
def d34 (a b c d : Int) : Bool := (f34 a b c d).isSome
def r34a (a b c d : Int) : Int := ((f34 a b c d).getD (0, 0, 0, false)).1
def r34b (a b c d : Int) : Int := ((f34 a b c d).getD (0, 0, 0, false)).2.1
def r34c (a b c d : Int) : Int := ((f34 a b c d).getD (0, 0, 0, false)).2.2.1
def r34d (a b c d : Int) : Bool := ((f34 a b c d).getD (0, 0, 0, false)).2.2.2
noncomputable def dec34 : List Value → Option (Int × Int × Int × Int)
  | [.agg ⟨[.int .i64 a, .int .u64 b, .int .u64 c, .int .i64 d]⟩] => some (a, b, c, d)
  | _ => none
noncomputable def con34 : Con := Con.flat dec34 (fun x => d34 x.1 x.2.1 x.2.2.1 x.2.2.2) fun x => .tuple #[.agg #[.int .i64 (r34a x.1 x.2.1 x.2.2.1 x.2.2.2), .int .u64 (r34b x.1 x.2.1 x.2.2.1 x.2.2.2), .int .u64 (r34c x.1 x.2.1 x.2.2.1 x.2.2.2)], .bool (cdec (r34d x.1 x.2.1 x.2.2.1 x.2.2.2 = true))]
theorem om34 {W : World} (hW : GoodW W) : OwnAll Tryd.prog W 6 34 con34.own := by
  refine own_of_calls (fn := Tryd.f34) (c := bodyOf Tryd.f34) hW Tryd.func34 (by kernel_rfl) (by kernel_rfl) fun args v h => ?_
  split at h
  case h_2 => cases h
  rename_i a ha
  split at h
  case h_2 => cases h
  rename_i hd
  cases h
  unfold dec34 at ha
  split at ha
  case h_2 => cases ha
  rename_i a b c d
  cases ha
  obtain ⟨⟨x, y, z, t⟩, hx⟩ := Option.isSome_iff_exists.1 hd
  refine ⟨rfl, rfl, fun w hG => ?_⟩
  have hx' : f34 a b c d = some (x, y, z, t) := hx
  simp only [cdec_bool, r34a, r34b, r34c, r34d, hx', Option.getD_some]
  first | exact pref_Netmask.calls 300 a b c d x y z t w hG hx' | exact (pref_Netmask.calls 300 a b c d x y z t w hG hx').mono fun e w' h => ⟨h.1, h.2.below⟩
def f41 (a b c d e f : Int) := pref_Of.f 300 a b c d e f
def d41 (a b c d e f : Int) : Bool := (f41 a b c d e f).isSome
def r41a (a b c d e f : Int) : Int := ((f41 a b c d e f).getD (0, 0, 0, 0, false)).1
def r41b (a b c d e f : Int) : Int := ((f41 a b c d e f).getD (0, 0, 0, 0, false)).2.1
def r41c (a b c d e f : Int) : Int := ((f41 a b c d e f).getD (0, 0, 0, 0, false)).2.2.1
def r41d (a b c d e f : Int) : Int := ((f41 a b c d e f).getD (0, 0, 0, 0, false)).2.2.2.1
def r41e (a b c d e f : Int) : Bool := ((f41 a b c d e f).getD (0, 0, 0, 0, false)).2.2.2.2
noncomputable def dec41 : List Value → Option (Int × Int × Int × Int × Int × Int)
  | [.agg ⟨[.int .i64 a, .int .u64 b, .int .u64 c]⟩, .agg ⟨[.int .i64 d, .int .u64 e, .int .u64 f]⟩] => some (a, b, c, d, e, f)
  | _ => none
noncomputable def con41 : Con := Con.flat dec41 (fun x => d41 x.1 x.2.1 x.2.2.1 x.2.2.2.1 x.2.2.2.2.1 x.2.2.2.2.2) fun x => .tuple #[.agg #[.int .i64 (r41a x.1 x.2.1 x.2.2.1 x.2.2.2.1 x.2.2.2.2.1 x.2.2.2.2.2), .int .u64 (r41b x.1 x.2.1 x.2.2.1 x.2.2.2.1 x.2.2.2.2.1 x.2.2.2.2.2), .int .u64 (r41c x.1 x.2.1 x.2.2.1 x.2.2.2.1 x.2.2.2.2.1 x.2.2.2.2.2), .int .i64 (r41d x.1 x.2.1 x.2.2.1 x.2.2.2.1 x.2.2.2.2.1 x.2.2.2.2.2)], .bool (cdec (r41e x.1 x.2.1 x.2.2.1 x.2.2.2.1 x.2.2.2.2.1 x.2.2.2.2.2 = true))]
theorem om41 {W : World} (hW : GoodW W) : OwnAll Tryd.prog W 6 41 con41.own := by
  refine own_of_calls (fn := Tryd.f41) (c := bodyOf Tryd.f41) hW Tryd.func41 (by kernel_rfl) (by kernel_rfl) fun args v h => ?_
  split at h
  case h_2 => cases h
  rename_i a ha
  split at h
  case h_2 => cases h
  rename_i hd
  cases h
  unfold dec41 at ha
  split at ha
  case h_2 => cases ha
  rename_i a b c d e f
  cases ha
  obtain ⟨⟨x, y, z, t, u⟩, hx⟩ := Option.isSome_iff_exists.1 hd
  refine ⟨rfl, rfl, fun w hG => ?_⟩
  have hx' : f41 a b c d e f = some (x, y, z, t, u) := hx
  simp only [cdec_bool, r41a, r41b, r41c, r41d, r41e, hx', Option.getD_some]
  first | exact pref_Of.calls 300 a b c d e f x y z t u w hG hx' | exact (pref_Of.calls 300 a b c d e f x y z t u w hG hx').mono fun e w' h => ⟨h.1, h.2.below⟩

/-! glebelaw3.Pre, pref.Has -/
def f40 (a b c d : Int) : Option (Int × Int × Int × Int) := (glebelaw2_Addr.f 300 a b c).bind fun bt136 => ((gleberef1_Bits.f bt136.1).bind fun t140 => (if (wrap64 (t140 + 1)) = 0 then (none) else ((gleberef1_Bits.f bt136.1).bind fun t141 => ((gleberef1_Mask.f 300 (wrap64 ((wrap64 (128 - t141)) + (Int.tmod (Go.bits .and .i64 d 255) (wrap64 (t140 + 1)))))).bind fun bt142 => ((gleberef1_Bits.f bt136.1).bind fun t144 => ((gleberef1_Mask.f 300 (wrap64 (128 - t144))).bind fun bt145 => ((gleberef1_Not.f bt145.1 bt145.2).bind fun bt147 => ((gleberef1_And.f bt142.1 bt142.2 bt147.1 bt147.2).bind fun bt149 => ((gleberef1_And.f bt136.2.1 bt136.2.2 bt149.1 bt149.2).bind fun bt152 => (some (bt136.1, bt152.1, bt152.2, Int.tmod (Go.bits .and .i64 d 255) (wrap64 (t140 + 1)))))))))))))
def d40 (a b c d : Int) : Bool := (f40 a b c d).isSome
def r40a (a b c d : Int) : Int := ((f40 a b c d).getD (0, 0, 0, 0)).1
def r40b (a b c d : Int) : Int := ((f40 a b c d).getD (0, 0, 0, 0)).2.1
def r40c (a b c d : Int) : Int := ((f40 a b c d).getD (0, 0, 0, 0)).2.2.1
def r40d (a b c d : Int) : Int := ((f40 a b c d).getD (0, 0, 0, 0)).2.2.2
noncomputable def dec40 : List Value → Option (Int × Int × Int × Int)
  | [.int .i64 a, .int .u64 b, .int .u64 c, .int .i64 d] => some (a, b, c, d)
  | _ => none
noncomputable def con40 : Con := Con.flat dec40 (fun x => d40 x.1 x.2.1 x.2.2.1 x.2.2.2) fun x => .agg #[.int .i64 (r40a x.1 x.2.1 x.2.2.1 x.2.2.2), .int .u64 (r40b x.1 x.2.1 x.2.2.1 x.2.2.2), .int .u64 (r40c x.1 x.2.1 x.2.2.1 x.2.2.2), .int .i64 (r40d x.1 x.2.1 x.2.2.1 x.2.2.2)]
def f42 (a b c d e f g : Int) : Option Bool := (pref_Ok.f 300 a b c d).bind fun t171 => (if t171 = true then ((addr_Ok.f e f g).bind fun t172 => (if t172 = true then (if e = a then ((pref_mask.f a d).bind fun bt173 => ((quad_And.f f g bt173.1 bt173.2).bind fun bt175 => (some (bt175.1 == b && (bt175.2 == c))))) else (some false)) else (some false))) else (some false))
def d42 (a b c d e f g : Int) : Bool := (f42 a b c d e f g).isSome
def r42 (a b c d e f g : Int) : Bool := (f42 a b c d e f g).getD false
noncomputable def dec42 : List Value → Option (Int × Int × Int × Int × Int × Int × Int)
  | [.agg ⟨[.int .i64 a, .int .u64 b, .int .u64 c, .int .i64 d]⟩, .agg ⟨[.int .i64 e, .int .u64 f, .int .u64 g]⟩] => some (a, b, c, d, e, f, g)
  | _ => none
noncomputable def con42 : Con := Con.flat dec42 (fun x => d42 x.1 x.2.1 x.2.2.1 x.2.2.2.1 x.2.2.2.2.1 x.2.2.2.2.2.1 x.2.2.2.2.2.2) fun x => .bool (cdec (r42 x.1 x.2.1 x.2.2.1 x.2.2.2.1 x.2.2.2.2.1 x.2.2.2.2.2.1 x.2.2.2.2.2.2 = true))
noncomputable def L40 : List (Nat × Con) := [(28, con28), (69, con69), (70, con70), (71, con71), (72, con72)]
noncomputable def L42 : List (Nat × Con) := [(62, con62), (31, con31), (63, con63), (20, con20)]
noncomputable def LM : List (Nat × Con) := [(40, con40), (34, con34), (41, con41), (42, con42), (39, conDone)]

end Go.Proofs.YtfnacgojmdbjmaaDoor
