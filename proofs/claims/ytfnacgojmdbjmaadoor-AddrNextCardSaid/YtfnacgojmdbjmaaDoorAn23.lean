/- AddrNext: the printed functions that the law calls, as contracts. -/
import Derived.Test.YtfnacgojmdbjmaaDoorAn20
import Derived.Test.YtfnacgojmdbjmaaDoorAn22
namespace Go.Proofs.YtfnacgojmdbjmaaDoor
open Go.Det Go.RowKit Go.Proofs.YtfnacgojmdbjmaaDoor.PAN Go.Proofs.YtfnacgojmdbjmaaDoorW.PrintWords
set_option maxRecDepth 100000

def f28 (a b c : Int) := glebelaw2_Addr.f 300 a b c
def d28 (a b c : Int) : Bool := (f28 a b c).isSome
def r28a (a b c : Int) : Int := ((f28 a b c).getD (0, 0, 0)).1
def r28b (a b c : Int) : Int := ((f28 a b c).getD (0, 0, 0)).2.1
def r28c (a b c : Int) : Int := ((f28 a b c).getD (0, 0, 0)).2.2
noncomputable def dec28 : List Value → Option (Int × Int × Int)
  | [.int .i64 a, .int .u64 b, .int .u64 c] => some (a, b, c)
  | _ => none
noncomputable def con28 : Con := Con.flat dec28 (fun x => d28 x.1 x.2.1 x.2.2) fun x => .agg #[.int .i64 (r28a x.1 x.2.1 x.2.2), .int .u64 (r28b x.1 x.2.1 x.2.2), .int .u64 (r28c x.1 x.2.1 x.2.2)]
theorem om28 {W : World} (hW : GoodW W) : OwnAll Tryd.prog W 6 28 con28.own := by
  refine own_of_calls (fn := Tryd.f28) (c := bodyOf Tryd.f28) hW Tryd.func28 (by kernel_rfl) (by kernel_rfl) fun args v h => ?_
  split at h
  case h_2 => cases h
  rename_i a ha
  split at h
  case h_2 => cases h
  rename_i hd
  cases h
  unfold dec28 at ha
  split at ha
  case h_2 => cases ha
  rename_i a b c
  cases ha
  obtain ⟨⟨x, y, z⟩, hx⟩ := Option.isSome_iff_exists.1 hd
  refine ⟨rfl, rfl, fun w hG => ?_⟩
  have hx' : f28 a b c = some (x, y, z) := hx
  simp only [r28a, r28b, r28c, hx', Option.getD_some]
  exact glebelaw2_Addr.calls 300 a b c x y z w hG hx'
def f16 (a b c d : Int) := quad_Add.f a b c d
def d16 (a b c d : Int) : Bool := (f16 a b c d).isSome
def r16a (a b c d : Int) : Int := ((f16 a b c d).getD (0, 0, false)).1
def r16b (a b c d : Int) : Int := ((f16 a b c d).getD (0, 0, false)).2.1
def r16c (a b c d : Int) : Bool := ((f16 a b c d).getD (0, 0, false)).2.2
noncomputable def dec16 : List Value → Option (Int × Int × Int × Int)
  | [.agg ⟨[.int .u64 a, .int .u64 b]⟩, .agg ⟨[.int .u64 c, .int .u64 d]⟩] => some (a, b, c, d)
  | _ => none
noncomputable def con16 : Con := Con.flat dec16 (fun x => d16 x.1 x.2.1 x.2.2.1 x.2.2.2) fun x => .tuple #[.agg #[.int .u64 (r16a x.1 x.2.1 x.2.2.1 x.2.2.2), .int .u64 (r16b x.1 x.2.1 x.2.2.1 x.2.2.2)], .bool (cdec (r16c x.1 x.2.1 x.2.2.1 x.2.2.2 = true))]
theorem om16 {W : World} (hW : GoodW W) : OwnAll Tryd.prog W 6 16 con16.own := by
  refine own_of_calls (fn := Tryd.f16) (c := bodyOf Tryd.f16) hW Tryd.func16 (by kernel_rfl) (by kernel_rfl) fun args v h => ?_
  split at h
  case h_2 => cases h
  rename_i a ha
  split at h
  case h_2 => cases h
  rename_i hd
  cases h
  unfold dec16 at ha
  split at ha
  case h_2 => cases ha
  rename_i a b c d
  cases ha
  obtain ⟨⟨x, y, z⟩, hx⟩ := Option.isSome_iff_exists.1 hd
  refine ⟨rfl, rfl, fun w hG => ?_⟩
  have hx' : f16 a b c d = some (x, y, z) := hx
  simp only [cdec_bool, r16a, r16b, r16c, hx', Option.getD_some]
  exact quad_Add.calls a b c d x y z w hG hx'
def f23 (a : Int) := quad_Bit.f 300 a
def d23 (a : Int) : Bool := (f23 a).isSome
def r23a (a : Int) : Int := ((f23 a).getD (0, 0)).1
def r23b (a : Int) : Int := ((f23 a).getD (0, 0)).2
noncomputable def dec23 : List Value → Option (Int)
  | [.int .i64 a] => some (a)
  | _ => none
noncomputable def con23 : Con := Con.flat dec23 (fun x => d23 x) fun x => .agg #[.int .u64 (r23a x), .int .u64 (r23b x)]
theorem om23 {W : World} (hW : GoodW W) : OwnAll Tryd.prog W 6 23 con23.own := by
  refine own_of_calls (fn := Tryd.f23) (c := bodyOf Tryd.f23) hW Tryd.func23 (by kernel_rfl) (by kernel_rfl) fun args v h => ?_
  split at h
  case h_2 => cases h
  rename_i a ha
  split at h
  case h_2 => cases h
  rename_i hd
  cases h
  unfold dec23 at ha
  split at ha
  case h_2 => cases ha
  rename_i a
  cases ha
  obtain ⟨⟨x, y⟩, hx⟩ := Option.isSome_iff_exists.1 hd
  refine ⟨rfl, rfl, fun w hG => ?_⟩
  have hx' : f23 a = some (x, y) := hx
  simp only [r23a, r23b, hx', Option.getD_some]
  exact quad_Bit.calls 300 a x y w hG hx'
def f30 (a b c d e f : Int) := addr_Less.f a b c d e f
def d30 (a b c d e f : Int) : Bool := (f30 a b c d e f).isSome
def r30 (a b c d e f : Int) : Bool := ((f30 a b c d e f).getD false)
noncomputable def dec30 : List Value → Option (Int × Int × Int × Int × Int × Int)
  | [.agg ⟨[.int .i64 a, .int .u64 b, .int .u64 c]⟩, .agg ⟨[.int .i64 d, .int .u64 e, .int .u64 f]⟩] => some (a, b, c, d, e, f)
  | _ => none
noncomputable def con30 : Con := Con.flat dec30 (fun x => d30 x.1 x.2.1 x.2.2.1 x.2.2.2.1 x.2.2.2.2.1 x.2.2.2.2.2) fun x => .bool (cdec (r30 x.1 x.2.1 x.2.2.1 x.2.2.2.1 x.2.2.2.2.1 x.2.2.2.2.2 = true))
theorem om30 {W : World} (hW : GoodW W) : OwnAll Tryd.prog W 6 30 con30.own := by
  refine own_of_calls (fn := Tryd.f30) (c := bodyOf Tryd.f30) hW Tryd.func30 (by kernel_rfl) (by kernel_rfl) fun args v h => ?_
  split at h
  case h_2 => cases h
  rename_i a ha
  split at h
  case h_2 => cases h
  rename_i hd
  cases h
  unfold dec30 at ha
  split at ha
  case h_2 => cases ha
  rename_i a b c d e f
  cases ha
  obtain ⟨x, hx⟩ := Option.isSome_iff_exists.1 hd
  refine ⟨rfl, rfl, fun w hG => ?_⟩
  have hx' : f30 a b c d e f = some x := hx
  simp only [cdec_bool, r30, hx', Option.getD_some]
  exact addr_Less.calls a b c d e f x w hG hx'
def f31 (a b c : Int) := addr_Ok.f a b c
def d31 (a b c : Int) : Bool := (f31 a b c).isSome
def r31 (a b c : Int) : Bool := ((f31 a b c).getD false)
noncomputable def dec31 : List Value → Option (Int × Int × Int)
  | [.agg ⟨[.int .i64 a, .int .u64 b, .int .u64 c]⟩] => some (a, b, c)
  | _ => none
noncomputable def con31 : Con := Con.flat dec31 (fun x => d31 x.1 x.2.1 x.2.2) fun x => .bool (cdec (r31 x.1 x.2.1 x.2.2 = true))
theorem om31 {W : World} (hW : GoodW W) : OwnAll Tryd.prog W 6 31 con31.own := by
  refine own_of_calls (fn := Tryd.f31) (c := bodyOf Tryd.f31) hW Tryd.func31 (by kernel_rfl) (by kernel_rfl) fun args v h => ?_
  split at h
  case h_2 => cases h
  rename_i a ha
  split at h
  case h_2 => cases h
  rename_i hd
  cases h
  unfold dec31 at ha
  split at ha
  case h_2 => cases ha
  rename_i a b c
  cases ha
  obtain ⟨x, hx⟩ := Option.isSome_iff_exists.1 hd
  refine ⟨rfl, rfl, fun w hG => ?_⟩
  have hx' : f31 a b c = some x := hx
  simp only [cdec_bool, r31, hx', Option.getD_some]
  exact addr_Ok.calls a b c x w hG hx'

/-! addr.Next -/
def f29 (a b c : Int) : Option (Int × Int × Int × Bool) := (quad_Bit.f 300 0).bind fun p => (quad_Add.f b c p.1 p.2).bind fun q => if q.2.2 = true then ((addr_Ok.f a b c).bind fun t => if t = true then ((addr_Ok.f a q.1 q.2.1).bind fun u => if u = true then some (a, q.1, q.2.1, true) else some (0, 0, 0, false)) else some (0, 0, 0, false)) else some (0, 0, 0, false)
def d29 (a b c : Int) : Bool := (f29 a b c).isSome
def r29a (a b c : Int) : Int := ((f29 a b c).getD (0, 0, 0, false)).1
def r29b (a b c : Int) : Int := ((f29 a b c).getD (0, 0, 0, false)).2.1
def r29c (a b c : Int) : Int := ((f29 a b c).getD (0, 0, 0, false)).2.2.1
def r29d (a b c : Int) : Bool := ((f29 a b c).getD (0, 0, 0, false)).2.2.2
noncomputable def dec29 : List Value → Option (Int × Int × Int)
  | [.agg ⟨[.int .i64 a, .int .u64 b, .int .u64 c]⟩] => some (a, b, c)
  | _ => none
noncomputable def con29 : Con := Con.flat dec29 (fun x => d29 x.1 x.2.1 x.2.2) fun x => .tuple #[.agg #[.int .i64 (r29a x.1 x.2.1 x.2.2), .int .u64 (r29b x.1 x.2.1 x.2.2), .int .u64 (r29c x.1 x.2.1 x.2.2)], .bool (cdec (r29d x.1 x.2.1 x.2.2 = true))]
noncomputable def L29 : List (Nat × Con) := [(16, con16), (23, con23), (31, con31)]
noncomputable def LA : List (Nat × Con) := [(28, con28), (29, con29), (30, con30), (31, con31), (27, conDone)]

end Go.Proofs.YtfnacgojmdbjmaaDoor
