/- Contracts told by hand at worlds in which the listed tables lie (seat of the ranges): the sum of two numbers of 128 bits; printed functions as entries of the evaluator, and entries as calls. -/
import Derived.Test.YtfnacgojmdbjmaaGreatDoorRo6
import Derived.Test.YtfnacgojmdbjmaaGreatDoorRo13
import Derived.Test.YtfnacgojmdbjmaaGreatDoorRo14
namespace Go.Proofs.YtfnacgojmdbjmaaGreatDoor
open Go.Det Go.RowKit Go.Proofs.YtfnacgojmdbjmaaGreatDoorW.PrintWords
set_option maxRecDepth 100000

noncomputable def bodyOf (f : Func) : Code := match f.body with | some c => c | none => .skip
theorem cdec_bool (b : Bool) : cdec (b = true) = b := by
  rw [← cdec_eq]; cases b <;> rfl
theorem cTrue : cdec True = true := cdec_true.2 trivial
theorem andI_eq (k : IntKind) (a b : Int) : andI k a b = Go.bits .and k a b := rfl
theorem orI_eq (k : IntKind) (a b : Int) : orI k a b = Go.bits .or k a b := rfl
theorem wrapE (x : Int) : IntKind.wrap IntKind.i64 x = wrap64 x := by rw [IntKind.wrap_i64, wrap64]

/-- A function of plain arguments and answers, whose calls come to what it says at every good world, as an entry. -/
theorem own_of_calls {f : FuncId} {fn : Func} {c : Code} {F : List Value → Option Value} {W : World} (hW : GoodW W) (hf : Tryz.prog.funcs[f]? = some fn) (hb : fn.body = some c) (hn : (fn.name == "runtime.NumGoroutine") = false)
    (h : ∀ args v, F args = some v → flat2L args = true ∧ flat v = true ∧ ∀ w, GoodW w → Calls Tryz.prog f ⟨args⟩ w fun e w' => e = .returned v ∧ Below w.heap.size w w') : OwnAll Tryz.prog W 6 f (pureD F) := by
  refine ⟨pureD_tr F, fun W1 k1 args s v s' e φ w args' H _ hA _ _ => ?_⟩
  unfold pureD at e
  split at e
  case h_2 => cases e
  rename_i r hr
  cases e
  obtain ⟨h1, h2, h3⟩ := h args v hr
  rw [flat2L_inv h1 hA, callFunc_run hf hb hn]
  have kw : Later W w := k1.trans H.later
  refine (h3 w (hW.later kw.size kw.old)).mono ?_
  rintro e W' ⟨rfl, hB⟩
  exact ⟨v, φ, rfl, Ext.refl _ _ _, flat_self h2 _, H.keep ⟨hB.os, hB.output, hB.size, hB.block⟩ hB.tape⟩
/-- An entry kept at every good world, as a contract of a call. -/
theorem calls_of_own {f : FuncId} {fn : Func} {c : Code} {g : Own} {w : World} {args : List Value} {v : Value} (h : OwnAll Tryz.prog w 6 f g) (hG : GoodW w) (hf : Tryz.prog.funcs[f]? = some fn) (hb : fn.body = some c) (hn : (fn.name == "runtime.NumGoroutine") = false)
    (e : g args (birth [] 64) = some (v, birth [] 64)) (h1 : flat2L args = true) (h2 : flat v = true) (h3 : v ≠ und) :
    Calls Tryz.prog f ⟨args⟩ w fun e w' => e = .returned v ∧ Below w.heap.size w w' :=
  own_calls (h.2 w (Later.refl w)) (by decide) hG.size hf hb hn e h1 h2 h3

theorem st_tz0 {x r : Int} {w : World} (hG : GoodW w) (h : (if 0 ≤ x ∧ x < 18446744073709551616 then some ((Lib.ctz 64 x.toNat : Nat) : Int) else none) = some r) :
    Calls Tryz.prog 109 #[.int .u64 x] w fun e w' => e = .returned (.int .i64 r) ∧ Drawn0 w w' := by
  refine (st_tz hG h).mono ?_
  rintro e w' ⟨rfl, rfl⟩
  exact ⟨rfl, Drawn0.refl _⟩

/-! sums of 128 bits -/
theorem qe110 : Entry Tryz.prog 110 add64Entry := Entry.mk (fn := Tryz.f110) Tryz.func110 (by kernel_rfl) (by kernel_rfl) (by kernel_rfl) (by kernel_rfl)
noncomputable def LZ0 : List (Nat × Con) := [(110, con48)]
theorem oAdd110 (W : World) : OwnAll Tryz.prog W 6 110 con48.own := ⟨pureD_tr _, fun _ _ => add64_ok qe110⟩
theorem v_true {p : Prop} (h : p) : Value.bool true = .bool (cdec p) := congrArg _ (cdec_true.2 h).symm
theorem v_false {p : Prop} (h : ¬ p) : Value.bool false = .bool (cdec p) := congrArg _ (cdec_false.2 h).symm
theorem v_iff {p q : Prop} (h : p ↔ q) : Value.bool (cdec p) = .bool (cdec q) := congrArg (fun p => Value.bool (cdec p)) (propext h)
theorem domQQ_iff {a b c d : Int} : domQQ (a, b, c, d) = true ↔ ((0 ≤ a ∧ a < 18446744073709551616) ∧ (0 ≤ b ∧ b < 18446744073709551616)) ∧ ((0 ≤ c ∧ c < 18446744073709551616) ∧ (0 ≤ d ∧ d < 18446744073709551616)) := by
  unfold domQQ
  rw [Bool.and_eq_true, inQ_iff, inQ_iff]
theorem quad_of {h l : Int} {n : Nat} (h1 : h = ((n / M64 : Nat) : Int)) (h2 : l = ((n % M64 : Nat) : Int)) : Value.agg #[.int .u64 h, .int .u64 l] = quadV n := by
  rw [h1, h2]; rfl
theorem vc98 (ah al bh bl : Int) (Q : Value → Prop) : codeW Tryz.prog (cwC LZ0) (bodyOf Tryz.f98) (inTab (encQQ (ah, al, bh, bl)) 8) (birth [] 64) (retW Tryz.prog Tryz.f98 fun v _ => Q v) = (((Bool.true = Bool.true) ∧ ((Nat.ble (Int.toNat (↑((Int.toNat al + Int.toNat bl + Int.toNat 0) / 18446744073709551616) : Int)) 1 = Bool.true) ∧ bifW (cdec ((↑((Int.toNat ah + Int.toNat bh + Int.toNat (↑((Int.toNat al + Int.toNat bl + Int.toNat 0) / 18446744073709551616) : Int)) / 18446744073709551616) : Int) ≠ 0)) (Q (Value.tuple #[Value.agg #[Value.int IntKind.u64 0, Value.int IntKind.u64 0], Value.bool Bool.false])) (Q (Value.tuple #[Value.agg #[Value.int IntKind.u64 (↑((Int.toNat ah + Int.toNat bh + Int.toNat (↑((Int.toNat al + Int.toNat bl + Int.toNat 0) / 18446744073709551616) : Int)) % 18446744073709551616) : Int), Value.int IntKind.u64 (↑((Int.toNat al + Int.toNat bl + Int.toNat 0) % 18446744073709551616) : Int)], Value.bool Bool.true]))))) := by kernel_rfl
theorem w98 (a : Int × Int × Int × Int) (h : domQQ a = true) : codeW Tryz.prog (cwC LZ0) (bodyOf Tryz.f98) (inTab (encQQ a) 8) (birth [] 64) (retW Tryz.prog Tryz.f98 fun v _ => v = .tuple #[quadV (addN (qn a.1 a.2.1) (qn a.2.2.1 a.2.2.2)), .bool (cdec (qn a.1 a.2.1 + qn a.2.2.1 a.2.2.2 < M128))]) := by
  obtain ⟨ah, al, bh, bl⟩ := a
  refine (vc98 ah al bh bl _).mpr ?_
  have h := domQQ_iff.1 h
  refine ⟨rfl, Nat.ble_eq_true_of_le (by omega), bifW_intro (fun h1 => ?_) (fun h1 => ?_)⟩
  · rw [cdec_true] at h1
    have hge : ¬ qn ah al + qn bh bl < M128 := by simp only [qn, M64, M128]; omega
    have : addN (qn ah al) (qn bh bl) = 0 := by unfold addN; rw [if_neg hge]
    show _ = Value.tuple #[quadV (addN (qn ah al) (qn bh bl)), .bool (cdec (qn ah al + qn bh bl < M128))]
    rw [this, ← v_false hge]; rfl
  · rw [cdec_false] at h1
    have hlt : qn ah al + qn bh bl < M128 := by simp only [qn, M64, M128]; omega
    have : addN (qn ah al) (qn bh bl) = qn ah al + qn bh bl := by unfold addN; rw [if_pos hlt]
    show _ = Value.tuple #[quadV (addN (qn ah al) (qn bh bl)), .bool (cdec (qn ah al + qn bh bl < M128))]
    rw [this, ← v_true hlt]
    congr 3
    refine quad_of ?_ ?_ <;> (simp only [qn, M64]; omega)
theorem omAdd98 {W : World} (hW : GoodW W) : OwnAll Tryz.prog W 6 98 conAdd.own :=
  con_flat encQQ (Laying.empty hW.size) hW.size (by decide) dt_mixed (OwnsAll.con (oAdd110 W) (ownsAll_nil W 6)) Tryz.func98 (fn := Tryz.f98) (c := bodyOf Tryz.f98) (by kernel_rfl) (by kernel_rfl) (fun _ _ h => decQQ_enc h) (fun a => ⟨rfl, rfl, (by kernel_rfl)⟩) w98
theorem st_add98 {a b c d r1 r2 : Int} {r3 : Bool} {w : World} (hG : GoodW w)
    (h : (if (inQ a b && inQ c d) = true then some ((((addN (qn a b) (qn c d)) / M64 : Nat) : Int), (((addN (qn a b) (qn c d)) % M64 : Nat) : Int), decide (qn a b + qn c d < M128)) else none) = some (r1, r2, r3)) :
    Calls Tryz.prog 98 #[.agg #[.int .u64 a, .int .u64 b], .agg #[.int .u64 c, .int .u64 d]] w fun e w' => e = .returned (.tuple #[.agg #[.int .u64 r1, .int .u64 r2], .bool r3]) ∧ Below w.heap.size w w' := by
  split at h
  case isFalse => cases h
  rename_i hq
  cases h
  rw [cdec_eq]
  refine calls_of_own (fn := Tryz.f98) (c := bodyOf Tryz.f98) (omAdd98 hG) hG Tryz.func98 (by kernel_rfl) (by kernel_rfl) (args := encQQ (a, b, c, d)) (v := .tuple #[quadV (addN (qn a b) (qn c d)), .bool (cdec (qn a b + qn c d < M128))]) ?_ rfl rfl (by intro h; cases h)
  unfold conAdd Con.flat pureD
  have : domQQ (a, b, c, d) = true := hq
  simp only [decQQ, encQQ, this]

end Go.Proofs.YtfnacgojmdbjmaaGreatDoor
