/- PrefMasks: Pre and Has come to what is said of them, at every world in which the tables lie. -/
import Derived.Test.YtfnacgojmdbjmaaDoorPj24
namespace Go.Proofs.YtfnacgojmdbjmaaDoor
open Go.Det Go.RowKit Go.Proofs.YtfnacgojmdbjmaaDoor.PM Go.Proofs.YtfnacgojmdbjmaaDoorW.PrintWords
set_option maxRecDepth 100000

theorem andI_eq (k : IntKind) (a b : Int) : andI k a b = Go.bits .and k a b := rfl
theorem cTrue : cdec True = true := cdec_true.2 trivial
theorem wrapE (x : Int) : IntKind.wrap IntKind.i64 x = wrap64 x := by rw [IntKind.wrap_i64, wrap64]

noncomputable def enc40 (x : Int × Int × Int × Int) : List Value := [.int .i64 x.1, .int .u64 x.2.1, .int .u64 x.2.2.1, .int .i64 x.2.2.2]
theorem dec40_enc {args : List Value} {a : Int × Int × Int × Int} (h : dec40 args = some a) : args = enc40 a := by
  unfold dec40 at h
  split at h
  case h_2 => cases h
  cases h; rfl
theorem w40 (x : Int × Int × Int × Int) (hd : d40 x.1 x.2.1 x.2.2.1 x.2.2.2 = true) : codeW Tryd.prog (cwC L40) (bodyOf Tryd.f40) (inTab (enc40 x) 8) (birth [] 64) (retW Tryd.prog Tryd.f40 fun v' _ => v' =
    .agg #[.int .i64 (r40a x.1 x.2.1 x.2.2.1 x.2.2.2), .int .u64 (r40b x.1 x.2.1 x.2.2.1 x.2.2.2), .int .u64 (r40c x.1 x.2.1 x.2.2.1 x.2.2.2), .int .i64 (r40d x.1 x.2.1 x.2.2.1 x.2.2.2)]) := by
  obtain ⟨a, b, c, d⟩ := x
  refine (vc40 a b c d _).mpr ?_
  obtain ⟨res, hx⟩ := Option.isSome_iff_exists.1 (show (f40 a b c d).isSome = true from hd)
  have hx0 := hx
  unfold f40 at hx
  obtain ⟨⟨V, h, l⟩, e28, hx⟩ := Option.bind_eq_some_iff.1 hx
  obtain ⟨t, e69, hx⟩ := Option.bind_eq_some_iff.1 hx
  split at hx
  · cases hx
  rename_i hne
  obtain ⟨t2, e2, hx⟩ := Option.bind_eq_some_iff.1 hx
  rw [e69] at e2; cases e2
  obtain ⟨⟨M1, M2⟩, e71, hx⟩ := Option.bind_eq_some_iff.1 hx
  obtain ⟨t2, e2, hx⟩ := Option.bind_eq_some_iff.1 hx
  rw [e69] at e2; cases e2
  obtain ⟨⟨K1, K2⟩, e71b, hx⟩ := Option.bind_eq_some_iff.1 hx
  obtain ⟨⟨N1, N2⟩, e72, hx⟩ := Option.bind_eq_some_iff.1 hx
  obtain ⟨⟨c1, c2⟩, e70, hx⟩ := Option.bind_eq_some_iff.1 hx
  obtain ⟨⟨r1, r2⟩, e70b, hx⟩ := Option.bind_eq_some_iff.1 hx
  cases hx
  have g28 : f28 a b c = some (V, h, l) := e28
  have g69 : f69 V = some t := e69
  have g71 : f71 _ = some (M1, M2) := e71
  have g71b : f71 _ = some (K1, K2) := e71b
  have g72 : f72 K1 K2 = some (N1, N2) := e72
  have g70 : f70 M1 M2 N1 N2 = some (c1, c2) := e70
  have g70b : f70 h l c1 c2 = some (r1, r2) := e70b
  simp only [d28, r28a, r28b, r28c, g28, d69, r69, g69, wrapE, andI_eq, d71, r71a, r71b, g71, g71b, d72, r72a, r72b, g72, d70, r70a, r70b, g70, g70b, Option.isSome_some, Option.getD_some, true_and, r40a, r40b, r40c, r40d, hx0]
  exact ⟨hne, trivial⟩
theorem om40 {W : World} (hW : GoodW W) : OwnAll Tryd.prog W 6 40 con40.own :=
  con_flat enc40 (Laying.empty hW.size) hW.size (by decide) dt_mixed (OwnsAll.con (om28 hW) (OwnsAll.con (om69 hW) (OwnsAll.con (om70 hW) (OwnsAll.con (om71 hW) (OwnsAll.con (om72 hW) (ownsAll_nil W 6)))))) Tryd.func40 (fn := Tryd.f40) (c := bodyOf Tryd.f40) (by kernel_rfl) (by kernel_rfl) (fun _ _ h => dec40_enc h) (fun a => ⟨rfl, rfl, (by kernel_rfl)⟩) w40

noncomputable def enc42 (x : Int × Int × Int × Int × Int × Int × Int) : List Value := [.agg #[.int .i64 x.1, .int .u64 x.2.1, .int .u64 x.2.2.1, .int .i64 x.2.2.2.1], .agg #[.int .i64 x.2.2.2.2.1, .int .u64 x.2.2.2.2.2.1, .int .u64 x.2.2.2.2.2.2]]
theorem dec42_enc {args : List Value} {a : Int × Int × Int × Int × Int × Int × Int} (h : dec42 args = some a) : args = enc42 a := by
  unfold dec42 at h
  split at h
  case h_2 => cases h
  cases h; rfl
theorem beqE (a b : Int) : (a == b) = cdec (a = b) := cdec_beq a b
theorem w42 (x : Int × Int × Int × Int × Int × Int × Int) (hd : d42 x.1 x.2.1 x.2.2.1 x.2.2.2.1 x.2.2.2.2.1 x.2.2.2.2.2.1 x.2.2.2.2.2.2 = true) : codeW Tryd.prog (cwC L42) (bodyOf Tryd.f42) (inTab (enc42 x) 8) (birth [] 64) (retW Tryd.prog Tryd.f42 fun v' _ => v' =
    .bool (cdec (r42 x.1 x.2.1 x.2.2.1 x.2.2.2.1 x.2.2.2.2.1 x.2.2.2.2.2.1 x.2.2.2.2.2.2 = true))) := by
  obtain ⟨a, b, c, d, e, f, g⟩ := x
  refine (vc42 a b c d e f g _).mpr ?_
  obtain ⟨res, hx⟩ := Option.isSome_iff_exists.1 (show (f42 a b c d e f g).isSome = true from hd)
  have hx0 := hx
  unfold f42 at hx
  obtain ⟨o1, e62, hx⟩ := Option.bind_eq_some_iff.1 hx
  have g62 : f62 a b c d = some o1 := e62
  have hr : r42 a b c d e f g = res := by unfold r42; rw [hx0]; rfl
  simp only [hr]
  cases o1 with
  | false =>
    rw [if_neg (by decide)] at hx; cases hx
    simp only [d62, r62, g62, Option.isSome_some, Option.getD_some, true_and, cdec_bool, bifW_false]
  | true =>
    rw [if_pos rfl] at hx
    obtain ⟨o2, e31, hx⟩ := Option.bind_eq_some_iff.1 hx
    have g31 : f31 e f g = some o2 := e31
    cases o2 with
    | false =>
      rw [if_neg (by decide)] at hx; cases hx
      simp only [d62, r62, g62, d31, r31, g31, Option.isSome_some, Option.getD_some, true_and, cTrue, cdec_bool, bifW_false, bifW_true]
    | true =>
      rw [if_pos rfl] at hx
      split at hx
      · rename_i hea
        obtain ⟨⟨m1, m2⟩, e63, hx⟩ := Option.bind_eq_some_iff.1 hx
        obtain ⟨⟨q1, q2⟩, e20, hx⟩ := Option.bind_eq_some_iff.1 hx
        cases hx
        have g63 : f63 a d = some (m1, m2) := e63
        have g20 : f20 f g m1 m2 = some (q1, q2) := e20
        have hc : cdec (e = a) = true := cdec_true.2 hea
        simp only [d62, r62, g62, d31, r31, g31, d63, r63a, r63b, g63, d20, r20a, r20b, g20, beqE, Option.isSome_some, Option.getD_some, true_and, cTrue, bifW_true, Bool.and_true]
        rw [hc, bifW_true, cdec_bool]
      · rename_i hea
        cases hx
        have hc : cdec (e = a) = false := cdec_false.2 hea
        simp only [d62, r62, g62, d31, r31, g31, Option.isSome_some, Option.getD_some, true_and, cTrue, bifW_true]
        rw [hc, bifW_false, cdec_bool]
theorem om42 {W : World} (hW : GoodW W) : OwnAll Tryd.prog W 6 42 con42.own :=
  con_flat enc42 (Laying.empty hW.size) hW.size (by decide) dt_mixed (OwnsAll.con (om62 hW) (OwnsAll.con (om31 hW) (OwnsAll.con (om63 hW) (OwnsAll.con (om20 hW) (ownsAll_nil W 6))))) Tryd.func42 (fn := Tryd.f42) (c := bodyOf Tryd.f42) (by kernel_rfl) (by kernel_rfl) (fun _ _ h => dec42_enc h) (fun a => ⟨rfl, rfl, (by kernel_rfl)⟩) w42
theorem om39 {W : World} (hW : GoodW W) : OwnAll Tryd.prog W 6 39 conDone.own :=
  ⟨doneD_tr, fun w k => by
    have hG := hW.later k.size k.old
    obtain ⟨t0, t2, t5, L⟩ := hG.lay
    exact done_ok (fn := Tryd.f39) (c := match Tryd.f39.body with | some c => c | none => .skip) L hG.size (by decide : 6 ≤ 64) dt_mixed okA extsA_tr (fun w h1 h2 => extsA_ok (hG.len.later h1 h2) 6) Tryd.func39 (by kernel_rfl) (by kernel_rfl) (wakeP_run' t0 t2 t5)⟩
theorem ownLM {W : World} (hW : GoodW W) : OwnsAll Tryd.prog W 6 (extC LM) :=
  OwnsAll.con (om40 hW) (OwnsAll.con (om34 hW) (OwnsAll.con (om41 hW) (OwnsAll.con (om42 hW) (OwnsAll.con (om39 hW) (ownsAll_nil W 6)))))

end Go.Proofs.YtfnacgojmdbjmaaDoor
