/- A part of an evaluator of closed runs and of its soundness. -/
import Derived.Test.YtcjbddgeoiacoaaGreatDoorDetFoot3
namespace Go.Det
variable {P : Program}

theorem resD_nil (l : Tmps) (s : St) : resD P l s [] = some ([], s) := rfl
theorem resD_tmp (l : Tmps) (s : St) (t : Tmp) (rest : List ResultVar) : resD P l s (.tmp t :: rest) = match resD P l s rest with | some (vs, s) => some (lget l t :: vs, s) | none => none := rfl
theorem resD_cell (l : Tmps) (s : St) (a : Tmp) (t : TypeId) (rest : List ResultVar) : resD P l s (.cell a t :: rest) = match loadD P s t (lget l a) with
    | some (v, s) => (match resD P l s rest with | some (vs, s) => some (v :: vs, s) | none => none)
    | none => none := rfl

theorem resD_tr (l : Tmps) : ∀ rs, Tr (fun s => resD P l s rs)
  | [] => pure_tr (some []) fun _ => rfl
  | .tmp t :: rest => ((resD_tr l rest).omap (fun vs => lget l t :: vs)).congr fun s => by
      rw [resD_tmp]; unfold omap; cases resD P l s rest <;> rfl
  | .cell a t :: rest => (Tr.obind (loadD_tr t (lget l a)) (fun v => (resD_tr l rest).omap (fun vs => v :: vs))).congr fun s => by
      rw [resD_cell]; unfold obind omap
      cases loadD P s t (lget l a) with
      | none => rfl
      | some x => obtain ⟨v, s1⟩ := x; simp only; cases resD P l s1 rest <;> rfl

noncomputable def noWr (s : St) : St := { h := s.h, next := s.next, hi := s.hi, rd := s.rd, wr := 0 }

/-- A run inside a call: its own writes, gone again where nothing of them is left. -/
theorem Tr.gc {f : St → Option (Value × St)} (hf : Tr f) : Tr (fun s => match f (noWr s) with | some x => gcD s x.1 x.2 | none => none) := by
  intro s v s' h
  simp only at h
  split at h
  case h_2 => cases h
  rename_i x hx
  obtain ⟨v1, y⟩ := x
  simp only at h
  obtain ⟨g, k⟩ := hf _ _ _ hx
  unfold gcD at h
  cases hc : (flat v1 && (Nat.beq (Nat.mod y.wr (Nat.shiftLeft 1 s.next)) 0 && Nat.ble (Nat.lor y.rd y.wr + 1) (Nat.shiftLeft 1 y.next))) <;> rw [hc] at h <;> simp only [Option.some.injEq, Prod.mk.injEq] at h <;> obtain ⟨rfl, rfl⟩ := h
  · refine ⟨⟨g.next, g.hi, g.inv, g.rd, fun i q => bit_or.2 (.inl q), fun i q => g.frame i fun r => q (bit_or.2 (.inr r)), g.dom, g.keep, fun i q => ?_, g.oldr⟩, fun t hF hb hr hn => ?_⟩
    · rcases bit_or.1 q with r | r
      · exact .inl r
      · rcases g.oldw i r with r | r | r
        · exact absurd r bit_zero
        · exact .inr (.inl r)
        · exact .inr (.inr r)
    · obtain ⟨t', e, p⟩ := k (noWr t) ⟨hF.le, hF.get⟩ ⟨hb.next, hb.hi, hb.rd, rfl⟩ hr hn
      refine ⟨{ h := t'.h, next := t'.next, hi := t'.hi, rd := t'.rd, wr := Nat.lor t.wr t'.wr }, ?_, ⟨p.next, p.hi, p.rd, ?_, p.pt⟩⟩
      · simp only [e]
        unfold gcD
        have hc' : (flat v1 && (Nat.beq (Nat.mod t'.wr (Nat.shiftLeft 1 t.next)) 0 && Nat.ble (Nat.lor t'.rd t'.wr + 1) (Nat.shiftLeft 1 t'.next))) = false := by rw [p.rd, p.wr, p.next, hb.next]; exact hc
        rw [hc']
      · show Nat.lor t.wr t'.wr = Nat.lor s.wr y.wr; rw [hb.wr, p.wr]
  · refine ⟨⟨Nat.le_refl _, g.hi, fun q => Nat.le_trans q g.hi, fun i q => bit_or.2 (.inl q), fun i q => q, fun i _ => rfl, fun i q => .inl q, fun i q => q, fun i q => .inl q, fun i q => ?_⟩, fun t hF hb hr hn => ?_⟩
    · rcases bit_or.1 q with r | r
      · exact .inl r
      · obtain ⟨r1, r2⟩ := bit_mod.1 r
        rcases g.oldr i r2 with r | r | r
        · exact .inl r
        · exact .inr (.inl r)
        · exact absurd r1 (Nat.not_lt.2 r.1)
    · have hle : y.next ≤ y.hi := g.inv hF.le
      have hbd : ∀ i, bit y.rd i → i < y.next := fun i q => by
        rw [Bool.and_eq_true, Bool.and_eq_true] at hc
        exact bit_lt (Nat.le_of_ble_eq_true hc.2.2) (bit_or.2 (.inl q))
      obtain ⟨t', e, p⟩ := k (noWr t) ⟨hF.le, hF.get⟩ ⟨hb.next, hb.hi, hb.rd, rfl⟩ (fun i q => by
          rcases g.oldr i q with r | r | r
          · exact hr i (bit_or.2 (.inl r))
          · have : i < s.next := by
              rcases Nat.lt_or_ge i s.next with q2 | q2
              · exact q2
              · exact absurd (hF.get i q2 (Nat.lt_of_lt_of_le (hbd i q) hle)) r
            exact hr i (bit_or.2 (.inr (bit_mod.2 ⟨this, q⟩)))
          · exact (hn i r.1 (Nat.lt_of_lt_of_le r.2 hle)).trans (hF.get i r.1 (Nat.lt_of_lt_of_le r.2 hle)).symm) hn
      refine ⟨{ h := t.h, next := t.next, hi := t'.hi, rd := Nat.lor t.rd (Nat.mod t'.rd (Nat.shiftLeft 1 t.next)), wr := t.wr }, ?_, ⟨hb.next, p.hi, ?_, hb.wr, fun i => .inr ⟨rfl, rfl⟩⟩⟩
      · simp only [e]
        unfold gcD
        have hc' : (flat v1 && (Nat.beq (Nat.mod t'.wr (Nat.shiftLeft 1 t.next)) 0 && Nat.ble (Nat.lor t'.rd t'.wr + 1) (Nat.shiftLeft 1 t'.next))) = true := by rw [p.rd, p.wr, p.next, hb.next]; exact hc
        rw [hc']
      · show Nat.lor t.rd (Nat.mod t'.rd (Nat.shiftLeft 1 t.next)) = Nat.lor s.rd (Nat.mod y.rd (Nat.shiftLeft 1 s.next)); rw [hb.rd, p.rd, hb.next]

noncomputable def afterD (fn : Func) (a : Ex × Tmps) (s : St) : Option (Value × St) := match a.1 with
  | .exit _ => none
  | _ => omap (resD P a.2 s fn.results.toList) valOf
theorem afterD_tr (fn : Func) (a : Ex × Tmps) : Tr (afterD (P := P) fn a) := by
  obtain ⟨e, l⟩ := a
  cases e with
  | exit i => exact none_tr fun _ => rfl
  | normal => exact (resD_tr l _).omap valOf
  | ret => exact (resD_tr l _).omap valOf

theorem enterD_eq (run : Code → CodeF) (fn : Func) (c : Code) (args : List Value) (s : St) :
    enterD P run fn c args s = match Nat.ble args.length fn.ntmps with
      | true => (match obind (asc (run c (inTab args 8) (noWr s))) (afterD (P := P) fn) with | some x => gcD s x.1 x.2 | none => none)
      | false => none := by
  unfold enterD
  cases Nat.ble args.length fn.ntmps with
  | false => rfl
  | true =>
    simp only
    unfold endD endRes obind asc afterD omap noWr
    cases run c (inTab args 8) { h := s.h, next := s.next, hi := s.hi, rd := s.rd, wr := 0 } with
    | none => rfl
    | some x =>
      obtain ⟨e, l, s1⟩ := x
      cases e with
      | exit i => rfl
      | normal => simp only; cases resD P l s1 fn.results.toList <;> rfl
      | ret => simp only; cases resD P l s1 fn.results.toList <;> rfl

theorem enterD_tr {run : Code → CodeF} (fn : Func) (c : Code) (hr : TrC (run c)) (args : List Value) : Tr (enterD P run fn c args) := by
  cases hb : Nat.ble args.length fn.ntmps with
  | false => exact none_tr fun s => by rw [enterD_eq, hb]
  | true =>
    exact (Tr.gc (Tr.obind (hr (inTab args 8)) (afterD_tr (P := P) fn))).congr fun s => by rw [enterD_eq, hb]

abbrev Intr := FuncId → Option (List Value → St → Option (Value × St))
theorem callD_zero (intr : Intr) (n : Nat) (f : FuncId) (args : List Value) (s : St) : callD P intr n 0 f args s = none := rfl
theorem callD_succ (intr : Intr) (n k : Nat) (f : FuncId) : callD P intr n (k + 1) f = match intr f with
    | some g => g
    | none => bodyD P (codeD P (callD P intr n k) n) (nth P.funcs.toList f) := rfl

theorem callD_tr {intr : Intr} (hi : ∀ f g, intr f = some g → ∀ args, Tr (g args)) (n : Nat) : ∀ k f args, Tr (callD P intr n k f args)
  | 0, f, args => none_tr fun _ => rfl
  | k + 1, f, args => by
    rw [callD_succ]
    cases hf : intr f with
    | some g => exact hi f g hf args
    | none =>
      simp only
      unfold bodyD
      cases nth P.funcs.toList f with
      | none => exact none_tr fun _ => rfl
      | some fn =>
        simp only
        cases fn.body with
        | none => exact none_tr fun _ => rfl
        | some c => exact enterD_tr fn c (codeD_tr (callD_tr hi n k) n c) args

end Go.Det
