/- Texts of a proof, joined: words of the print (those that are named here) and printed functions. -/
import Derived.Test.YtfnacgojmdbjmaaDoorBk3
import Derived.Test.YtfnacgojmdbjmaaDoorBk4
import Derived.Below
import Derived.Lib.Split
import Derived.Lib.Join
set_option linter.unusedSimpArgs false
set_option linter.unusedVariables false

section
/- Contracts of the library's functions on texts, at worlds in which the listed tables lie, in the words of the printed functions. -/
namespace Go.Proofs.YtfnacgojmdbjmaaDoor
set_option maxRecDepth 100000
open Go.Det Go.RowKit Go.Proofs.YtfnacgojmdbjmaaDoorW.PrintWords
def cutB (s sep : ByteArray) : ByteArray × ByteArray × Bool := (⟨(Lib.cut s.data.toList sep.data.toList).1.toArray⟩, ⟨(Lib.cut s.data.toList sep.data.toList).2.1.toArray⟩, (Lib.cut s.data.toList sep.data.toList).2.2)
theorem st_cut {s sep r1 r2 : ByteArray} {r3 : Bool} {w : World} (hG : GoodW w) (h : (if s.size < 4294967281 then some (cutB s sep) else none) = some (r1, r2, r3)) :
    Calls Tryd.prog 60 #[.string s, .string sep] w fun e w' => e = .returned (.tuple #[.string r1, .string r2, .bool r3]) ∧ Drawn0 w w' := by
  split at h
  case isFalse => cases h
  rename_i hs
  cases h
  obtain ⟨_, m, hm⟩ := hG.len
  refine (Tryd.strings_Cut s sep m w hs hm).mono ?_
  rintro e w' ⟨rfl, n, rfl⟩
  exact ⟨rfl, ⟨n, rfl⟩⟩
theorem st_contains {s sep : ByteArray} {r : Bool} {w : World} (hG : GoodW w) (h : (if s.size < 4294967281 then some (Lib.contains s.data.toList sep.data.toList) else none) = some r) :
    Calls Tryd.prog 51 #[.string s, .string sep] w fun e w' => e = .returned (.bool r) ∧ Drawn0 w w' := by
  split at h
  case isFalse => cases h
  rename_i hs
  cases h
  obtain ⟨_, m, hm⟩ := hG.len
  refine (Tryd.strings_Contains s sep m w hs hm).mono ?_
  rintro e w' ⟨rfl, rfl⟩
  exact ⟨rfl, Drawn0.refl _⟩
theorem st_split {s sep : ByteArray} {r : List ByteArray} {w : World} (hG : GoodW w) (h : (if s.size < 4294967281 ∧ 1 ≤ sep.size then some (Lib.splitB sep 0 (Lib.countB s sep) s) else none) = some r) :
    Calls Tryd.prog 76 #[.string s, .string sep] w fun e w' => ∃ v0_ : Value, e = .returned (v0_) ∧ Kd.R Kd.string 9 w' w.heap.size (fun _ => True) v0_ r ∧ Below w.heap.size w w' := by
  split at h
  case isFalse => cases h
  rename_i hs
  cases h
  obtain ⟨_, m, hm⟩ := hG.len
  refine (Tryd.strings_Split s sep m w hs.1 hm hs.2).mono ?_
  rintro e w' ⟨rfl, rfl⟩
  have hl := Lib.splitB_all sep hs.2 0 (Lib.countB s sep) s rfl
  have hcb := Lib.countB_le sep hs.2 s.size s (Nat.le_refl _)
  refine ⟨_, rfl, ?_, below_alloc (Below.refl _ _) _⟩
  have hrep := Kd.reps_scalar (enc := Value.string) (Lib.splitB sep 0 (Lib.countB s sep) s)
  rw [← hl]
  exact ⟨fun _ _ => trivial, OwnRow.lit w w.heap.size hrep (Nat.le_refl _) (by rw [hl]; omega)⟩
theorem st_indexByte {s : ByteArray} {c r : Int} {w : World} (h : some (Lib.indexByte s.data.toList c.toNat.toUInt8) = some r) :
    Calls Tryd.prog 92 #[.string s, .int .u8 c] w fun e w' => e = .returned (.int .i64 r) ∧ Drawn0 w w' := by
  cases h
  refine (Tryd.strings_IndexByte s c w).mono ?_
  rintro e w' ⟨rfl, rfl⟩
  exact ⟨rfl, Drawn0.refl _⟩
def joinB (l : List ByteArray) (sep : ByteArray) : ByteArray := ⟨(Lib.join (l.map (·.data.toList)) sep.data.toList).toArray⟩
theorem st_join {A0 : Option Addr} {c0 : Nat} {l0 : List ByteArray} {sep r : ByteArray} {w : World} (hr : Kd.C Kd.string w A0 l0.length l0) (hc : l0.length ≤ c0)
    (h : (if (joinB l0 sep).size ≤ 140737488355328 ∧ l0.length ≤ 140737488355328 then some (joinB l0 sep) else none) = some r) :
    Calls Tryd.prog 55 #[.slice A0 l0.length c0, .string sep] w fun e w' => e = .returned (.string r) ∧ Below w.heap.size w w' := by
  split at h
  case isFalse => cases h
  rename_i hs
  cases h
  obtain ⟨hl, hm, hcell⟩ := hr
  cases l0 with
  | nil =>
    refine (Tryd.strings_Join_none A0 c0 sep w).mono ?_
    rintro e w' ⟨rfl, rfl⟩
    exact ⟨rfl, Below.refl _ _⟩
  | cons x t =>
    obtain ⟨ad, rfl, hc1⟩ := hcell (by simp)
    have at_ : ∀ (j : Nat) p, (x :: t)[j]? = some p → w.cell? (ad.add j) = some (.string p) := by
      intro j p hj
      obtain ⟨c, h1, h2, h3⟩ := hc1 j p hj
      have h2 : c = [Value.string p] := h2
      have := h3 0 (.string p) (by rw [h2]; rfl)
      simpa [Kd.string, Kd.scalar] using this
    have h0 := at_ 0 x rfl
    have hsp := World.cell?_spot h0
    obtain ⟨bk, o, sp⟩ := ad
    have hsp : sp = none := by simpa [Addr.add] using hsp
    subst hsp
    have hadd : ∀ j, (⟨bk, o, none⟩ : Addr).add j = ⟨bk, o + j, none⟩ := by
      intro j
      unfold Addr.add
      split
      · rename_i q; subst q; rfl
      · rfl
    refine (Tryd.strings_Join bk o c0 (x :: t) sep w (fun j p hj => by rw [← hadd]; exact at_ j p hj) ?_ hs.2 hc ?_).mono ?_
    · rw [hadd] at h0; exact World.block_lt_of_cell? w _ h0
    · have := hs.1
      unfold joinB at this
      simpa [ByteArray.size] using this
    · rintro e w' ⟨rfl, hB⟩
      exact ⟨rfl, hB⟩
theorem vc72 (ah al : Int) (Q : Value → Prop) : codeW Tryd.prog (cwC []) (bodyOf Tryd.f72) (inTab (encQ (ah, al)) 8) (birth [] 64) (retW Tryd.prog Tryd.f72 fun v _ => Q v) = (Q (Value.agg #[Value.int IntKind.u64 (IntKind.wrap IntKind.u64 (↑(BitVec.toNat (BitVec.ofInt 64 (if Bool.false = Bool.true then -1 else if Bool.false = Bool.true then 2 ^ (64 - 1) - 1 else 2 ^ 64 - 1) ^^^ BitVec.ofInt 64 ah)) : Int)), Value.int IntKind.u64 (IntKind.wrap IntKind.u64 (↑(BitVec.toNat (BitVec.ofInt 64 (if Bool.false = Bool.true then -1 else if Bool.false = Bool.true then 2 ^ (64 - 1) - 1 else 2 ^ 64 - 1) ^^^ BitVec.ofInt 64 al)) : Int))])) := by kernel_rfl
theorem w72 (a : Int × Int) (h : domQ a = true) : codeW Tryd.prog (cwC []) (bodyOf Tryd.f72) (inTab (encQ a) 8) (birth [] 64) (retW Tryd.prog Tryd.f72 fun v _ => v = quadV (M128 - 1 - qn a.1 a.2)) := by
  obtain ⟨ah, al⟩ := a
  refine (vc72 ah al _).mpr ?_
  have h := domQ_iff.1 h
  rw [maxU, notI_u64 (inU_of h.1), notI_u64 (inU_of h.2)]
  refine quad_of ?_ ?_ <;> (simp only [qn, M64, M128]; omega)
end Go.Proofs.YtfnacgojmdbjmaaDoor
end

section
/- Printed functions as entries of the evaluator. -/
namespace Go.Proofs.YtfnacgojmdbjmaaDoor
open Go.Det Go.RowKit
set_option maxRecDepth 100000
theorem own_of_calls {f : FuncId} {fn : Func} {c : Code} {F : List Value → Option Value} {W : World} (hW : GoodW W) (hf : Tryd.prog.funcs[f]? = some fn) (hb : fn.body = some c) (hn : (fn.name == "runtime.NumGoroutine") = false)
    (h : ∀ args v, F args = some v → flat2L args = true ∧ flat v = true ∧ ∀ w, GoodW w → Calls Tryd.prog f ⟨args⟩ w fun e w' => e = .returned v ∧ Below w.heap.size w w') : OwnAll Tryd.prog W 6 f (pureD F) := by
  refine ⟨pureD_tr F, fun W1 k1 args s v s' e φ w args' H _ hA _ _ => ?_⟩
  unfold pureD at e
  split at e
  case h_2 => cases e
  rename_i r hr
  cases e
  obtain ⟨h1, h2, h3⟩ := h args v hr
  rw [flat2L_inv h1 hA, callFunc_run hf hb hn]
  have kw : Later W w := k1.trans H.later
  refine (h3 w (hW.later kw.size kw.old)).mono ?_
  rintro e W' ⟨rfl, hB⟩
  exact ⟨v, φ, rfl, Ext.refl _ _ _, flat_self h2 _, H.keep ⟨hB.os, hB.output, hB.size, hB.block⟩ hB.tape⟩
end Go.Proofs.YtfnacgojmdbjmaaDoor
end

section
/- W with other words for single operations and for loops: a load at an unknown place of a row, a loop by its rounds. -/
namespace Go.Det
variable {P : Program}
abbrev OpX := Oper → Tmps → St → KV → Prop
abbrev LpX := Tmps → St → KC → Prop
noncomputable def dstN (o : Oper) : Nat := match o.dst with | some d => d | none => 1000000
noncomputable def opX (P : Program) (cw : Cw) (ox : Nat → Option OpX) (o : Oper) (l : Tmps) (s : St) (K : KV) : Prop :=
  match ox (dstN o) with
  | some X => X o l s K
  | none => opW P cw o l s K
noncomputable def opsX (P : Program) (cw : Cw) (ox : Nat → Option OpX) (all : List Oper) : List Oper → Tmps → St → KT → Prop
  | [], l, s, K => K l s
  | o :: rest, l, s, K => wantW all l o (fun l => opX P cw ox o l s fun v s => opsX P cw ox all rest (putD l o.dst v) s K) (fun l => opsX P cw ox all rest (putD l o.dst skp) s K)
noncomputable def drawX (P : Program) (cw : Cw) (ox : Nat → Option OpX) (all : List Oper) : List Oper → List Foot → Tmps → St → KT → Prop
  | [], _, l, s, K => K l s
  | o :: rest, done, l, s, K => match edgesOk done.length o.after.toList with
    | true => wantW all l o
      (fun l => opX P cw ox o l (solo s) fun v x => match apartAll (footOf all o done x.rd x.wr) 0 done with
        | true => drawX P cw ox all rest (done ++ [footOf all o done x.rd x.wr]) (putD l o.dst v) (merge s x) K
        | false => False)
      (fun l => match apartAll (footOf all o done 0 0) 0 done with
        | true => drawX P cw ox all rest (done ++ [footOf all o done 0 0]) (putD l o.dst skp) (merge s (solo s)) K
        | false => False)
    | false => False
noncomputable def frst : Code → Nat
  | .region id _ _ => id
  | .seq a _ => frst a
  | .cond _ a _ => frst a
  | .block _ a => frst a
  | .loop a => frst a
  | _ => 1000000
noncomputable def codeX (P : Program) (cw : Cw) (ox : Nat → Option OpX) (lx : Nat → Option LpX) : Code → Tmps → St → KC → Prop
  | .skip, l, s, K => K .normal l s
  | .region _ ops draw, l, s, K => (match draw with
    | true => drawX P cw ox ops.toList ops.toList [] l s (K .normal)
    | false => opsX P cw ox ops.toList ops.toList l s (K .normal))
  | .seq a b, l, s, K => codeX P cw ox lx a l s fun e l s => match e with | .normal => codeX P cw ox lx b l s K | .exit i => K (.exit i) l s | .ret => K .ret l s
  | .cond c a b, l, s, K => (match evalO l c with
    | .bool t => bifW t (codeX P cw ox lx a (lknow l c true) s K) (codeX P cw ox lx b (lknow l c false) s K)
    | _ => False)
  | .block id a, l, s, K => codeX P cw ox lx a l s fun e l s => match e with
    | .exit i => (match Nat.beq i id with | true => K .normal l s | false => K (.exit i) l s)
    | .normal => K .normal l s
    | .ret => K .ret l s
  | .loop a, l, s, K => (match lx (frst a) with | some X => X l s K | none => False)
  | .exit i, l, s, K => K (.exit i) l s
  | .ret, l, s, K => K .ret l s
  | _, _, _, _ => False
noncomputable def loopsOf : Code → List Code
  | .seq a b => loopsOf a ++ loopsOf b
  | .cond _ a b => loopsOf a ++ loopsOf b
  | .block _ a => loopsOf a
  | .loop a => [a]
  | _ => []
def OxOk (P : Program) (cw : Cw) (ox : Nat → Option OpX) : Prop := ∀ n X, ox n = some X → ∀ o l s K, X o l s K → opW P cw o l s K
def LxOk (P : Program) (cw : Cw) (lx : Nat → Option LpX) (l : List Code) : Prop := ∀ a ∈ l, ∀ X, lx (frst a) = some X → ∀ l s K, X l s K → codeW P cw (.loop a) l s K
section
variable {cw : Cw} {ox : Nat → Option OpX} {lx : Nat → Option LpX}
theorem opX_opW (ho : OxOk P cw ox) {o : Oper} {l : Tmps} {s : St} {K : KV} (h : opX P cw ox o l s K) : opW P cw o l s K := by
  unfold opX at h
  split at h
  · rename_i X e; exact ho _ _ e _ _ _ _ h
  · exact h
theorem opsX_opsW (hm : CwMono cw) (ho : OxOk P cw ox) {all : List Oper} : ∀ {ops : List Oper} {l : Tmps} {s : St} {K : KT}, opsX P cw ox all ops l s K → opsW P cw all ops l s K
  | [], _, _, _, h => h
  | _ :: _, _, _, _, h => wantW_mono (fun _ h => opW_mono hm (fun _ _ h => opsX_opsW hm ho h) (opX_opW ho h)) (fun _ h => opsX_opsW hm ho h) h
theorem drawX_drawW (hm : CwMono cw) (ho : OxOk P cw ox) {all : List Oper} : ∀ {ops : List Oper} {done : List Foot} {l : Tmps} {s : St} {K : KT}, drawX P cw ox all ops done l s K → drawW P cw all ops done l s K
  | [], _, _, _, _, h => h
  | o :: rest, done, l, s, K, h => by
    unfold drawX at h
    unfold drawW
    split at h
    · rename_i he
      simp only [he]
      refine wantW_mono (fun l h => ?_) (fun l h => ?_) h
      · refine opW_mono hm (fun v x h => ?_) (opX_opW ho h)
        split at h
        · rename_i hc; simp only [hc]; exact drawX_drawW hm ho h
        · exact h.elim
      · split at h
        · rename_i hc; simp only [hc]; exact drawX_drawW hm ho h
        · exact h.elim
    · exact h.elim
theorem codeX_codeW (hm : CwMono cw) (ho : OxOk P cw ox) : ∀ (c : Code) {l : Tmps} {s : St} {K : KC}, LxOk P cw lx (loopsOf c) → codeX P cw ox lx c l s K → codeW P cw c l s K
  | .skip, _, _, _, _, h => h
  | .region _ ops draw, _, _, _, _, h => by
    cases draw with
    | true => exact drawX_drawW hm ho h
    | false => exact opsX_opsW hm ho h
  | .seq a b, _, _, _, hl, h => by
    have h1 := codeX_codeW hm ho a (fun x hx => hl x (List.mem_append_left _ hx)) h
    refine codeW_mono hm a (fun e l s q => ?_) h1
    cases e with
    | normal => exact codeX_codeW hm ho b (fun x hx => hl x (List.mem_append_right _ hx)) q
    | exit i => exact q
    | ret => exact q
  | .cond c a b, l, s, K, hl, h => by
    unfold codeX at h
    unfold codeW
    split at h
    · rename_i hc
      simp only [hc]
      exact bifW_mono (codeX_codeW hm ho a (fun x hx => hl x (List.mem_append_left _ hx))) (codeX_codeW hm ho b (fun x hx => hl x (List.mem_append_right _ hx))) h
    · exact h.elim
  | .block id a, _, _, _, hl, h => codeX_codeW hm ho a hl h
  | .loop a, l, s, K, hl, h => by
    unfold codeX at h
    split at h
    · rename_i X e; exact hl a (List.mem_singleton.2 rfl) X e l s K h
    · exact h.elim
  | .exit i, _, _, _, _, h => h
  | .ret, _, _, _, _, h => h
end
def eqL : List Value → List Value → Prop
  | [], [] => True
  | x :: s, y :: t => x = y ∧ eqL s t
  | _, _ => False
theorem eqL_eq : ∀ {a b : List Value}, eqL a b → a = b
  | [], [], _ => rfl
  | x :: s, y :: t, h => by rw [h.1, eqL_eq h.2]
  | [], _ :: _, h => h.elim
  | _ :: _, [], h => h.elim
noncomputable def blkW (s : St) (id : Nat) (cs : List Value) (e : TypeId) (ro : Bool) : Prop := match s.h.get id with
  | some (.cells cs' e' ro') => eqL cs' cs ∧ (e' = e ∧ ro' = ro)
  | _ => False
theorem blkW_get {s : St} {id : Nat} {cs : List Value} {e : TypeId} {ro : Bool} (h : blkW s id cs e ro) : s.h.get id = some (.cells cs e ro) := by
  unfold blkW at h
  split at h
  · rename_i cs' e' ro' hg; obtain ⟨h1, rfl, rfl⟩ := h; rw [hg, eqL_eq h1]
  · exact h.elim
end Go.Det
end

section
/- Loops of few rounds, unrolled, in W with other words. -/
namespace Go.Det
variable {P : Program}
theorem bifW_c {p : Prop} {A B : Prop} (h1 : p → A) (h2 : ¬ p → B) : bifW (cdec p) A B := bifW_intro (fun h => h1 (cdec_true.1 h)) (fun h => h2 (cdec_false.1 h))
theorem bifW_b {b : Bool} {A B : Prop} (h1 : b = true → A) (h2 : ¬ b = true → B) : bifW b A B := bifW_intro h1 (fun h => h2 (by rw [h]; decide))
theorem bifW_n {b : Bool} {A B : Prop} (h1 : b = true → B) (h2 : ¬ b = true → A) : bifW (!b) A B := by cases b; exact h2 (by decide); exact h1 rfl
theorem bifW_t {p : Prop} {A B : Prop} (h : p) (k : A) : bifW (cdec p) A B := bifW_c (fun _ => k) (fun q => absurd h q)
theorem bifW_f {p : Prop} {A B : Prop} (h : ¬ p) (k : B) : bifW (cdec p) A B := bifW_c (fun q => absurd q h) (fun _ => k)
noncomputable def unrX (P : Program) (cw : Cw) (ox : Nat → Option OpX) (lx : Nat → Option LpX) (a : Code) : Nat → LpX
  | 0 => fun _ _ _ => False
  | n + 1 => fun l s K => codeX P cw ox lx a l s (stepW (fun l s => unrX P cw ox lx a n l s K) K)
theorem unrX_loop {cw : Cw} {ox : Nat → Option OpX} {lx : Nat → Option LpX} (hm : CwMono cw) (ho : OxOk P cw ox) {a : Code} (hl : LxOk P cw lx (loopsOf a)) : ∀ (n : Nat) {l : Tmps} {s : St} {K : KC}, unrX P cw ox lx a n l s K → codeW P cw (.loop a) l s K
  | 0, _, _, _, h => h.elim
  | n + 1, l, s, K, h => loopW_unroll hm (codeW_mono hm a (stepW_mono (fun _ _ q => unrX_loop hm ho hl n q) fun _ _ _ q => q) (codeX_codeW hm ho a hl h))
noncomputable def ox0 (_ : Nat) : Option OpX := none
theorem ox0_ok {cw : Cw} : OxOk P cw ox0 := fun _ _ h => by cases h
noncomputable def lxN (_ : Nat) : Option LpX := none
theorem lxN_ok {cw : Cw} (l : List Code) : LxOk P cw lxN l := fun _ _ _ h => by cases h
noncomputable def lxU (P : Program) (cw : Cw) (ox : Nat → Option OpX) (ls : List Code) (n : Nat) (i : Nat) : Option LpX := match ls with
  | [] => none
  | a :: t => match Nat.beq (frst a) i with
    | true => some (unrX P cw ox lxN a n)
    | false => lxU P cw ox t n i
noncomputable def apartL : List Code → Bool
  | [] => true
  | a :: t => (t.all fun b => !Nat.beq (frst a) (frst b)) && apartL t
theorem lxU_get {cw : Cw} {ox : Nat → Option OpX} {n : Nat} : ∀ {ls : List Code}, apartL ls = true → ∀ a ∈ ls, lxU P cw ox ls n (frst a) = some (unrX P cw ox lxN a n)
  | [], _, a, ha => by cases ha
  | b :: t, h, a, ha => by
    unfold apartL at h
    rw [Bool.and_eq_true] at h
    unfold lxU
    rcases List.mem_cons.1 ha with rfl | ha
    · have : Nat.beq (frst a) (frst a) = true := Nat.beq_refl _
      simp only [this]
    · have := List.all_eq_true.1 h.1 a ha
      have : Nat.beq (frst b) (frst a) = false := by cases hq : Nat.beq (frst b) (frst a) <;> simp_all
      simp only [this]
      exact lxU_get h.2 a ha
theorem lxU_ok {cw : Cw} {ox : Nat → Option OpX} (hm : CwMono cw) (ho : OxOk P cw ox) {ls : List Code} (n : Nat) (hs : apartL ls = true) : LxOk P cw (lxU P cw ox ls n) ls := by
  intro a ha X hX l s K h
  rw [lxU_get hs a ha] at hX
  cases hX
  exact unrX_loop hm ho (lxN_ok _) n h
noncomputable def codeU (P : Program) (cw : Cw) (ox : Nat → Option OpX) (n : Nat) (c : Code) : Tmps → St → KC → Prop := codeX P cw ox (lxU P cw ox (loopsOf c) n) c
theorem codeU_codeW {cw : Cw} {ox : Nat → Option OpX} (hm : CwMono cw) (ho : OxOk P cw ox) {n : Nat} {c : Code} (hs : apartL (loopsOf c) = true) {l : Tmps} {s : St} {K : KC} (h : codeU P cw ox n c l s K) : codeW P cw c l s K :=
  codeX_codeW hm ho c (lxU_ok hm ho n hs) h
noncomputable def eqlX : OpX := fun o l s K => match o.op with
  | .binOp op _ x y _ => (match evalO l x, evalO l y with
    | .int k m, .int k' n => kindEq k k' = true ∧ (match op with
      | .eql => K (.bool (decide (m = n))) s
      | .neq => K (.bool (decide (m ≠ n))) s
      | .lss => K (.bool (decide (m < n))) s
      | .leq => K (.bool (decide (m ≤ n))) s
      | .gtr => K (.bool (decide (n < m))) s
      | .geq => K (.bool (decide (n ≤ m))) s
      | _ => False)
    | _, _ => False)
  | _ => False
theorem eqlX_ok {cw : Cw} {o : Oper} {l : Tmps} {s : St} {K : KV} (h : eqlX o l s K) : opW P cw o l s K := by
  unfold eqlX at h
  split at h
  case h_2 => exact h.elim
  rename_i op t x y q ho
  split at h
  case h_2 => exact h.elim
  rename_i k m k' n h1 h2
  obtain ⟨hk, h⟩ := h
  unfold opW
  rw [ho]
  simp only [h1, h2]
  unfold binW
  simp only [cdec_eq] at h
  split at h
  case h_7 => exact h.elim
  all_goals (simp only [hk]; exact h)
noncomputable def oxE (ds : List Nat) (n : Nat) : Option OpX := match ds with
  | [] => none
  | d :: t => match Nat.beq d n with | true => some eqlX | false => oxE t n
theorem oxE_ok {cw : Cw} : ∀ (ds : List Nat), OxOk P cw (oxE ds)
  | [], _, _, h => by cases h
  | d :: t, n, X, h => by
    unfold oxE at h
    split at h
    · cases h; exact fun o l s K => eqlX_ok
    · exact oxE_ok t n X h
end Go.Det
end

section
/- Contracts of functions that read a row (and turn nothing), and of functions that make a row of known length. -/
namespace Go.Det
variable {P : Program}
theorem resW_mono {l : Tmps} (rs : List ResultVar) : ∀ {s : St} {K K' : List Value → St → Prop}, (∀ vs s, K vs s → K' vs s) → resW P l s rs K → resW P l s rs K' := by
  induction rs with
  | nil => exact fun k h => k _ _ h
  | cons r rest ih =>
    intro s K K' k h
    cases r with
    | tmp t => exact ih (K := fun vs s => K (lget l t :: vs) s) (fun _ _ h => k _ _ h) h
    | cell a t => exact loadW_mono (fun v s h => ih (K := fun vs s => K (v :: vs) s) (fun _ _ h => k _ _ h) h) h
theorem retW_mono {fn : Func} {Q Q' : KV} (k : ∀ v s, Q v s → Q' v s) {e : Ex} {l : Tmps} {s : St} (h : retW P fn Q e l s) : retW P fn Q' e l s := by
  unfold retW at h ⊢
  cases e with
  | exit _ => exact h
  | normal => exact resW_mono _ (fun _ _ h => k _ _ h) h
  | ret => exact resW_mono _ (fun _ _ h => k _ _ h) h
noncomputable def isSl : Value → Bool
  | .float .f64 1 => true
  | .slice _ n c => Nat.ble capU c || Nat.ble n c
  | _ => false
noncomputable def decL {β : Type} (d : Value → Option β) : List Value → Option (List β)
  | [] => some []
  | v :: t => match d v with
    | some b => (match decL d t with | some r => some (b :: r) | none => none)
    | none => none
theorem decL_map {β : Type} {d : Value → Option β} {e : β → Value} (hd : ∀ v b, d v = some b → v = e b) : ∀ {l : List Value} {r : List β}, decL d l = some r → l = r.map e
  | [], r, h => by cases h; rfl
  | v :: t, r, h => by
    unfold decL at h
    split at h
    case h_2 => cases h
    rename_i b hb
    split at h
    case h_2 => cases h
    rename_i r' hr
    cases h
    rw [hd v b hb, decL_map hd hr]; rfl
noncomputable def readD {β γ δ : Type} (d : Value → Option β) (dr : List Value → Option γ) (F : List β → γ → Option δ) (enc : δ → Value) (args : List Value) (s : St) : Option (Value × St) :=
  match args with
  | v :: rest => match isSl v with
    | true => (match dr rest with
      | some g => (match lenD v with
        | some n => (match srcCells s 1 n v with
          | some x => (match decL d x.1 with
            | some l => (match F l g with | some r => some (enc r, x.2) | none => none)
            | none => none)
          | none => none)
        | none => none)
      | none => none)
    | false => none
  | [] => none
noncomputable def Con.reads {β γ δ : Type} (d : Value → Option β) (dr : List Value → Option γ) (F : List β → γ → Option δ) (enc : δ → Value) : Con where
  own := readD d dr F enc
  w := fun args s K => match args with
    | v :: rest => (match isSl v with
      | true => (match dr rest with
        | some g => (match lenD v with
          | some n => (match srcCells s 1 n v with
            | some x => (match decL d x.1 with
              | some l => ∃ r, F l g = some r ∧ K (enc r) x.2
              | none => False)
            | none => False)
          | none => False)
        | none => False)
      | false => False)
    | [] => False
  ok := by
    intro args s K h
    unfold readD
    split at h
    case h_2 => exact h.elim
    split at h
    case h_2 => exact h.elim
    rename_i h1
    split at h
    case h_2 => exact h.elim
    rename_i g h2
    split at h
    case h_2 => exact h.elim
    rename_i n h3
    split at h
    case h_2 => exact h.elim
    rename_i x h4
    split at h
    case h_2 => exact h.elim
    rename_i l h5
    obtain ⟨r, hr, hk⟩ := h
    exact ⟨enc r, x.2, by simp only [h1, h2, h3, h4, h5, hr], hk, fun K' k => ⟨r, hr, k⟩⟩
  mono := by
    intro args s K K' k h
    split at h
    case h_2 => exact h.elim
    split at h
    case h_2 => exact h.elim
    rename_i h1
    split at h
    case h_2 => exact h.elim
    rename_i g h2
    split at h
    case h_2 => exact h.elim
    rename_i n h3
    split at h
    case h_2 => exact h.elim
    rename_i x h4
    split at h
    case h_2 => exact h.elim
    rename_i l h5
    obtain ⟨r, hr, hk⟩ := h
    first | exact ⟨r, hr, k _ _ hk⟩ | (simp only [*]; exact ⟨r, hr, k _ _ hk⟩)
theorem readD_tr {β γ δ : Type} (d : Value → Option β) (dr : List Value → Option γ) (F : List β → γ → Option δ) (enc : δ → Value) (args : List Value) : Tr (readD d dr F enc args) := by
  intro s v s' h
  unfold readD at h
  split at h
  case h_2 => cases h
  rename_i v0 rest
  split at h
  case h_2 => cases h
  rename_i h1
  split at h
  case h_2 => cases h
  rename_i g h2
  split at h
  case h_2 => cases h
  rename_i n h3
  split at h
  case h_2 => cases h
  rename_i x h4
  split at h
  case h_2 => cases h
  rename_i l h5
  split at h
  case h_2 => cases h
  rename_i r h6
  cases h
  obtain ⟨a, b⟩ := srcCells_tr 1 n v0 s x.1 x.2 h4
  refine ⟨a, fun u j hbe hag hx => ?_⟩
  obtain ⟨u', e, k⟩ := b u j hbe hag hx
  exact ⟨u', by unfold readD; simp only [h1, h2, h3, e, h5, h6], k⟩
def RowAt {β : Type} (e : β → Value) (w : World) (A : Option Addr) (l : List β) : Prop :=
  l = [] ∨ ∃ b o, A = some ⟨b, o, none⟩ ∧ ∀ j x, l[j]? = some x → w.cell? ⟨b, o + j, none⟩ = some (e x)
theorem own_reads {G : Nat} {f : FuncId} {fn : Func} {c : Code} {β γ δ : Type} {d : Value → Option β} {dr : List Value → Option γ} {F : List β → γ → Option δ} {enc : δ → Value} {e : β → Value} {er : γ → List Value} {W : World} {Gd : World → Prop}
    (hW : ∀ w, Later W w → Gd w) (hf : P.funcs[f]? = some fn) (hb : fn.body = some c) (hn : (fn.name == "runtime.NumGoroutine") = false)
    (hd : ∀ v b, d v = some b → v = e b) (he : ∀ b, flat (e b) = true ∧ e b ≠ und) (hdr : ∀ r g, dr r = some g → r = er g) (her : ∀ g, flat2L (er g) = true)
    (h : ∀ l g r, F l g = some r → flat (enc r) = true ∧ enc r ≠ und ∧ ∀ w A c, Gd w → l.length ≤ c → RowAt e w A l →
      Calls P f ⟨.slice A l.length c :: er g⟩ w fun z w' => z = .returned (enc r) ∧ (w'.os = w.os ∧ w'.tape = w.tape ∧ w'.output = w.output ∧ w.heap.size ≤ w'.heap.size ∧ ∀ j, j < w.heap.size → w'.heap[j]? = w.heap[j]?)) :
    OwnAll P W G f (Con.reads d dr F enc).own := by
  refine ⟨readD_tr d dr F enc, fun W1 k1 args s v s' ed φ w args' H _ hA _ _ => ?_⟩
  change readD d dr F enc args s = some (v, s') at ed
  unfold readD at ed
  split at ed
  case h_2 => cases ed
  rename_i v0 rest
  split at ed
  case h_2 => cases ed
  rename_i h1
  split at ed
  case h_2 => cases ed
  rename_i g h2
  split at ed
  case h_2 => cases ed
  rename_i n h3
  split at ed
  case h_2 => cases ed
  rename_i x h4
  split at ed
  case h_2 => cases ed
  rename_i l h5
  split at ed
  case h_2 => cases ed
  rename_i r h6
  cases ed
  obtain rfl := hdr _ _ h2
  have hx := decL_map hd h5
  have kw : Later W w := k1.trans H.later
  obtain ⟨A, c', hA1, hlen, hc, hrow, hs⟩ : ∃ A c', args' = .slice A l.length c' :: er g ∧ n = l.length ∧ l.length ≤ c' ∧ RowAt e w A l ∧ (x.2.h = s.h ∧ s.next = x.2.next) := by
    obtain ⟨hl, hA⟩ := hA
    cases args' with
    | nil => simp at hl
    | cons u t =>
      have hv := hA 0
      simp only [List.getD_cons_zero] at hv
      have ht : VRL φ (er g) t := ⟨by simpa using hl, fun i => by have := hA (i + 1); simpa only [List.getD_cons_succ] using this⟩
      have ht := flat2L_inv (her g) ht
      subst ht
      have hll : x.1.length = l.length := by rw [hx, List.length_map]
      unfold isSl at h1
      split at h1
      ·
        cases h3
        unfold srcCells at h4
        simp only at h4
        split at h4
        case isFalse => cases h4
        cases h4
        cases hv with
        | emp a c hsp =>
          have : l = [] := List.eq_nil_of_length_eq_zero hll.symm
          subst this
          exact ⟨a, c, rfl, rfl, Nat.zero_le _, .inl rfl, rfl, rfl⟩
      · rename_i a0 m c0
        cases h3
        unfold srcCells at h4
        split at h4
        · rename_i id off n1 c1 heq
          cases heq
          have hcap : ∃ b sh sz cc, u = .slice (some ⟨b, sh + off, none⟩) n cc ∧ φ id = some (b, sh, sz) ∧ n ≤ cc := by
            cases hv with
            | slice _ _ b sh sz _ _ hφ hlt =>
              refine ⟨b, sh, sz, c0, rfl, hφ, ?_⟩
              rcases Bool.or_eq_true_iff.1 h1 with q | q
              · have := Nat.le_of_ble_eq_true q; omega
              · exact Nat.le_of_ble_eq_true q
            | sliceU _ _ b sh sz _ cc _ hφ _ _ hle => exact ⟨b, sh, sz, cc, rfl, hφ, hle⟩
          obtain ⟨b, sh, sz, cc, rfl, hφ, hle⟩ := hcap
          split at h4
          · rename_i h0
            have h0 : n * 1 = 0 := Nat.eq_of_beq_eq_true h0
            cases h4
            have : l = [] := List.eq_nil_of_length_eq_zero hll.symm
            subst this
            have : n = 0 := by omega
            subst this
            exact ⟨_, cc, rfl, rfl, Nat.zero_le _, .inl rfl, rfl, rfl⟩
          · split at h4
            case h_2 => cases h4
            rename_i cs e0 ro hg
            split at h4
            case h_2 => cases h4
            rename_i r0 hr0
            cases h4
            simp only at hx hll
            rw [ldrop_eq] at hr0
            obtain ⟨e1, e2⟩ := ltake_some hr0
            rw [Nat.mul_one] at e1 e2
            have hn : n = l.length := by rw [← hll, e1, List.length_take]; omega
            subst hn
            refine ⟨_, cc, rfl, rfl, hle, .inr ⟨b, sh + off, rfl, fun j y hj => ?_⟩, rfl, rfl⟩
            obtain ⟨b2, sh2, sz2, c2, fz, q⟩ := H.cells _ _ _ _ hg
            have := q.at_
            rw [hφ] at this; cases this
            have hjl : j < l.length := (List.getElem?_eq_some_iff.1 hj).1
            have hcs : cs.getD (off + j) und = e y := by
              have h7 : r0[j]? = some (e y) := by rw [hx, List.getElem?_map, hj]; rfl
              rw [e1, List.getElem?_take, if_pos hjl, List.getElem?_drop] at h7
              rw [List.getD_eq_getElem?_getD, h7]; rfl
            have hlt : off + j < cs.length := by rw [List.length_drop] at e2; omega
            have hv := q.cell (off + j) hlt
            rw [hcs] at hv
            have hv := flat_inv (he y).1 hv (he y).2
            unfold World.cell?
            rw [q.blk]
            simp only [Option.isSome_none, Bool.false_eq_true, if_false]
            have hfit := q.fit
            have hsz := q.size
            rw [Array.getD_eq_getD_getElem?, Array.getElem?_eq_getElem (by omega)] at hv
            rw [show sh + off + j = sh + (off + j) by omega, Array.getElem?_eq_getElem (by omega)]
            simpa using hv
        · rename_i n1 c1 heq
          cases heq
          split at h4
          case isFalse => cases h4
          rename_i h0
          cases h4
          have h0 : n = 0 := Nat.eq_of_beq_eq_true h0
          subst h0
          have : l = [] := List.eq_nil_of_length_eq_zero hll.symm
          subst this
          cases hv with
          | snil _ _ hlt => exact ⟨none, c0, rfl, rfl, Nat.zero_le _, .inl rfl, rfl, rfl⟩
        · rename_i heq; cases heq
        · rename_i heq; cases heq
        · cases h4
      · cases h1
  obtain ⟨f1, f2, f3⟩ := h l g r h6
  rw [hA1, callFunc_run hf hb hn]
  refine (f3 w A c' (hW w kw) hc hrow).mono ?_
  rintro z W' ⟨rfl, o1, o2, o3, o4, o5⟩
  refine ⟨_, φ, rfl, Ext.refl _ _ _, flat_self f1 _, ?_⟩
  rw [hs.1]
  exact H.keep ⟨o1, o3, o4, o5⟩ o2
noncomputable def Con.made {α : Type} (dec : List Value → Option α) (F : α → Option (List Value)) (n : Nat) (e : TypeId) : Con where
  own := fun args s => match dec args with
    | some a => (match F a with
      | some cs => some (.slice (some ⟨s.next, 0, none⟩) n n, s.new (.cells cs e false))
      | none => none)
    | none => none
  w := fun args s K => match dec args with
    | some a => ∃ cs, F a = some cs ∧ K (.slice (some ⟨s.next, 0, none⟩) n n) (s.new (.cells cs e false))
    | none => False
  ok := by
    intro args s K h
    split at h
    · rename_i a ha
      obtain ⟨cs, hr, hk⟩ := h
      exact ⟨_, _, by simp only [ha, hr], hk, fun K' k => ⟨cs, hr, k⟩⟩
    · exact h.elim
  mono := by
    intro args s K K' k h
    split at h
    · obtain ⟨cs, hr, hk⟩ := h
      exact ⟨cs, hr, k _ _ hk⟩
    · exact h.elim
theorem own_made {cw : Cw} {W : World} {G : Nat} {l : List (Nat × Own)} {h : Heap} {f : FuncId} {fn : Func} {c : Code} {α : Type} {dec : List Value → Option α} {F : α → Option (List Value)} {n : Nat} {e : TypeId} (enc : α → List Value) (L : Laying G W h) (hGW : G ≤ W.heap.size) (hG64 : G ≤ 64)
    (hm : P.follows .mixedOrders = true) (hl : OwnsAll P W G l) (ho : CwOk (ownCall l) cw) (hf : P.funcs[f]? = some fn) (hb : fn.body = some c) (hok : okFunc G fn = true) (hn : n < capU)
    (hdec : ∀ args a, dec args = some a → args = enc a) (hflat : ∀ a, flat2L (enc a) = true ∧ Nat.ble (enc a).length fn.ntmps = true)
    (hF : ∀ a cs, F a = some cs → (∀ v ∈ cs, flat v = true) ∧ codeW P cw c (inTab (enc a) 8) (birth h 64) (retW P fn fun v' s' => ∃ k, v' = .slice (some ⟨k, 0, none⟩) n n ∧ s'.h.get k = some (.cells cs e false))) : OwnAll P W G f (Con.made dec F n e).own := by
  refine ⟨fun args => ?_, fun W1 k1 args s v s' ed φ w args' H _ hA hfr _ => ?_⟩
  · refine new_tr (match dec args with
      | some a => (match F a with
        | some cs => some (Blk.cells cs e false, fun k => Value.slice (some ⟨k, 0, none⟩) n n)
        | none => none)
      | none => none) fun s => ?_
    show (match dec args with
      | some a => (match F a with
        | some cs => some (Value.slice (some ⟨s.next, 0, none⟩) n n, s.new (.cells cs e false))
        | none => none)
      | none => none) = _
    cases dec args with
    | none => rfl
    | some a =>
      simp only
      cases F a with
      | none => rfl
      | some r => rfl
  · have e0 : (match dec args with
      | some a => (match F a with
        | some cs => some (Value.slice (some ⟨s.next, 0, none⟩) n n, s.new (.cells cs e false))
        | none => none)
      | none => none) = some (v, s') := ed
    split at e0
    case h_2 => cases e0
    rename_i a ha
    split at e0
    case h_2 => cases e0
    rename_i cs hr
    cases e0
    obtain rfl := hdec _ _ ha
    obtain ⟨h1, h4⟩ := hF a cs hr
    have hnn : (fn.name == "runtime.NumGoroutine") = false := by
      unfold okFunc at hok
      rw [hb] at hok
      simp only [Bool.and_eq_true, Bool.not_eq_true'] at hok
      exact hok.2
    rw [flat2L_inv (hflat a).1 hA, callFunc_run hf hb hnn]
    have kw : Later W w := k1.trans H.later
    have Lw := L.move kw.size kw.old hGW
    refine (fnW_calls (P := P) (w0 := w) (φ0 := glob G w) (G := G) ho (ownCall_ok hl kw) (ownCall_tr hl) hm (glob_glob G w) (fun id q => glob_top G w hG64 id q) hf hb hok (hflat a).2 Lw.hr (flat2L_self (hflat a).1 _) (fun id q => glob_top G w hG64 id q) (fun id q => Lw.top id (Nat.le_trans hG64 q)) (Nat.le_refl 64) h4).mono ?_
    rintro z W' ⟨v1, v', s1, φ', rfl, ⟨k0, rfl, hg⟩, hv, H', _, _⟩
    obtain ⟨b, sh, sz, c2, fz, q⟩ := H'.cells _ _ _ _ hg
    have hv' : v' = .slice (some ⟨b, sh + 0, none⟩) n n := by
      cases hv with
      | slice _ _ b2 sh2 sz2 _ _ hφ _ =>
        have := q.at_
        rw [hφ] at this
        cases this
        rfl
      | sliceU _ _ b2 sh2 sz2 _ _ _ hφ => omega
    subst hv'
    have hnew : φ s.next = none := hfr s.next (Nat.le_refl _) (by show s.next < Nat.max s.hi (s.next + 1); exact Nat.lt_of_lt_of_le (Nat.lt_succ_self _) (Nat.le_max_right _ _))
    have hmine := q.mine rfl
    refine ⟨_, upd φ s.next (b, sh, sz), rfl, Ext.upd hnew _, VR.slice _ _ _ _ _ _ _ (upd_same _ _ _) hn, ?_⟩
    refine H.adopt (w' := W') hnew H'.os H'.output H'.tape H'.size (fun j hj _ => H'.old j hj) (Nat.le_trans H.size hmine.1) (fz := fz) (c := c2) q.blk q.exact_ ?_ q.size q.fit (fun i hi => ?_) (fun _ => hmine.2) (fun O qq => by rw [Array.getElem?_eq_none hmine.1] at qq; cases qq)
    · intro j cj ej rj bj sj zj _ a'
      have := H.dom _ _ _ _ a'
      omega
    · have := q.cell i hi
      have hm : cs.getD i und ∈ cs := by rw [List.getD_eq_getElem?_getD, List.getElem?_eq_getElem hi]; exact List.getElem_mem hi
      exact flat_any (h1 _ hm) this
end Go.Det
end

section
/- Texts joined by a sign and split at it again; texts cut at two signs. Plain laws, no program. -/
namespace Go.Det.Txt
open Go.Lib
theorem occ_one (c : UInt8) (s : List UInt8) (j : Nat) : occAt s [c] j = true ↔ s[j]? = some c := by
  unfold occAt
  cases h : s.drop j with
  | nil =>
    have : s.length ≤ j := List.drop_eq_nil_iff.1 h
    rw [List.getElem?_eq_none this]
    simp [List.isPrefixOf]
  | cons x t =>
    have : s[j]? = some x := by
      have : (s.drop j)[0]? = some x := by rw [h]; rfl
      simpa using this
    rw [this]
    simp [List.isPrefixOf]
    exact eq_comm
theorem index_no {c : UInt8} {s : List UInt8} (h : c ∉ s) : index s [c] = -1 := by
  refine index_none fun j _ => ?_
  cases hq : occAt s [c] j with
  | false => rfl
  | true => exact absurd (List.mem_of_getElem? ((occ_one c s j).1 hq)) h
theorem index_at {c : UInt8} {p t : List UInt8} (h : c ∉ p) : index (p ++ c :: t) [c] = (p.length : Int) := by
  refine index_first (by simp) ((occ_one _ _ _).2 (by simp)) fun j hj => ?_
  cases hq : occAt (p ++ c :: t) [c] j with
  | false => rfl
  | true =>
    have := (occ_one _ _ _).1 hq
    rw [List.getElem?_append_left hj] at this
    exact absurd (List.mem_of_getElem? this) h
theorem join_more (p q : List UInt8) (r : List (List UInt8)) (c : UInt8) : join (p :: q :: r) [c] = p ++ c :: join (q :: r) [c] := by
  rw [join_cons, join_cons]
  simp [joinTail, List.append_assoc]
theorem drop_at (p t : List UInt8) (c : UInt8) : (p ++ c :: t).drop (p.length + 1) = t := by
  rw [List.drop_append, List.drop_eq_nil_of_le (by omega), Nat.add_sub_cancel_left]; rfl
theorem split_join {c : UInt8} : ∀ (ps : List (List UInt8)), ps ≠ [] → (∀ p ∈ ps, c ∉ p) → split (join ps [c]) [c] = ps
  | [], h, _ => absurd rfl h
  | [p], _, h => by
    have hi := index_no (h p List.mem_cons_self)
    unfold split
    rw [join_one, count_miss hi]
    rfl
  | p :: q :: r, _, h => by
    have hp := h p List.mem_cons_self
    have ih := split_join (q :: r) (by simp) fun x hx => h x (List.mem_cons_of_mem _ hx)
    rw [join_more]
    have hi := index_at (t := join (q :: r) [c]) hp
    unfold split at ih ⊢
    rw [count_hit (by simp) hi]
    show splitK [c] 0 (1 + count ((p ++ c :: join (q :: r) [c]).drop (p.length + 1)) [c]) _ = _
    rw [drop_at, Nat.add_comm 1]
    unfold splitK
    have : ((index (p ++ c :: join (q :: r) [c]) [c]) == -1) = false := by rw [hi, beq_eq_false_iff_ne]; omega
    rw [this, hi]
    simp only [Bool.false_eq_true, if_false, Int.toNat_natCast, Nat.add_zero]
    show _ :: splitK [c] 0 _ ((p ++ c :: join (q :: r) [c]).drop (p.length + 1)) = _
    rw [drop_at, ih, List.take_append_of_le_length (Nat.le_refl _), List.take_length]
theorem splitB_join {c : UInt8} (ps : List (List UInt8)) (h : ps ≠ []) (hc : ∀ p ∈ ps, c ∉ p) : splitB ⟨#[c]⟩ 0 (countB ⟨(join ps [c]).toArray⟩ ⟨#[c]⟩) ⟨(join ps [c]).toArray⟩ = ps.map fun p => ⟨p.toArray⟩ := by
  have h1 := splitB_data ⟨#[c]⟩ 0 (countB ⟨(join ps [c]).toArray⟩ ⟨#[c]⟩) ⟨(join ps [c]).toArray⟩
  have h2 := split_join ps h hc
  unfold split at h2
  have h3 : (splitB ⟨#[c]⟩ 0 (countB ⟨(join ps [c]).toArray⟩ ⟨#[c]⟩) ⟨(join ps [c]).toArray⟩).map (·.data.toList) = ps := h1.trans h2
  have h4 := congrArg (List.map fun p : List UInt8 => (⟨p.toArray⟩ : ByteArray)) h3
  rw [List.map_map] at h4
  rw [← h4]
  exact (List.map_id'' (fun _ => rfl) _).symm
def twice (c : UInt8) : List UInt8 → Bool
  | x :: y :: t => (x == c && y == c) || twice c (y :: t)
  | _ => false
theorem twice_cons {c x : UInt8} (h : x ≠ c) (t : List UInt8) : twice c (x :: t) = twice c t := by
  cases t with
  | nil => rfl
  | cons y t => simp [twice, h]
theorem twice_append {c : UInt8} : ∀ {p : List UInt8}, c ∉ p → ∀ t, twice c (p ++ t) = twice c t
  | [], _, t => rfl
  | x :: p, h, t => by
    rw [List.cons_append, twice_cons (fun e => h (by rw [e]; exact List.mem_cons_self)), twice_append (fun e => h (List.mem_cons_of_mem _ e))]
theorem twice_join {c : UInt8} : ∀ (ps : List (List UInt8)), (∀ p ∈ ps, c ∉ p ∧ p ≠ []) → ∀ t, twice c (join ps [c] ++ t) = twice c t
  | [], _, t => rfl
  | [p], h, t => by rw [join_one]; exact twice_append (h p List.mem_cons_self).1 t
  | p :: q :: r, h, t => by
    rw [join_more, List.append_assoc, twice_append (h p List.mem_cons_self).1, List.cons_append]
    have ih := twice_join (q :: r) (fun x hx => h x (List.mem_cons_of_mem _ hx)) t
    obtain ⟨h1, h2⟩ := h q (List.mem_cons_of_mem _ List.mem_cons_self)
    cases q with
    | nil => exact absurd rfl h2
    | cons x q =>
      have hx : x ≠ c := fun e => h1 (by rw [e]; exact List.mem_cons_self)
      rw [join_cons] at ih ⊢
      rw [← ih]
      simp [twice, hx]
theorem occ_two {c : UInt8} : ∀ {s : List UInt8} {j : Nat}, occAt s [c, c] j = true → ∃ a b, s = a ++ c :: c :: b ∧ a.length = j
  | s, j, h => by
    unfold occAt at h
    obtain ⟨b, hb⟩ := List.isPrefixOf_iff_prefix.1 h
    refine ⟨s.take j, b, ?_, ?_⟩
    · have : s.drop j = c :: c :: b := by rw [← hb]; rfl
      rw [← this, List.take_append_drop]
    · rw [List.length_take]
      have : (s.drop j).length = b.length + 2 := by rw [← hb]; simp
      rw [List.length_drop] at this
      omega
theorem twice_mid {c : UInt8} : ∀ (a b : List UInt8), twice c (a ++ c :: c :: b) = true
  | [], b => by simp [twice]
  | [x], b => by simp [twice]
  | x :: y :: a, b => by
    have := twice_mid (c := c) (y :: a) b
    simp only [List.cons_append] at this ⊢
    simp [twice, this]
theorem occ_none {c : UInt8} {s : List UInt8} (h : twice c s = false) (j : Nat) : occAt s [c, c] j = false := by
  cases hq : occAt s [c, c] j with
  | false => rfl
  | true =>
    obtain ⟨a, b, rfl, _⟩ := occ_two hq
    rw [twice_mid] at h
    cases h
theorem cut_miss {c : UInt8} {s : List UInt8} (h : twice c s = false) : cut s [c, c] = (s, [], false) := by
  unfold cut
  rw [index_none fun j _ => occ_none h j]
  rfl
theorem cut_hit {c : UInt8} {a : List UInt8} (b : List UInt8) (h : twice c (a ++ [c]) = false) : cut (a ++ c :: c :: b) [c, c] = (a, b, true) := by
  have hi : index (a ++ c :: c :: b) [c, c] = (a.length : Int) := by
    refine index_first (by simp) ?_ fun j hj => ?_
    · unfold occAt
      rw [List.drop_left]
      simp [List.isPrefixOf]
    · cases hq : occAt (a ++ c :: c :: b) [c, c] j with
      | false => rfl
      | true =>
        exfalso
        obtain ⟨x, y, e, hx⟩ := occ_two hq
        have e1 : (a ++ [c]).take (j + 2) = x ++ [c, c] := by
          have : (a ++ c :: c :: b).take (j + 2) = x ++ [c, c] := by
            rw [e, List.take_append, List.take_of_length_le (by omega), hx, show j + 2 - j = 2 by omega]; rfl
          have e3 : ((a ++ [c]) ++ c :: b).take (j + 2) = (a ++ [c]).take (j + 2) := List.take_append_of_le_length (by rw [List.length_append, List.length_singleton]; omega)
          rw [← e3, ← this]
          simp
        have e2 : a ++ [c] = x ++ c :: c :: (a ++ [c]).drop (j + 2) := by
          conv => lhs; rw [← List.take_append_drop (j + 2) (a ++ [c]), e1]
          simp
        rw [e2, twice_mid] at h
        cases h
  unfold cut
  rw [if_pos (by rw [hi]; omega), hi, Int.toNat_natCast]
  simp only [List.take_left, List.length_cons, List.length_nil]
  rw [List.drop_append, List.drop_eq_nil_of_le (by omega), Nat.add_sub_cancel_left]
  rfl
theorem contains_no {c : UInt8} {s : List UInt8} (h : c ∉ s) : contains s [c] = false := by
  unfold contains; rw [index_no h]; rfl
theorem contains_yes {c : UInt8} {s : List UInt8} (h : c ∈ s) : contains s [c] = true := by
  obtain ⟨a, b, rfl⟩ := List.append_of_mem h
  unfold contains
  rcases index_spec (a ++ c :: b) [c] with ⟨_, h2⟩ | ⟨i, h1, _⟩
  · have := h2 a.length (by simp)
    rw [(occ_one c _ _).2 (by simp)] at this
    cases this
  · rw [h1]; exact decide_eq_true (by omega)
theorem not_mem_join {c d : UInt8} (hd : d ≠ c) : ∀ (ps : List (List UInt8)), (∀ p ∈ ps, d ∉ p) → d ∉ join ps [c]
  | [], _ => by simp [join_nil]
  | [p], h => by rw [join_one]; exact h p List.mem_cons_self
  | p :: q :: r, h => by
    rw [join_more]
    simp only [List.mem_append, List.mem_cons, not_or]
    exact ⟨h p List.mem_cons_self, hd, not_mem_join hd (q :: r) fun x hx => h x (List.mem_cons_of_mem _ hx)⟩
end Go.Det.Txt
end

section
/- Numbers told in ten and in sixteen signs. Plain laws, no program. -/
namespace Go.Det.Txt
open Go.Lib
def dg (n : Nat) : UInt8 := if n < 10 then UInt8.ofNat (48 + n) else UInt8.ofNat (87 + n)
def decT (n : Nat) : List UInt8 := if n < 10 then [dg n] else if n < 100 then [dg (n / 10), dg (n % 10)] else [dg (n / 100), dg (n / 10 % 10), dg (n % 10)]
def hexT (n : Nat) : List UInt8 := if n < 16 then [dg n] else if n < 256 then [dg (n / 16), dg (n % 16)] else if n < 4096 then [dg (n / 256), dg (n / 16 % 16), dg (n % 16)] else [dg (n / 4096), dg (n / 256 % 16), dg (n / 16 % 16), dg (n % 16)]
def digits16 : List UInt8 := [48, 49, 50, 51, 52, 53, 54, 55, 56, 57, 97, 98, 99, 100, 101, 102]
theorem dg_all : ∀ k : Fin 16, indexByte digits16 (dg k.val ||| 32) = (k.val : Int) ∧ 48 ≤ (dg k.val).toNat ∧ (dg k.val).toNat ≤ 102 ∧ dg k.val ≠ 58 ∧ dg k.val ≠ 47 ∧ dg k.val ≠ 46 ∧ dg k.val ≠ 45 := by decide +kernel
def sgn (c : UInt8) : Bool := c == 58 || c == 47 || c == 46 || c == 45
theorem dg_sgn {k : Nat} (h : k < 16) {c : UInt8} (hc : sgn c = true) : c ≠ dg k := by
  obtain ⟨_, _, _, a, b, d, e⟩ := dg_all ⟨k, h⟩
  rintro rfl
  simp [sgn] at hc
  rcases hc with ((hc | hc) | hc) | hc
  · exact a hc
  · exact b hc
  · exact d hc
  · exact e hc
theorem hexT_sgn {n : Nat} (h : n < 65536) {c : UInt8} (hc : sgn c = true) : c ∉ hexT n := by
  unfold hexT
  have q := fun (k : Nat) (h : k < 16) => dg_sgn h hc
  split
  · simp [q n (by omega)]
  · split
    · simp [q (n / 16) (by omega), q (n % 16) (by omega)]
    · split
      · simp [q (n / 256) (by omega), q (n / 16 % 16) (by omega), q (n % 16) (by omega)]
      · simp [q (n / 4096) (by omega), q (n / 256 % 16) (by omega), q (n / 16 % 16) (by omega), q (n % 16) (by omega)]
theorem decT_sgn {n : Nat} (h : n < 256) {c : UInt8} (hc : sgn c = true) : c ∉ decT n := by
  unfold decT
  have q := fun (k : Nat) (h : k < 16) => dg_sgn h hc
  split
  · simp [q n (by omega)]
  · split
    · simp [q (n / 10) (by omega), q (n % 10) (by omega)]
    · simp [q (n / 100) (by omega), q (n / 10 % 10) (by omega), q (n % 10) (by omega)]
theorem hexT_ne (n : Nat) : hexT n ≠ [] := by
  unfold hexT
  split
  · simp
  · split
    · simp
    · split <;> simp
theorem decT_ne (n : Nat) : decT n ≠ [] := by
  unfold decT
  split
  · simp
  · split <;> simp
theorem hexT_len (n : Nat) : 1 ≤ (hexT n).length ∧ (hexT n).length ≤ 4 := by
  unfold hexT
  split
  · simp
  · split
    · simp
    · split <;> simp
end Go.Det.Txt
end

section
/- The library's functions on texts, as contracts of calls in W. No conditions. -/
namespace Go.Proofs.YtfnacgojmdbjmaaDoor
open Go.Det Go.RowKit Go.Proofs.YtfnacgojmdbjmaaDoorW.PrintWords
set_option maxRecDepth 100000
def dig16 : ByteArray := { data := #[48, 49, 50, 51, 52, 53, 54, 55, 56, 57, 97, 98, 99, 100, 101, 102] }
noncomputable def decSB : List Value → Option (ByteArray × Int)
  | [.string s, .int .u8 c] => some (s, c)
  | _ => none
noncomputable def decSS : List Value → Option (ByteArray × ByteArray)
  | [.string s, .string t] => some (s, t)
  | _ => none
def idxF (s : ByteArray) (c : Int) : Option Int := some (Lib.indexByte s.data.toList c.toNat.toUInt8)
def cutF (s t : ByteArray) : Option (ByteArray × ByteArray × Bool) := if s.size < 4294967281 then some (cutB s t) else none
def conF (s t : ByteArray) : Option Bool := if s.size < 4294967281 then some (Lib.contains s.data.toList t.data.toList) else none
def joinF (l : List ByteArray) (t : ByteArray) : Option ByteArray := if (joinB l t).size ≤ 140737488355328 ∧ l.length ≤ 140737488355328 then some (joinB l t) else none
noncomputable def con92 : Con := Con.opt decSB (fun x => idxF x.1 x.2) fun r => .int .i64 r
noncomputable def con60 : Con := Con.opt decSS (fun x => cutF x.1 x.2) fun y => .tuple #[.string y.1, .string y.2.1, .bool y.2.2]
noncomputable def con51 : Con := Con.opt decSS (fun x => conF x.1 x.2) fun b => .bool b
theorem om92 {W : World} (hW : GoodW W) : OwnAll Tryd.prog W 6 92 con92.own := by
  refine own_of_calls (fn := Tryd.f92) (c := bodyOf Tryd.f92) hW Tryd.func92 (by kernel_rfl) (by kernel_rfl) fun args v h => ?_
  split at h
  case h_2 => cases h
  rename_i a ha
  split at h
  case h_2 => cases h
  rename_i b hb
  cases h
  unfold decSB at ha
  split at ha
  case h_2 => cases ha
  cases ha
  exact ⟨rfl, rfl, fun w hG => (st_indexByte hb).mono fun e w' h => ⟨h.1, h.2.below⟩⟩
theorem om60 {W : World} (hW : GoodW W) : OwnAll Tryd.prog W 6 60 con60.own := by
  refine own_of_calls (fn := Tryd.f60) (c := bodyOf Tryd.f60) hW Tryd.func60 (by kernel_rfl) (by kernel_rfl) fun args v h => ?_
  split at h
  case h_2 => cases h
  rename_i a ha
  split at h
  case h_2 => cases h
  rename_i b hb
  cases h
  unfold decSS at ha
  split at ha
  case h_2 => cases ha
  cases ha
  exact ⟨rfl, rfl, fun w hG => (st_cut hG hb).mono fun e w' h => ⟨h.1, h.2.below⟩⟩
theorem om51 {W : World} (hW : GoodW W) : OwnAll Tryd.prog W 6 51 con51.own := by
  refine own_of_calls (fn := Tryd.f51) (c := bodyOf Tryd.f51) hW Tryd.func51 (by kernel_rfl) (by kernel_rfl) fun args v h => ?_
  split at h
  case h_2 => cases h
  rename_i a ha
  split at h
  case h_2 => cases h
  rename_i b hb
  cases h
  unfold decSS at ha
  split at ha
  case h_2 => cases ha
  cases ha
  exact ⟨rfl, rfl, fun w hG => (st_contains hG hb).mono fun e w' h => ⟨h.1, h.2.below⟩⟩
noncomputable def dStr : Value → Option ByteArray
  | .string s => some s
  | _ => none
noncomputable def dS1 : List Value → Option ByteArray
  | [.string s] => some s
  | _ => none
noncomputable def con55 : Con := Con.reads dStr dS1 joinF fun r => .string r
theorem om55 {W : World} (hW : GoodW W) : OwnAll Tryd.prog W 6 55 con55.own := by
  refine own_reads (fn := Tryd.f55) (c := bodyOf Tryd.f55) (e := Value.string) (er := fun s => [.string s]) (Gd := GoodW) (fun w k => hW.later k.size k.old) Tryd.func55 (by kernel_rfl) (by kernel_rfl) (fun v b h => ?_) (fun b => ⟨rfl, by intro h; cases h⟩) (fun r g h => ?_) (fun _ => rfl) fun l g r hF => ⟨rfl, (by intro h; cases h), fun w A c hG hc hR => ?_⟩
  · unfold dStr at h
    split at h
    · cases h; rfl
    · cases h
  · unfold dS1 at h
    split at h
    · cases h; rfl
    · cases h
  · unfold joinF at hF
    split at hF
    case isFalse => cases hF
    rename_i hs
    cases hF
    cases l with
    | nil =>
      refine (Tryd.strings_Join_none A c g w).mono ?_
      rintro e w' ⟨rfl, rfl⟩
      exact ⟨rfl, rfl, rfl, rfl, Nat.le_refl _, fun _ _ => rfl⟩
    | cons x t =>
      rcases hR with hR | ⟨b, o, rfl, hcell⟩
      · cases hR
      have h0 := hcell 0 x rfl
      refine (Tryd.strings_Join b o c (x :: t) g w hcell ?_ hs.2 hc ?_).mono ?_
      · exact World.block_lt_of_cell? w _ h0
      · have := hs.1
        unfold joinB at this
        simpa [ByteArray.size] using this
      · rintro e w' ⟨rfl, hB⟩
        exact ⟨rfl, hB.os, hB.tape, hB.output, hB.size, hB.block⟩
end Go.Proofs.YtfnacgojmdbjmaaDoor
end

section
/- Conditions, reckoned by the kernel. -/
namespace Go.Proofs.YtfnacgojmdbjmaaDoor
open Go.Det Go.RowKit  Go.Proofs.YtfnacgojmdbjmaaDoorW.PrintWords
set_option maxRecDepth 100000
abbrev zl (l : List UInt8) : Int := (↑(ByteArray.size { data := { toList := l } }) : Int)
abbrev zF : Value := Value.tuple #[Value.int .u64 0, Value.bool false]
abbrev zu (a : UInt8) : Int := (↑(UInt8.toNat a) : Int)
abbrev zd (a : UInt8) : Int := IntKind.wrap .u64 (IntKind.wrap .u8 (zu a - 48))
abbrev zn (n : Int) (a : UInt8) : Int := IntKind.wrap .u64 (IntKind.wrap .u64 (10 * n) + zd a)
abbrev zs (Q : Value → Prop) (m n : Int) (a : UInt8) (r : Prop) : Prop := bifW (cdec (zu a < 48)) (Q zF) (bifW (cdec (57 < zu a)) (Q zF) (((10 : Int) ≠ 0) ∧ bifW (cdec (IntKind.wrap .u64 (Int.tdiv m 10) < n)) (Q zF) (bifW (cdec (IntKind.wrap .u64 (m - if m < zd a then m else zd a) < IntKind.wrap .u64 (10 * n))) (Q zF) r)))
abbrev zh (Q : Value → Prop) (a : UInt8) (r : Int → Prop) : Prop := ∃ x : Int, (idxF dig16 (orI .u8 (zu a) 32) = some x) ∧ bifW (cdec (x < 0)) (Q zF) (bifW (cdec (zu a < 48)) (Q zF) (((0 : Int) ≤ 4) ∧ r x))
noncomputable abbrev zN (n : Nat) (l : List UInt8) (m : Int) (Q : Value → Prop) : Prop := codeU Tryd.prog (cwC []) ox0 n (bodyOf Tryd.f61) (inTab [.string ⟨⟨l⟩⟩, .int .u64 m] 8) (birth [] 64) (retW Tryd.prog Tryd.f61 fun v _ => Q v)
noncomputable abbrev zH (n : Nat) (l : List UInt8) (Q : Value → Prop) : Prop := codeU Tryd.prog (cwC [(92, con92)]) ox0 n (bodyOf Tryd.f83) (inTab [.string ⟨⟨l⟩⟩] 8) (birth [] 64) (retW Tryd.prog Tryd.f83 fun v _ => Q v)
theorem vh0 (Q : Value → Prop) : zH 5 [] Q = (bifW (cdec ((zl []) < 1)) (Q zF) (bifW (cdec (4 < (zl []))) (Q zF) (bifW (cdec (0 < (zl []))) (((((0 : Int) ≤ 0) ∧ (0 < (zl []))) ∧ False)) (Q (Value.tuple #[Value.int .u64 0, Value.bool true]))))) := by kernel_rfl
theorem vh1 (a : UInt8) (Q : Value → Prop) : zH 5 [a] Q = (bifW (cdec ((zl [a]) < 1)) (Q zF) (bifW (cdec (4 < (zl [a]))) (Q zF) (bifW (cdec (0 < (zl [a]))) (((((0 : Int) ≤ 0) ∧ (0 < (zl [a]))) ∧ (zh Q a fun x0 => bifW (cdec (1 < (zl [a]))) (((((0 : Int) ≤ 1) ∧ (1 < (zl [a]))) ∧ False)) (Q (Value.tuple #[Value.int .u64 (orI .u64 (shlI .u64 0 4) (IntKind.wrap .u64 x0)), Value.bool true]))))) (Q (Value.tuple #[Value.int .u64 0, Value.bool true]))))) := by kernel_rfl
theorem vh2 (a b : UInt8) (Q : Value → Prop) : zH 5 [a, b] Q = (bifW (cdec ((zl [a, b]) < 1)) (Q zF) (bifW (cdec (4 < (zl [a, b]))) (Q zF) (bifW (cdec (0 < (zl [a, b]))) (((((0 : Int) ≤ 0) ∧ (0 < (zl [a, b]))) ∧ (zh Q a fun x0 => bifW (cdec (1 < (zl [a, b]))) (((((0 : Int) ≤ 1) ∧ (1 < (zl [a, b]))) ∧ (zh Q b fun x1 => bifW (cdec (2 < (zl [a, b]))) (((((0 : Int) ≤ 2) ∧ (2 < (zl [a, b]))) ∧ False)) (Q (Value.tuple #[Value.int .u64 (orI .u64 (shlI .u64 (orI .u64 (shlI .u64 0 4) (IntKind.wrap .u64 x0)) 4) (IntKind.wrap .u64 x1)), Value.bool true]))))) (Q (Value.tuple #[Value.int .u64 (orI .u64 (shlI .u64 0 4) (IntKind.wrap .u64 x0)), Value.bool true]))))) (Q (Value.tuple #[Value.int .u64 0, Value.bool true]))))) := by kernel_rfl
theorem vh3 (a b c : UInt8) (Q : Value → Prop) : zH 5 [a, b, c] Q = (bifW (cdec ((zl [a, b, c]) < 1)) (Q zF) (bifW (cdec (4 < (zl [a, b, c]))) (Q zF) (bifW (cdec (0 < (zl [a, b, c]))) (((((0 : Int) ≤ 0) ∧ (0 < (zl [a, b, c]))) ∧ (zh Q a fun x0 => bifW (cdec (1 < (zl [a, b, c]))) (((((0 : Int) ≤ 1) ∧ (1 < (zl [a, b, c]))) ∧ (zh Q b fun x1 => bifW (cdec (2 < (zl [a, b, c]))) (((((0 : Int) ≤ 2) ∧ (2 < (zl [a, b, c]))) ∧ (zh Q c fun x2 => bifW (cdec (3 < (zl [a, b, c]))) (((((0 : Int) ≤ 3) ∧ (3 < (zl [a, b, c]))) ∧ False)) (Q (Value.tuple #[Value.int .u64 (orI .u64 (shlI .u64 (orI .u64 (shlI .u64 (orI .u64 (shlI .u64 0 4) (IntKind.wrap .u64 x0)) 4) (IntKind.wrap .u64 x1)) 4) (IntKind.wrap .u64 x2)), Value.bool true]))))) (Q (Value.tuple #[Value.int .u64 (orI .u64 (shlI .u64 (orI .u64 (shlI .u64 0 4) (IntKind.wrap .u64 x0)) 4) (IntKind.wrap .u64 x1)), Value.bool true]))))) (Q (Value.tuple #[Value.int .u64 (orI .u64 (shlI .u64 0 4) (IntKind.wrap .u64 x0)), Value.bool true]))))) (Q (Value.tuple #[Value.int .u64 0, Value.bool true]))))) := by kernel_rfl
theorem vh4 (a b c d : UInt8) (Q : Value → Prop) : zH 5 [a, b, c, d] Q = (bifW (cdec ((zl [a, b, c, d]) < 1)) (Q zF) (bifW (cdec (4 < (zl [a, b, c, d]))) (Q zF) (bifW (cdec (0 < (zl [a, b, c, d]))) (((((0 : Int) ≤ 0) ∧ (0 < (zl [a, b, c, d]))) ∧ (zh Q a fun x0 => bifW (cdec (1 < (zl [a, b, c, d]))) (((((0 : Int) ≤ 1) ∧ (1 < (zl [a, b, c, d]))) ∧ (zh Q b fun x1 => bifW (cdec (2 < (zl [a, b, c, d]))) (((((0 : Int) ≤ 2) ∧ (2 < (zl [a, b, c, d]))) ∧ (zh Q c fun x2 => bifW (cdec (3 < (zl [a, b, c, d]))) (((((0 : Int) ≤ 3) ∧ (3 < (zl [a, b, c, d]))) ∧ (zh Q d fun x3 => bifW (cdec (4 < (zl [a, b, c, d]))) (((((0 : Int) ≤ 4) ∧ (4 < (zl [a, b, c, d]))) ∧ False)) (Q (Value.tuple #[Value.int .u64 (orI .u64 (shlI .u64 (orI .u64 (shlI .u64 (orI .u64 (shlI .u64 (orI .u64 (shlI .u64 0 4) (IntKind.wrap .u64 x0)) 4) (IntKind.wrap .u64 x1)) 4) (IntKind.wrap .u64 x2)) 4) (IntKind.wrap .u64 x3)), Value.bool true]))))) (Q (Value.tuple #[Value.int .u64 (orI .u64 (shlI .u64 (orI .u64 (shlI .u64 (orI .u64 (shlI .u64 0 4) (IntKind.wrap .u64 x0)) 4) (IntKind.wrap .u64 x1)) 4) (IntKind.wrap .u64 x2)), Value.bool true]))))) (Q (Value.tuple #[Value.int .u64 (orI .u64 (shlI .u64 (orI .u64 (shlI .u64 0 4) (IntKind.wrap .u64 x0)) 4) (IntKind.wrap .u64 x1)), Value.bool true]))))) (Q (Value.tuple #[Value.int .u64 (orI .u64 (shlI .u64 0 4) (IntKind.wrap .u64 x0)), Value.bool true]))))) (Q (Value.tuple #[Value.int .u64 0, Value.bool true]))))) := by kernel_rfl
theorem vh5 (a b c d e : UInt8) (t : List UInt8) (Q : Value → Prop) : zH 0 (a :: b :: c :: d :: e :: t) Q = (bifW (cdec ((zl (a :: b :: c :: d :: e :: t)) < 1)) (Q zF) (bifW (cdec (4 < (zl (a :: b :: c :: d :: e :: t)))) (Q zF) (False))) := by kernel_rfl
theorem vn0 (m : Int) (Q : Value → Prop) : zN 1 [] m Q = (bifW (cdec (Array.toList (ByteArray.data { data := { toList := [] } }) = Array.toList (ByteArray.data { data := #[] }))) (Q zF) (((((0 : Int) ≤ 0) ∧ (0 < (↑(List.length (Array.toList (ByteArray.data { data := { toList := [] } }))) : Int))) ∧ bifW (cdec ((↑(UInt8.toNat (List.getD (Array.toList (ByteArray.data { data := { toList := [] } })) (Int.toNat 0) 0)) : Int) = 48)) (bifW (cdec (1 < (zl []))) (Q zF) (bifW (cdec (0 < (zl []))) (((((0 : Int) ≤ 0) ∧ (0 < (zl []))) ∧ False)) (bifW (cdec (m < 0)) (Q zF) (Q (Value.tuple #[Value.int .u64 0, Value.bool true]))))) (bifW (cdec (0 < (zl []))) (((((0 : Int) ≤ 0) ∧ (0 < (zl []))) ∧ False)) (bifW (cdec (m < 0)) (Q zF) (Q (Value.tuple #[Value.int .u64 0, Value.bool true]))))))) := by kernel_rfl
theorem vn1 (a : UInt8) (m : Int) (Q : Value → Prop) : zN 2 [a] m Q = (bifW (cdec (Array.toList (ByteArray.data { data := { toList := [a] } }) = Array.toList (ByteArray.data { data := #[] }))) (Q zF) (((((0 : Int) ≤ 0) ∧ (0 < (↑(List.length (Array.toList (ByteArray.data { data := { toList := [a] } }))) : Int))) ∧ bifW (cdec ((↑(UInt8.toNat (List.getD (Array.toList (ByteArray.data { data := { toList := [a] } })) (Int.toNat 0) 0)) : Int) = 48)) (bifW (cdec (1 < (zl [a]))) (Q zF) (bifW (cdec (0 < (zl [a]))) (((((0 : Int) ≤ 0) ∧ (0 < (zl [a]))) ∧ zs Q m 0 a (bifW (cdec (1 < (zl [a]))) (((((0 : Int) ≤ 1) ∧ (1 < (zl [a]))) ∧ False)) (bifW (cdec (m < zn 0 a)) (Q zF) (Q (Value.tuple #[Value.int .u64 (zn 0 a), Value.bool true])))))) (bifW (cdec (m < 0)) (Q zF) (Q (Value.tuple #[Value.int .u64 0, Value.bool true]))))) (bifW (cdec (0 < (zl [a]))) (((((0 : Int) ≤ 0) ∧ (0 < (zl [a]))) ∧ zs Q m 0 a (bifW (cdec (1 < (zl [a]))) (((((0 : Int) ≤ 1) ∧ (1 < (zl [a]))) ∧ False)) (bifW (cdec (m < zn 0 a)) (Q zF) (Q (Value.tuple #[Value.int .u64 (zn 0 a), Value.bool true])))))) (bifW (cdec (m < 0)) (Q zF) (Q (Value.tuple #[Value.int .u64 0, Value.bool true]))))))) := by kernel_rfl
theorem vn2 (a b : UInt8) (m : Int) (Q : Value → Prop) : zN 3 [a, b] m Q = (bifW (cdec (Array.toList (ByteArray.data { data := { toList := [a, b] } }) = Array.toList (ByteArray.data { data := #[] }))) (Q zF) (((((0 : Int) ≤ 0) ∧ (0 < (↑(List.length (Array.toList (ByteArray.data { data := { toList := [a, b] } }))) : Int))) ∧ bifW (cdec ((↑(UInt8.toNat (List.getD (Array.toList (ByteArray.data { data := { toList := [a, b] } })) (Int.toNat 0) 0)) : Int) = 48)) (bifW (cdec (1 < (zl [a, b]))) (Q zF) (bifW (cdec (0 < (zl [a, b]))) (((((0 : Int) ≤ 0) ∧ (0 < (zl [a, b]))) ∧ zs Q m 0 a (bifW (cdec (1 < (zl [a, b]))) (((((0 : Int) ≤ 1) ∧ (1 < (zl [a, b]))) ∧ zs Q m (zn 0 a) b (bifW (cdec (2 < (zl [a, b]))) (((((0 : Int) ≤ 2) ∧ (2 < (zl [a, b]))) ∧ False)) (bifW (cdec (m < zn (zn 0 a) b)) (Q zF) (Q (Value.tuple #[Value.int .u64 (zn (zn 0 a) b), Value.bool true])))))) (bifW (cdec (m < zn 0 a)) (Q zF) (Q (Value.tuple #[Value.int .u64 (zn 0 a), Value.bool true])))))) (bifW (cdec (m < 0)) (Q zF) (Q (Value.tuple #[Value.int .u64 0, Value.bool true]))))) (bifW (cdec (0 < (zl [a, b]))) (((((0 : Int) ≤ 0) ∧ (0 < (zl [a, b]))) ∧ zs Q m 0 a (bifW (cdec (1 < (zl [a, b]))) (((((0 : Int) ≤ 1) ∧ (1 < (zl [a, b]))) ∧ zs Q m (zn 0 a) b (bifW (cdec (2 < (zl [a, b]))) (((((0 : Int) ≤ 2) ∧ (2 < (zl [a, b]))) ∧ False)) (bifW (cdec (m < zn (zn 0 a) b)) (Q zF) (Q (Value.tuple #[Value.int .u64 (zn (zn 0 a) b), Value.bool true])))))) (bifW (cdec (m < zn 0 a)) (Q zF) (Q (Value.tuple #[Value.int .u64 (zn 0 a), Value.bool true])))))) (bifW (cdec (m < 0)) (Q zF) (Q (Value.tuple #[Value.int .u64 0, Value.bool true]))))))) := by kernel_rfl
theorem vn3 (a b c : UInt8) (m : Int) (Q : Value → Prop) : zN 4 [a, b, c] m Q = (bifW (cdec (Array.toList (ByteArray.data { data := { toList := [a, b, c] } }) = Array.toList (ByteArray.data { data := #[] }))) (Q zF) (((((0 : Int) ≤ 0) ∧ (0 < (↑(List.length (Array.toList (ByteArray.data { data := { toList := [a, b, c] } }))) : Int))) ∧ bifW (cdec ((↑(UInt8.toNat (List.getD (Array.toList (ByteArray.data { data := { toList := [a, b, c] } })) (Int.toNat 0) 0)) : Int) = 48)) (bifW (cdec (1 < (zl [a, b, c]))) (Q zF) (bifW (cdec (0 < (zl [a, b, c]))) (((((0 : Int) ≤ 0) ∧ (0 < (zl [a, b, c]))) ∧ zs Q m 0 a (bifW (cdec (1 < (zl [a, b, c]))) (((((0 : Int) ≤ 1) ∧ (1 < (zl [a, b, c]))) ∧ zs Q m (zn 0 a) b (bifW (cdec (2 < (zl [a, b, c]))) (((((0 : Int) ≤ 2) ∧ (2 < (zl [a, b, c]))) ∧ zs Q m (zn (zn 0 a) b) c (bifW (cdec (3 < (zl [a, b, c]))) (((((0 : Int) ≤ 3) ∧ (3 < (zl [a, b, c]))) ∧ False)) (bifW (cdec (m < zn (zn (zn 0 a) b) c)) (Q zF) (Q (Value.tuple #[Value.int .u64 (zn (zn (zn 0 a) b) c), Value.bool true])))))) (bifW (cdec (m < zn (zn 0 a) b)) (Q zF) (Q (Value.tuple #[Value.int .u64 (zn (zn 0 a) b), Value.bool true])))))) (bifW (cdec (m < zn 0 a)) (Q zF) (Q (Value.tuple #[Value.int .u64 (zn 0 a), Value.bool true])))))) (bifW (cdec (m < 0)) (Q zF) (Q (Value.tuple #[Value.int .u64 0, Value.bool true]))))) (bifW (cdec (0 < (zl [a, b, c]))) (((((0 : Int) ≤ 0) ∧ (0 < (zl [a, b, c]))) ∧ zs Q m 0 a (bifW (cdec (1 < (zl [a, b, c]))) (((((0 : Int) ≤ 1) ∧ (1 < (zl [a, b, c]))) ∧ zs Q m (zn 0 a) b (bifW (cdec (2 < (zl [a, b, c]))) (((((0 : Int) ≤ 2) ∧ (2 < (zl [a, b, c]))) ∧ zs Q m (zn (zn 0 a) b) c (bifW (cdec (3 < (zl [a, b, c]))) (((((0 : Int) ≤ 3) ∧ (3 < (zl [a, b, c]))) ∧ False)) (bifW (cdec (m < zn (zn (zn 0 a) b) c)) (Q zF) (Q (Value.tuple #[Value.int .u64 (zn (zn (zn 0 a) b) c), Value.bool true])))))) (bifW (cdec (m < zn (zn 0 a) b)) (Q zF) (Q (Value.tuple #[Value.int .u64 (zn (zn 0 a) b), Value.bool true])))))) (bifW (cdec (m < zn 0 a)) (Q zF) (Q (Value.tuple #[Value.int .u64 (zn 0 a), Value.bool true])))))) (bifW (cdec (m < 0)) (Q zF) (Q (Value.tuple #[Value.int .u64 0, Value.bool true]))))))) := by kernel_rfl
theorem vn4 (a b c d : UInt8) (t : List UInt8) (m : Int) (Q : Value → Prop) : zN 4 (a :: b :: c :: d :: t) m Q = (bifW (cdec (Array.toList (ByteArray.data { data := { toList := a :: b :: c :: d :: t } }) = Array.toList (ByteArray.data { data := #[] }))) (Q zF) (((((0 : Int) ≤ 0) ∧ (0 < (↑(List.length (Array.toList (ByteArray.data { data := { toList := a :: b :: c :: d :: t } }))) : Int))) ∧ bifW (cdec ((↑(UInt8.toNat (List.getD (Array.toList (ByteArray.data { data := { toList := a :: b :: c :: d :: t } })) (Int.toNat 0) 0)) : Int) = 48)) (bifW (cdec (1 < (zl (a :: b :: c :: d :: t)))) (Q zF) (bifW (cdec (0 < (zl (a :: b :: c :: d :: t)))) (((((0 : Int) ≤ 0) ∧ (0 < (zl (a :: b :: c :: d :: t)))) ∧ zs Q m 0 a (bifW (cdec (1 < (zl (a :: b :: c :: d :: t)))) (((((0 : Int) ≤ 1) ∧ (1 < (zl (a :: b :: c :: d :: t)))) ∧ zs Q m (zn 0 a) b (bifW (cdec (2 < (zl (a :: b :: c :: d :: t)))) (((((0 : Int) ≤ 2) ∧ (2 < (zl (a :: b :: c :: d :: t)))) ∧ zs Q m (zn (zn 0 a) b) c (bifW (cdec (3 < (zl (a :: b :: c :: d :: t)))) (((((0 : Int) ≤ 3) ∧ (3 < (zl (a :: b :: c :: d :: t)))) ∧ zs Q m (zn (zn (zn 0 a) b) c) d (False))) (bifW (cdec (m < zn (zn (zn 0 a) b) c)) (Q zF) (Q (Value.tuple #[Value.int .u64 (zn (zn (zn 0 a) b) c), Value.bool true])))))) (bifW (cdec (m < zn (zn 0 a) b)) (Q zF) (Q (Value.tuple #[Value.int .u64 (zn (zn 0 a) b), Value.bool true])))))) (bifW (cdec (m < zn 0 a)) (Q zF) (Q (Value.tuple #[Value.int .u64 (zn 0 a), Value.bool true])))))) (bifW (cdec (m < 0)) (Q zF) (Q (Value.tuple #[Value.int .u64 0, Value.bool true]))))) (bifW (cdec (0 < (zl (a :: b :: c :: d :: t)))) (((((0 : Int) ≤ 0) ∧ (0 < (zl (a :: b :: c :: d :: t)))) ∧ zs Q m 0 a (bifW (cdec (1 < (zl (a :: b :: c :: d :: t)))) (((((0 : Int) ≤ 1) ∧ (1 < (zl (a :: b :: c :: d :: t)))) ∧ zs Q m (zn 0 a) b (bifW (cdec (2 < (zl (a :: b :: c :: d :: t)))) (((((0 : Int) ≤ 2) ∧ (2 < (zl (a :: b :: c :: d :: t)))) ∧ zs Q m (zn (zn 0 a) b) c (bifW (cdec (3 < (zl (a :: b :: c :: d :: t)))) (((((0 : Int) ≤ 3) ∧ (3 < (zl (a :: b :: c :: d :: t)))) ∧ zs Q m (zn (zn (zn 0 a) b) c) d (False))) (bifW (cdec (m < zn (zn (zn 0 a) b) c)) (Q zF) (Q (Value.tuple #[Value.int .u64 (zn (zn (zn 0 a) b) c), Value.bool true])))))) (bifW (cdec (m < zn (zn 0 a) b)) (Q zF) (Q (Value.tuple #[Value.int .u64 (zn (zn 0 a) b), Value.bool true])))))) (bifW (cdec (m < zn 0 a)) (Q zF) (Q (Value.tuple #[Value.int .u64 (zn 0 a), Value.bool true])))))) (bifW (cdec (m < 0)) (Q zF) (Q (Value.tuple #[Value.int .u64 0, Value.bool true]))))))) := by kernel_rfl
theorem vparts (a b c0 c1 c2 c3 c4 c5 c6 c7 : Int) : codeU Tryd.prog (cwC []) ox0 5 (bodyOf Tryd.f56) (inTab [.agg #[.int .u64 a, .int .u64 b]] 8) (birth [] 64) (retW Tryd.prog Tryd.f56 fun v s => v = .slice (some ⟨65, 0, none⟩) 8 8 ∧ blkW s 65 [.int .u64 c0, .int .u64 c1, .int .u64 c2, .int .u64 c3, .int .u64 c4, .int .u64 c5, .int .u64 c6, .int .u64 c7] 55 false) = (bifW (cdec ((0 : Int) < 4)) ((((0 : Int) ≤ 0) ∧ (((0 : Int) ≤ 0) ∧ ((((0 : Int) ≤ 3) ∧ (3 < (↑(Int.toNat 8) : Int))) ∧ ((((0 : Int) ≤ 7) ∧ (7 < (↑(Int.toNat 8) : Int))) ∧ bifW (cdec ((1 : Int) < 4)) ((((0 : Int) ≤ 16) ∧ (((0 : Int) ≤ 16) ∧ ((((0 : Int) ≤ 2) ∧ (2 < (↑(Int.toNat 8) : Int))) ∧ ((((0 : Int) ≤ 6) ∧ (6 < (↑(Int.toNat 8) : Int))) ∧ bifW (cdec ((2 : Int) < 4)) ((((0 : Int) ≤ 32) ∧ (((0 : Int) ≤ 32) ∧ ((((0 : Int) ≤ 1) ∧ (1 < (↑(Int.toNat 8) : Int))) ∧ ((((0 : Int) ≤ 5) ∧ (5 < (↑(Int.toNat 8) : Int))) ∧ bifW (cdec ((3 : Int) < 4)) ((((0 : Int) ≤ 48) ∧ (((0 : Int) ≤ 48) ∧ ((((0 : Int) ≤ 0) ∧ (0 < (↑(Int.toNat 8) : Int))) ∧ ((((0 : Int) ≤ 4) ∧ (4 < (↑(Int.toNat 8) : Int))) ∧ bifW (cdec ((4 : Int) < 4)) ((((0 : Int) ≤ 64) ∧ (((0 : Int) ≤ 64) ∧ (((0 ≤ (-1)) ∧ ((-1) < (↑(Int.toNat 8) : Int))) ∧ ((((0 : Int) ≤ 3) ∧ (3 < (↑(Int.toNat 8) : Int))) ∧ False))))) (((Value.slice (some { block := 65, off := 0 }) (Int.toNat 8) (Int.toNat 8) = Value.slice (some { block := 65, off := 0 }) 8 8) ∧ (((Value.int .u64 (andI .u64 (shrI .u64 a (48)) 65535) = Value.int .u64 c0) ∧ ((Value.int .u64 (andI .u64 (shrI .u64 a (32)) 65535) = Value.int .u64 c1) ∧ ((Value.int .u64 (andI .u64 (shrI .u64 a (16)) 65535) = Value.int .u64 c2) ∧ ((Value.int .u64 (andI .u64 (shrI .u64 a (0)) 65535) = Value.int .u64 c3) ∧ ((Value.int .u64 (andI .u64 (shrI .u64 b (48)) 65535) = Value.int .u64 c4) ∧ ((Value.int .u64 (andI .u64 (shrI .u64 b (32)) 65535) = Value.int .u64 c5) ∧ ((Value.int .u64 (andI .u64 (shrI .u64 b (16)) 65535) = Value.int .u64 c6) ∧ ((Value.int .u64 (andI .u64 (shrI .u64 b (0)) 65535) = Value.int .u64 c7) ∧ True)))))))) ∧ ((2 * 27 + 1 = 55) ∧ (false = false)))))))))) (((Value.slice (some { block := 65, off := 0 }) (Int.toNat 8) (Int.toNat 8) = Value.slice (some { block := 65, off := 0 }) 8 8) ∧ (((Value.int .u64 0 = Value.int .u64 c0) ∧ ((Value.int .u64 (andI .u64 (shrI .u64 a (32)) 65535) = Value.int .u64 c1) ∧ ((Value.int .u64 (andI .u64 (shrI .u64 a (16)) 65535) = Value.int .u64 c2) ∧ ((Value.int .u64 (andI .u64 (shrI .u64 a (0)) 65535) = Value.int .u64 c3) ∧ ((Value.int .u64 0 = Value.int .u64 c4) ∧ ((Value.int .u64 (andI .u64 (shrI .u64 b (32)) 65535) = Value.int .u64 c5) ∧ ((Value.int .u64 (andI .u64 (shrI .u64 b (16)) 65535) = Value.int .u64 c6) ∧ ((Value.int .u64 (andI .u64 (shrI .u64 b (0)) 65535) = Value.int .u64 c7) ∧ True)))))))) ∧ ((2 * 27 + 1 = 55) ∧ (false = false)))))))))) (((Value.slice (some { block := 65, off := 0 }) (Int.toNat 8) (Int.toNat 8) = Value.slice (some { block := 65, off := 0 }) 8 8) ∧ (((Value.int .u64 0 = Value.int .u64 c0) ∧ ((Value.int .u64 0 = Value.int .u64 c1) ∧ ((Value.int .u64 (andI .u64 (shrI .u64 a (16)) 65535) = Value.int .u64 c2) ∧ ((Value.int .u64 (andI .u64 (shrI .u64 a (0)) 65535) = Value.int .u64 c3) ∧ ((Value.int .u64 0 = Value.int .u64 c4) ∧ ((Value.int .u64 0 = Value.int .u64 c5) ∧ ((Value.int .u64 (andI .u64 (shrI .u64 b (16)) 65535) = Value.int .u64 c6) ∧ ((Value.int .u64 (andI .u64 (shrI .u64 b (0)) 65535) = Value.int .u64 c7) ∧ True)))))))) ∧ ((2 * 27 + 1 = 55) ∧ (false = false)))))))))) (((Value.slice (some { block := 65, off := 0 }) (Int.toNat 8) (Int.toNat 8) = Value.slice (some { block := 65, off := 0 }) 8 8) ∧ (((Value.int .u64 0 = Value.int .u64 c0) ∧ ((Value.int .u64 0 = Value.int .u64 c1) ∧ ((Value.int .u64 0 = Value.int .u64 c2) ∧ ((Value.int .u64 (andI .u64 (shrI .u64 a (0)) 65535) = Value.int .u64 c3) ∧ ((Value.int .u64 0 = Value.int .u64 c4) ∧ ((Value.int .u64 0 = Value.int .u64 c5) ∧ ((Value.int .u64 0 = Value.int .u64 c6) ∧ ((Value.int .u64 (andI .u64 (shrI .u64 b (0)) 65535) = Value.int .u64 c7) ∧ True)))))))) ∧ ((2 * 27 + 1 = 55) ∧ (false = false)))))))))) (((Value.slice (some { block := 65, off := 0 }) (Int.toNat 8) (Int.toNat 8) = Value.slice (some { block := 65, off := 0 }) 8 8) ∧ (((Value.int .u64 0 = Value.int .u64 c0) ∧ ((Value.int .u64 0 = Value.int .u64 c1) ∧ ((Value.int .u64 0 = Value.int .u64 c2) ∧ ((Value.int .u64 0 = Value.int .u64 c3) ∧ ((Value.int .u64 0 = Value.int .u64 c4) ∧ ((Value.int .u64 0 = Value.int .u64 c5) ∧ ((Value.int .u64 0 = Value.int .u64 c6) ∧ ((Value.int .u64 0 = Value.int .u64 c7) ∧ True)))))))) ∧ ((2 * 27 + 1 = 55) ∧ (false = false)))))) := by kernel_rfl
end Go.Proofs.YtfnacgojmdbjmaaDoor
end

section
/- A function at listed arguments: what closed runs of it came to, as an entry for its callers. -/
namespace Go.Det
variable {P : Program}
noncomputable def eqB (a b : ByteArray) : Bool := preB a.data.toList b.data.toList && preB b.data.toList a.data.toList
noncomputable def intEqb (a b : Int) : Bool := decide (a = b)
noncomputable def eqV1 : Value → Value → Bool
  | .int k a, .int k' b => kindEq k k' && intEqb a b
  | .bool a, .bool b => a == b
  | .string a, .string b => eqB a b
  | _, _ => false
noncomputable def eqVL : List Value → List Value → Bool
  | [], [] => true
  | a :: s, b :: t => eqV1 a b && eqVL s t
  | _, _ => false
noncomputable def eqV2 : Value → Value → Bool
  | .agg a, .agg b => eqVL a.toList b.toList
  | a, b => eqV1 a b
noncomputable def eqV2L : List Value → List Value → Bool
  | [], [] => true
  | a :: s, b :: t => eqV2 a b && eqV2L s t
  | _, _ => false
noncomputable def eqV : Value → Value → Bool
  | .tuple a, .tuple b => eqV2L a.toList b.toList
  | a, b => eqV2 a b
theorem preB_antisymm : ∀ {a b : List UInt8}, preB a b = true → preB b a = true → a = b
  | [], [], _, _ => rfl
  | [], _ :: _, _, h => by cases h
  | _ :: _, [], h, _ => by cases h
  | x :: s, y :: t, h, k => by
    unfold preB at h k
    split at h
    · rename_i hb
      split at k
      · rw [UInt8.toNat_inj.1 (Nat.eq_of_beq_eq_true hb), preB_antisymm h k]
      · cases k
    · cases h
theorem eqB_eq {a b : ByteArray} (h : eqB a b = true) : a = b := by
  unfold eqB at h
  rw [Bool.and_eq_true] at h
  have := preB_antisymm h.1 h.2
  cases a with | mk a => cases b with | mk b =>
    cases a with | mk a => cases b with | mk b => simp at this; rw [this]
theorem eqV1_eq {a b : Value} (h : eqV1 a b = true) : a = b := by
  unfold eqV1 at h
  split at h
  · rw [Bool.and_eq_true] at h
    rw [kindEq_eq h.1, of_decide_eq_true h.2]
  · rw [eq_of_beq h]
  · rw [eqB_eq h]
  · cases h
theorem eqVL_eq : ∀ {a b : List Value}, eqVL a b = true → a = b
  | [], [], _ => rfl
  | [], _ :: _, h => by cases h
  | _ :: _, [], h => by cases h
  | x :: s, y :: t, h => by
    unfold eqVL at h
    rw [Bool.and_eq_true] at h
    rw [eqV1_eq h.1, eqVL_eq h.2]
theorem eqV2_eq {a b : Value} (h : eqV2 a b = true) : a = b := by
  unfold eqV2 at h
  split at h
  · rename_i a b; have := eqVL_eq h; cases a; cases b; simp at this; rw [this]
  · exact eqV1_eq h
theorem eqV2L_eq : ∀ {a b : List Value}, eqV2L a b = true → a = b
  | [], [], _ => rfl
  | [], _ :: _, h => by cases h
  | _ :: _, [], h => by cases h
  | x :: s, y :: t, h => by
    unfold eqV2L at h
    rw [Bool.and_eq_true] at h
    rw [eqV2_eq h.1, eqV2L_eq h.2]
theorem eqV_eq {a b : Value} (h : eqV a b = true) : a = b := by
  unfold eqV at h
  split at h
  · rename_i a b; have := eqV2L_eq h; cases a; cases b; simp at this; rw [this]
  · exact eqV2_eq h
abbrev Tbl := List (List Value × Value)
noncomputable def lookT (args : List Value) : Tbl → Option Value
  | [] => none
  | e :: t => match eqV2L e.1 args with | true => some e.2 | false => lookT args t
noncomputable def isRes (r : Option (Value × St)) (v : Value) : Bool := match r with | some x => eqV x.1 v | none => false
noncomputable def tabOk (run : List Value → Option (Value × St)) : Tbl → Bool
  | [] => true
  | e :: t => match flat2L e.1 && (flat e.2 && isRes (run e.1) e.2) with | true => tabOk run t | false => false
theorem tabOk_mem {run : List Value → Option (Value × St)} : ∀ {t : Tbl}, tabOk run t = true → ∀ e ∈ t, flat2L e.1 = true ∧ flat e.2 = true ∧ ∃ s, run e.1 = some (e.2, s)
  | [], _, e, h => by cases h
  | x :: t, h, e, he => by
    unfold tabOk at h
    split at h
    case h_2 => cases h
    rename_i hb
    rcases List.mem_cons.1 he with rfl | he
    · simp only [Bool.and_eq_true] at hb
      obtain ⟨h1, h2, h3⟩ := hb
      refine ⟨h1, h2, ?_⟩
      unfold isRes at h3
      split at h3
      · rename_i y hy
        exact ⟨y.2, by rw [hy, ← eqV_eq h3]⟩
      · cases h3
    · exact tabOk_mem h e he
end Go.Det
end

section
/- Closed runs as calls; numbers below 256 told in ten signs: a table of closed runs. No conditions. -/
namespace Go.Proofs.YtfnacgojmdbjmaaDoor
open Go.Det Go.RowKit Go.Proofs.YtfnacgojmdbjmaaDoorW.PrintWords
set_option maxRecDepth 100000
theorem isRes_ex {r : Option (Value × St)} {v : Value} (h : isRes r v = true) : ∃ s, r = some (v, s) := by
  unfold isRes at h
  split at h
  case h_2 => cases h
  rename_i x
  exact ⟨x.2, by rw [← eqV_eq h]⟩
theorem calls_run {f : FuncId} {fn : Func} {c : Code} {args : List Value} {v : Value} {w : World} (hG : GoodW w) (hf : Tryd.prog.funcs[f]? = some fn) (hb : fn.body = some c) (hn : (fn.name == "runtime.NumGoroutine") = false)
    (h1 : flat2L args = true) (h2 : flat v = true) (h3 : v ≠ und) (e : ∀ t0 t2 t5, ∃ s, callD Tryd.prog (mkIntr maskA (extL extsA)) 1000 60 f args (birth (heapA t0 t2 t5) 64) = some (v, s)) :
    Calls Tryd.prog f ⟨args⟩ w fun e w' => e = .returned v ∧ Below w.heap.size w w' := by
  obtain ⟨t0, t2, t5, L⟩ := hG.lay
  obtain ⟨s, hx2⟩ := e t0 t2 t5
  refine (run_call (args := args) dt_mixed okA extsA_tr (extsA_ok (hG.len.later (Nat.le_refl _) fun _ _ => rfl) 6) hf hb hn L.hr (glob_glob 6 w) (flat2L_self h1 _) (fun id q => glob_top 6 w (by decide) id q) (fun id q => L.top id (Nat.le_trans (by decide) q)) hx2).mono ?_
  rintro e W' ⟨v', φ', rfl, _, hv, H'⟩
  rw [flat_inv h2 hv h3]
  exact ⟨rfl, H'.os, H'.tape, H'.output, H'.size, fun j hj => H'.old j hj⟩
noncomputable def tabT : Tbl := (List.range 256).map fun (n : Nat) => ([.int .u64 (n : Int)], .string ⟨⟨Txt.decT n⟩⟩)
theorem tabT_run (t0 t2 t5 : TypeId) : tabOk (fun args => callD Tryd.prog (mkIntr maskA (extL extsA)) 1000 60 54 args (birth (heapA t0 t2 t5) 64)) tabT = true := by kernel_rfl
def txtF (n : Int) : Option ByteArray := if 0 ≤ n ∧ n < 256 then some ⟨⟨Txt.decT n.toNat⟩⟩ else none
theorem st_txt {n : Int} {r : ByteArray} {w : World} (hG : GoodW w) (h : txtF n = some r) : Calls Tryd.prog 54 #[.int .u64 n] w fun e w' => e = .returned (.string r) ∧ Below w.heap.size w w' := by
  unfold txtF at h
  split at h
  case isFalse => cases h
  rename_i hn
  cases h
  obtain ⟨k, rfl⟩ := Int.eq_ofNat_of_zero_le hn.1
  have hk : k < 256 := by omega
  refine calls_run (fn := Tryd.f54) (c := bodyOf Tryd.f54) (args := [.int .u64 (k : Int)]) hG Tryd.func54 (by kernel_rfl) (by kernel_rfl) rfl rfl (by intro h; cases h) fun t0 t2 t5 => ?_
  obtain ⟨_, _, s, hs⟩ := tabOk_mem (tabT_run t0 t2 t5) ([.int .u64 (k : Int)], .string ⟨⟨Txt.decT k⟩⟩) (List.mem_map.2 ⟨k, List.mem_range.2 hk, rfl⟩)
  exact ⟨s, hs⟩
end Go.Proofs.YtfnacgojmdbjmaaDoor
end

section
/- Numbers told in sixteen signs: the library's functions, as contracts: what is powers of two at 16. No conditions. -/
namespace Go.Proofs.YtfnacgojmdbjmaaDoor
open Go.Det Go.RowKit Go.Proofs.YtfnacgojmdbjmaaDoorW.PrintWords
set_option maxRecDepth 100000
def dig36 : ByteArray := { data := #[48, 49, 50, 51, 52, 53, 54, 55, 56, 57, 97, 98, 99, 100, 101, 102, 103, 104, 105, 106, 107, 108, 109, 110, 111, 112, 113, 114, 115, 116, 117, 118, 119, 120, 121, 122] }
theorem dig_len : (List.length (Array.toList (ByteArray.data dig36))) = 36 := rfl
noncomputable def d16 : List Value → Option Unit
  | [.int .i64 n] => match Int.decEq n 16 with | Decidable.isTrue _ => some () | Decidable.isFalse _ => none
  | _ => none
noncomputable def d16u : List Value → Option Unit
  | [.int .u64 n] => match Int.decEq n 16 with | Decidable.isTrue _ => some () | Decidable.isFalse _ => none
  | _ => none
theorem d16_enc {args : List Value} {a : Unit} (h : d16 args = some a) : args = [.int .i64 16] := by
  unfold d16 at h
  split at h
  case h_2 => cases h
  split at h
  · rename_i hn _; rw [hn]
  · cases h
theorem d16u_enc {args : List Value} {a : Unit} (h : d16u args = some a) : args = [.int .u64 16] := by
  unfold d16u at h
  split at h
  case h_2 => cases h
  split at h
  · rename_i hn _; rw [hn]
  · cases h
noncomputable def con109 : Con := Con.flat d16 (fun _ => true) fun _ => .bool true
noncomputable def con110 : Con := Con.flat d16u (fun _ => true) fun _ => .int .i64 4
theorem run109 (t0 t2 t5 : TypeId) : isRes (callD Tryd.prog (mkIntr maskA (extL extsA)) 1000 60 109 [.int .i64 16] (birth (heapA t0 t2 t5) 64)) (.bool true) = true := by kernel_rfl
theorem run110 (t0 t2 t5 : TypeId) : isRes (callD Tryd.prog (mkIntr maskA (extL extsA)) 1000 60 110 [.int .u64 16] (birth (heapA t0 t2 t5) 64)) (.int .i64 4) = true := by kernel_rfl
theorem om109 {W : World} (hW : GoodW W) : OwnAll Tryd.prog W 6 109 con109.own := by
  refine own_of_calls (fn := Tryd.f109) (c := bodyOf Tryd.f109) hW Tryd.func109 (by kernel_rfl) (by kernel_rfl) fun args v h => ?_
  split at h
  case h_2 => cases h
  rename_i a ha
  cases h
  obtain rfl := d16_enc ha
  exact ⟨rfl, rfl, fun w hG => calls_run (fn := Tryd.f109) (c := bodyOf Tryd.f109) hG Tryd.func109 (by kernel_rfl) (by kernel_rfl) rfl rfl (by intro h; cases h) fun t0 t2 t5 => isRes_ex (run109 t0 t2 t5)⟩
theorem om110 {W : World} (hW : GoodW W) : OwnAll Tryd.prog W 6 110 con110.own := by
  refine own_of_calls (fn := Tryd.f110) (c := bodyOf Tryd.f110) hW Tryd.func110 (by kernel_rfl) (by kernel_rfl) fun args v h => ?_
  split at h
  case h_2 => cases h
  rename_i a ha
  cases h
  obtain rfl := d16u_enc ha
  exact ⟨rfl, rfl, fun w hG => calls_run (fn := Tryd.f110) (c := bodyOf Tryd.f110) hG Tryd.func110 (by kernel_rfl) (by kernel_rfl) rfl rfl (by intro h; cases h) fun t0 t2 t5 => isRes_ex (run110 t0 t2 t5)⟩
end Go.Proofs.YtfnacgojmdbjmaaDoor
end

section
/- Conditions, reckoned by the kernel. -/
namespace Go.Proofs.YtfnacgojmdbjmaaDoor
open Go.Det Go.RowKit  Go.Proofs.YtfnacgojmdbjmaaDoorW.PrintWords
set_option maxRecDepth 100000
theorem vf98 (u : Int) (Q : Value → Prop) : codeU Tryd.prog (cwC [(109, con109), (110, con110)]) (oxE []) 4 (bodyOf Tryd.f98) (inTab [.slice none 0 0, .int .u64 u, .int .i64 16, .bool false, .bool false] 8) (birth [] 64) (retW Tryd.prog Tryd.f98 fun v _ => Q v) = (bifW (cdec ((16 : Int) < 2)) (False) (bifW (cdec ((16 : Int) = 10)) (False) (bifW (cdec ((36 : Int) < 16)) (False) (((true = true) ∧ ((true = true) ∧ bifW (cdec (IntKind.wrap .u64 16 ≤ u)) ((((0 ≤ andI .u64 u (IntKind.wrap .u64 (IntKind.wrap .u64 16 - 1))) ∧ (andI .u64 u (IntKind.wrap .u64 (IntKind.wrap .u64 16 - 1)) < (↑(List.length (Array.toList (ByteArray.data dig36))) : Int))) ∧ ((((0 : Int) ≤ 64) ∧ (64 < (↑65 : Int))) ∧ ((0 ≤ IntKind.wrap .u64 4) ∧ bifW (cdec (IntKind.wrap .u64 16 ≤ shrI .u64 u (IntKind.wrap .u64 4))) ((((0 ≤ andI .u64 (shrI .u64 u (IntKind.wrap .u64 4)) (IntKind.wrap .u64 (IntKind.wrap .u64 16 - 1))) ∧ (andI .u64 (shrI .u64 u (IntKind.wrap .u64 4)) (IntKind.wrap .u64 (IntKind.wrap .u64 16 - 1)) < (↑(List.length (Array.toList (ByteArray.data dig36))) : Int))) ∧ ((((0 : Int) ≤ 63) ∧ (63 < (↑65 : Int))) ∧ ((0 ≤ IntKind.wrap .u64 4) ∧ bifW (cdec (IntKind.wrap .u64 16 ≤ shrI .u64 (shrI .u64 u (IntKind.wrap .u64 4)) (IntKind.wrap .u64 4))) ((((0 ≤ andI .u64 (shrI .u64 (shrI .u64 u (IntKind.wrap .u64 4)) (IntKind.wrap .u64 4)) (IntKind.wrap .u64 (IntKind.wrap .u64 16 - 1))) ∧ (andI .u64 (shrI .u64 (shrI .u64 u (IntKind.wrap .u64 4)) (IntKind.wrap .u64 4)) (IntKind.wrap .u64 (IntKind.wrap .u64 16 - 1)) < (↑(List.length (Array.toList (ByteArray.data dig36))) : Int))) ∧ ((((0 : Int) ≤ 62) ∧ (62 < (↑65 : Int))) ∧ ((0 ≤ IntKind.wrap .u64 4) ∧ bifW (cdec (IntKind.wrap .u64 16 ≤ shrI .u64 (shrI .u64 (shrI .u64 u (IntKind.wrap .u64 4)) (IntKind.wrap .u64 4)) (IntKind.wrap .u64 4))) ((((0 ≤ andI .u64 (shrI .u64 (shrI .u64 (shrI .u64 u (IntKind.wrap .u64 4)) (IntKind.wrap .u64 4)) (IntKind.wrap .u64 4)) (IntKind.wrap .u64 (IntKind.wrap .u64 16 - 1))) ∧ (andI .u64 (shrI .u64 (shrI .u64 (shrI .u64 u (IntKind.wrap .u64 4)) (IntKind.wrap .u64 4)) (IntKind.wrap .u64 4)) (IntKind.wrap .u64 (IntKind.wrap .u64 16 - 1)) < (↑(List.length (Array.toList (ByteArray.data dig36))) : Int))) ∧ ((((0 : Int) ≤ 61) ∧ (61 < (↑65 : Int))) ∧ ((0 ≤ IntKind.wrap .u64 4) ∧ False)))) ((((0 ≤ shrI .u64 (shrI .u64 (shrI .u64 u (IntKind.wrap .u64 4)) (IntKind.wrap .u64 4)) (IntKind.wrap .u64 4)) ∧ (shrI .u64 (shrI .u64 (shrI .u64 u (IntKind.wrap .u64 4)) (IntKind.wrap .u64 4)) (IntKind.wrap .u64 4) < (↑(List.length (Array.toList (ByteArray.data dig36))) : Int))) ∧ ((((0 : Int) ≤ 61) ∧ (61 < (↑65 : Int))) ∧ Q (Value.tuple #[Value.slice none 0 0, Value.string { data := #[UInt8.ofNat (Int.toNat (↑(UInt8.toNat (List.getD (Array.toList (ByteArray.data dig36)) (Int.toNat (shrI .u64 (shrI .u64 (shrI .u64 u (IntKind.wrap .u64 4)) (IntKind.wrap .u64 4)) (IntKind.wrap .u64 4))) 0)) : Int)), UInt8.ofNat (Int.toNat (↑(UInt8.toNat (List.getD (Array.toList (ByteArray.data dig36)) (Int.toNat (andI .u64 (shrI .u64 (shrI .u64 u (IntKind.wrap .u64 4)) (IntKind.wrap .u64 4)) (IntKind.wrap .u64 (IntKind.wrap .u64 16 - 1)))) 0)) : Int)), UInt8.ofNat (Int.toNat (↑(UInt8.toNat (List.getD (Array.toList (ByteArray.data dig36)) (Int.toNat (andI .u64 (shrI .u64 u (IntKind.wrap .u64 4)) (IntKind.wrap .u64 (IntKind.wrap .u64 16 - 1)))) 0)) : Int)), UInt8.ofNat (Int.toNat (↑(UInt8.toNat (List.getD (Array.toList (ByteArray.data dig36)) (Int.toNat (andI .u64 u (IntKind.wrap .u64 (IntKind.wrap .u64 16 - 1)))) 0)) : Int))] }])))))))) ((((0 ≤ shrI .u64 (shrI .u64 u (IntKind.wrap .u64 4)) (IntKind.wrap .u64 4)) ∧ (shrI .u64 (shrI .u64 u (IntKind.wrap .u64 4)) (IntKind.wrap .u64 4) < (↑(List.length (Array.toList (ByteArray.data dig36))) : Int))) ∧ ((((0 : Int) ≤ 62) ∧ (62 < (↑65 : Int))) ∧ Q (Value.tuple #[Value.slice none 0 0, Value.string { data := #[UInt8.ofNat (Int.toNat (↑(UInt8.toNat (List.getD (Array.toList (ByteArray.data dig36)) (Int.toNat (shrI .u64 (shrI .u64 u (IntKind.wrap .u64 4)) (IntKind.wrap .u64 4))) 0)) : Int)), UInt8.ofNat (Int.toNat (↑(UInt8.toNat (List.getD (Array.toList (ByteArray.data dig36)) (Int.toNat (andI .u64 (shrI .u64 u (IntKind.wrap .u64 4)) (IntKind.wrap .u64 (IntKind.wrap .u64 16 - 1)))) 0)) : Int)), UInt8.ofNat (Int.toNat (↑(UInt8.toNat (List.getD (Array.toList (ByteArray.data dig36)) (Int.toNat (andI .u64 u (IntKind.wrap .u64 (IntKind.wrap .u64 16 - 1)))) 0)) : Int))] }])))))))) ((((0 ≤ shrI .u64 u (IntKind.wrap .u64 4)) ∧ (shrI .u64 u (IntKind.wrap .u64 4) < (↑(List.length (Array.toList (ByteArray.data dig36))) : Int))) ∧ ((((0 : Int) ≤ 63) ∧ (63 < (↑65 : Int))) ∧ Q (Value.tuple #[Value.slice none 0 0, Value.string { data := #[UInt8.ofNat (Int.toNat (↑(UInt8.toNat (List.getD (Array.toList (ByteArray.data dig36)) (Int.toNat (shrI .u64 u (IntKind.wrap .u64 4))) 0)) : Int)), UInt8.ofNat (Int.toNat (↑(UInt8.toNat (List.getD (Array.toList (ByteArray.data dig36)) (Int.toNat (andI .u64 u (IntKind.wrap .u64 (IntKind.wrap .u64 16 - 1)))) 0)) : Int))] }])))))))) ((((0 ≤ u) ∧ (u < (↑(List.length (Array.toList (ByteArray.data dig36))) : Int))) ∧ ((((0 : Int) ≤ 64) ∧ (64 < (↑65 : Int))) ∧ Q (Value.tuple #[Value.slice none 0 0, Value.string { data := #[UInt8.ofNat (Int.toNat (↑(UInt8.toNat (List.getD (Array.toList (ByteArray.data dig36)) (Int.toNat u) 0)) : Int))] }])))))))))) := by kernel_rfl
end Go.Proofs.YtfnacgojmdbjmaaDoor
end

section
/- Shifts and masks of 64 bits at natural numbers. Plain. -/
namespace Go.Det
theorem shr_nat {k : Nat} (s : Nat) (hs : s ≤ 64) : shrI .u64 (k : Int) (s : Int) = ((k / 2 ^ s : Nat) : Int) := by
  unfold shrI
  show Int.fdiv (k : Int) (2 ^ (min (Int.toNat (s : Int)) 64)) = _
  rw [Int.toNat_natCast, Nat.min_eq_left hs, Int.fdiv_eq_ediv_of_nonneg _ (Int.le_of_lt (Int.pow_pos (by decide)))]
  push_cast
  rfl
theorem wrapU {x : Int} (h : 0 ≤ x ∧ x < 18446744073709551616) : IntKind.u64.wrap x = x := by
  obtain ⟨n, rfl⟩ := Int.eq_ofNat_of_zero_le h.1
  exact wrap_u64 (by unfold M64; omega)
theorem and_low {k : Nat} (hk : k < 18446744073709551616) (j : Nat) (hj : j ≤ 32) : andI .u64 (k : Int) ((2 ^ j - 1 : Nat) : Int) = ((k % 2 ^ j : Nat) : Int) := by
  have hp : 2 ^ j ≤ 2 ^ 32 := Nat.pow_le_pow_right (by decide) hj
  have hp' : 2 ^ j ≤ 4294967296 := hp
  rw [andI_u64 (inU_iff.2 ⟨by omega, by omega⟩) (inU_iff.2 ⟨by omega, by omega⟩), Int.toNat_natCast, Int.toNat_natCast, Nat.and_two_pow_sub_one_eq_mod]
theorem or_join {a b : Nat} (s : Nat) (hb : b < 2 ^ s) (h : a * 2 ^ s + b < 18446744073709551616) : orI .u64 ((a * 2 ^ s : Nat) : Int) (b : Int) = ((a * 2 ^ s + b : Nat) : Int) := by
  have e : a * 2 ^ s ||| b = a * 2 ^ s + b := by rw [← Nat.shiftLeft_eq, ← Nat.shiftLeft_add_eq_or_of_lt hb]
  obtain ⟨c, hc⟩ : ∃ c, c = a * 2 ^ s := ⟨_, rfl⟩
  rw [← hc] at h e ⊢
  rw [orI_u64 (inU_iff.2 ⟨by omega, by omega⟩) (inU_iff.2 ⟨by omega, by omega⟩), Int.toNat_natCast, Int.toNat_natCast, e]
theorem shl_nat {k : Nat} (s : Nat) (hs : s ≤ 64) (h : k * 2 ^ s < 18446744073709551616) : shlI .u64 (k : Int) (s : Int) = ((k * 2 ^ s : Nat) : Int) := by
  unfold shlI
  show IntKind.u64.wrap ((k : Int) * 2 ^ (min (Int.toNat (s : Int)) 64)) = _
  rw [Int.toNat_natCast, Nat.min_eq_left hs]
  have e : ((k : Int) * 2 ^ s) = ((k * 2 ^ s : Nat) : Int) := by push_cast; rfl
  rw [e]
  exact wrap_u64 h
end Go.Det
end

section
/- Numbers below 65536 told in sixteen signs: strconv.FormatUint at 16. No conditions but the number's size. -/
namespace Go.Proofs.YtfnacgojmdbjmaaDoor
open Go.Det Go.RowKit Go.Proofs.YtfnacgojmdbjmaaDoorW.PrintWords
set_option maxRecDepth 100000
theorem hw16 : IntKind.wrap .u64 16 = 16 := by decide
theorem hw4 : IntKind.wrap .u64 4 = 4 := by decide
theorem hw15 : IntKind.wrap .u64 (16 - 1) = 15 := by decide
theorem hi64 : IntKind.wrap .i64 (65 - 1) = 64 := by decide
theorem hi63 : IntKind.wrap .i64 (64 - 1) = 63 := by decide
theorem hi62 : IntKind.wrap .i64 (63 - 1) = 62 := by decide
theorem hi61 : IntKind.wrap .i64 (62 - 1) = 61 := by decide
theorem shr4 (k : Nat) : shrI .u64 (k : Int) 4 = ((k / 16 : Nat) : Int) := shr_nat 4 (by decide)
theorem and15 {k : Nat} (h : k < 65536) : andI .u64 (k : Int) 15 = ((k % 16 : Nat) : Int) := and_low (by omega) 4 (by decide)
theorem dig_all : ∀ m : Fin 16, UInt8.ofNat (Int.toNat (↑(UInt8.toNat (List.getD (Array.toList (ByteArray.data dig36)) m.val 0)) : Int)) = Txt.dg m.val := by decide +kernel
theorem dig_eq {m : Nat} (h : m < 16) : UInt8.ofNat (Int.toNat (↑(UInt8.toNat (List.getD (Array.toList (ByteArray.data dig36)) (Int.toNat ((m : Nat) : Int)) 0)) : Int)) = Txt.dg m := dig_all ⟨m, h⟩
theorem w98 (k : Nat) (hk : k < 65536) : codeU Tryd.prog (cwC [(109, con109), (110, con110)]) (oxE []) 4 (bodyOf Tryd.f98) (inTab [.slice none 0 0, .int .u64 (k : Int), .int .i64 16, .bool false, .bool false] 8) (birth [] 64) (retW Tryd.prog Tryd.f98 fun v _ => v = .tuple #[.slice none 0 0, .string ⟨⟨Txt.hexT k⟩⟩]) := by
  refine (vf98 (k : Int) _).mpr ?_
  have a0 := and15 hk
  have a1 := and15 (k := k / 16) (by omega)
  have a2 := and15 (k := k / 16 / 16) (by omega)
  have a3 := and15 (k := k / 16 / 16 / 16) (by omega)
  simp only [hw16, hw4, hw15, hi64, hi63, hi62, hi61, shr4, a0, a1, a2, a3, dig_len]
  refine bifW_f (by decide) (bifW_f (by decide) (bifW_f (by decide) ⟨trivial, trivial, ?_⟩))
  have e1 : k / 16 / 16 = k / 256 := by omega
  have e2 : k / 16 / 16 / 16 = k / 4096 := by omega
  refine bifW_c (fun h1 => ⟨⟨by omega, by omega⟩, ⟨by decide, by decide⟩, by decide, ?_⟩) (fun h1 => ⟨⟨by omega, by omega⟩, ⟨by decide, by decide⟩, ?_⟩)
  · refine bifW_c (fun h2 => ⟨⟨by omega, by omega⟩, ⟨by decide, by decide⟩, by decide, ?_⟩) (fun h2 => ⟨⟨by omega, by omega⟩, ⟨by decide, by decide⟩, ?_⟩)
    · refine bifW_c (fun h3 => ⟨⟨by omega, by omega⟩, ⟨by decide, by decide⟩, by decide, ?_⟩) (fun h3 => ⟨⟨by omega, by omega⟩, ⟨by decide, by decide⟩, ?_⟩)
      · refine bifW_f (by omega) ⟨⟨by omega, by omega⟩, ⟨by decide, by decide⟩, ?_⟩
        rw [dig_eq (m := k / 16 / 16 / 16) (by omega), dig_eq (m := k / 16 / 16 % 16) (by omega), dig_eq (m := k / 16 % 16) (by omega), dig_eq (m := k % 16) (by omega), e2, e1]
        unfold Txt.hexT
        rw [if_neg (by omega), if_neg (by omega), if_neg (by omega)]
      · rw [dig_eq (m := k / 16 / 16) (by omega), dig_eq (m := k / 16 % 16) (by omega), dig_eq (m := k % 16) (by omega), e1]
        unfold Txt.hexT
        rw [if_neg (by omega), if_neg (by omega), if_pos (by omega)]
    · rw [dig_eq (m := k / 16) (by omega), dig_eq (m := k % 16) (by omega)]
      unfold Txt.hexT
      rw [if_neg (by omega), if_pos (by omega)]
  · rw [dig_eq (m := k) (by omega)]
    unfold Txt.hexT
    rw [if_pos (by omega)]
end Go.Proofs.YtfnacgojmdbjmaaDoor
end

section
/- Numbers below 65536 told in sixteen signs, as contracts of calls. No conditions but the number's size. -/
namespace Go.Proofs.YtfnacgojmdbjmaaDoor
open Go.Det Go.RowKit Go.Proofs.YtfnacgojmdbjmaaDoorW.PrintWords
set_option maxRecDepth 100000
def fmtF (n b : Int) : Option ByteArray := if b = 16 ∧ (0 ≤ n ∧ n < 65536) then some ⟨⟨Txt.hexT n.toNat⟩⟩ else none
noncomputable def d98 : List Value → Option Int
  | [.slice none 0 0, .int .u64 u, .int .i64 b, .bool false, .bool false] => match Int.decEq b 16 with | Decidable.isTrue _ => some u | Decidable.isFalse _ => none
  | _ => none
noncomputable def e98 (u : Int) : List Value := [.slice none 0 0, .int .u64 u, .int .i64 16, .bool false, .bool false]
theorem d98_enc {args : List Value} {a : Int} (h : d98 args = some a) : args = e98 a := by
  unfold d98 at h
  split at h
  case h_2 => cases h
  split at h
  · rename_i hn _; cases h; unfold e98; rw [hn]
  · cases h
noncomputable def con98 : Con := Con.opt d98 (fun u => fmtF u 16) fun y => .tuple #[.slice none 0 0, .string y]
theorem om98 {W : World} (hW : GoodW W) : OwnAll Tryd.prog W 6 98 con98.own :=
  con_opt e98 (Laying.empty hW.size) hW.size (by decide) dt_mixed (OwnsAll.con (om109 hW) (OwnsAll.con (om110 hW) (ownsAll_nil W 6))) Tryd.func98 (fn := Tryd.f98) (c := bodyOf Tryd.f98) (by kernel_rfl) (by kernel_rfl) (fun _ _ h => d98_enc h) (fun a => ⟨rfl, (by kernel_rfl)⟩) (fun b => rfl) fun a b h => by
    unfold fmtF at h
    split at h
    case isFalse => cases h
    rename_i hn
    cases h
    obtain ⟨k, rfl⟩ := Int.eq_ofNat_of_zero_le hn.2.1
    exact codeU_codeW (cwC_mono _) (oxE_ok _) (by kernel_rfl) (w98 k (by omega))
noncomputable def d85 : List Value → Option Int
  | [.int .u64 u, .int .i64 b] => match Int.decEq b 16 with | Decidable.isTrue _ => some u | Decidable.isFalse _ => none
  | _ => none
noncomputable def e85 (u : Int) : List Value := [.int .u64 u, .int .i64 16]
theorem d85_enc {args : List Value} {a : Int} (h : d85 args = some a) : args = e85 a := by
  unfold d85 at h
  split at h
  case h_2 => cases h
  split at h
  · rename_i hn _; cases h; unfold e85; rw [hn]
  · cases h
noncomputable def con85 : Con := Con.opt d85 (fun u => fmtF u 16) fun y => .string y
theorem w85 (u : Int) (Q : Value → Prop) : codeU Tryd.prog (cwC [(98, con98)]) (oxE [10]) 1 (bodyOf Tryd.f85) (inTab [.int .u64 u, .int .i64 16] 8) (birth [] 64) (retW Tryd.prog Tryd.f85 fun v _ => Q v) = (true = true ∧ ∃ y : ByteArray, fmtF u 16 = some y ∧ Q (.string y)) := by kernel_rfl
theorem om85 {W : World} (hW : GoodW W) : OwnAll Tryd.prog W 6 85 con85.own :=
  con_opt e85 (Laying.empty hW.size) hW.size (by decide) dt_mixed (OwnsAll.con (om98 hW) (ownsAll_nil W 6)) Tryd.func85 (fn := Tryd.f85) (c := bodyOf Tryd.f85) (by kernel_rfl) (by kernel_rfl) (fun _ _ h => d85_enc h) (fun a => ⟨rfl, (by kernel_rfl)⟩) (fun b => rfl) fun a b h =>
    codeU_codeW (cwC_mono _) (oxE_ok _) (n := 1) (by kernel_rfl) ((w85 a _).mpr ⟨rfl, b, h, rfl⟩)
noncomputable def con77 : Con := Con.opt d85 (fun u => fmtF u 16) fun y => .string y
theorem w77 (u : Int) (Q : Value → Prop) : codeU Tryd.prog (cwC [(85, con85)]) (oxE []) 1 (bodyOf Tryd.f77) (inTab [.int .u64 u, .int .i64 16] 8) (birth [] 64) (retW Tryd.prog Tryd.f77 fun v _ => Q v) = (∃ y : ByteArray, fmtF u 16 = some y ∧ Q (.string y)) := by kernel_rfl
theorem om77 {W : World} (hW : GoodW W) : OwnAll Tryd.prog W 6 77 con77.own :=
  con_opt e85 (Laying.empty hW.size) hW.size (by decide) dt_mixed (OwnsAll.con (om85 hW) (ownsAll_nil W 6)) Tryd.func77 (fn := Tryd.f77) (c := bodyOf Tryd.f77) (by kernel_rfl) (by kernel_rfl) (fun _ _ h => d85_enc h) (fun a => ⟨rfl, (by kernel_rfl)⟩) (fun b => rfl) fun a b h =>
    codeU_codeW (cwC_mono _) (oxE_ok _) (n := 1) (by kernel_rfl) ((w77 a _).mpr ⟨b, h, rfl⟩)
theorem calls_of_own {f : FuncId} {fn : Func} {c : Code} {g : Own} {w : World} {args : List Value} {v : Value} (h : OwnAll Tryd.prog w 6 f g) (hG : GoodW w) (hf : Tryd.prog.funcs[f]? = some fn) (hb : fn.body = some c) (hn : (fn.name == "runtime.NumGoroutine") = false)
    (e : g args (birth [] 64) = some (v, birth [] 64)) (h1 : flat2L args = true) (h2 : flat v = true) (h3 : v ≠ und) :
    Calls Tryd.prog f ⟨args⟩ w fun e w' => e = .returned v ∧ Below w.heap.size w w' :=
  own_calls (h.2 w (Later.refl w)) (by decide) hG.size hf hb hn e h1 h2 h3
theorem st_fmt {n b : Int} {r : ByteArray} {w : World} (hG : GoodW w) (h : fmtF n b = some r) : Calls Tryd.prog 77 #[.int .u64 n, .int .i64 b] w fun e w' => e = .returned (.string r) ∧ Below w.heap.size w w' := by
  have hb : b = 16 := by
    unfold fmtF at h
    split at h
    · rename_i q; exact q.1
    · cases h
  subst hb
  exact calls_of_own (fn := Tryd.f77) (c := bodyOf Tryd.f77) (om77 hG) hG Tryd.func77 (by kernel_rfl) (by kernel_rfl) (args := e85 n) (v := .string r) (opt_own (dec := d85) (f := fun u => fmtF u 16) (enc := fun y => .string y) (a := n) (b := r) rfl h _) rfl rfl (by intro h; cases h)
end Go.Proofs.YtfnacgojmdbjmaaDoor
end

section
/- Groups of four signs, numbers in ten signs, an address's groups: what the functions answer. No conditions. -/
namespace Go.Proofs.YtfnacgojmdbjmaaDoor
open Go.Det Go.RowKit Go.Proofs.YtfnacgojmdbjmaaDoorW.PrintWords
set_option maxRecDepth 100000
def hexL : Int → List UInt8 → Option (Int × Bool)
  | n, [] => some (n, true)
  | n, c :: t => (idxF dig16 (orI .u8 (c.toNat : Int) 32)).bind fun x => if x < 0 then some (0, false) else if (c.toNat : Int) < 48 then some (0, false) else hexL (orI .u64 (shlI .u64 n 4) (IntKind.wrap .u64 x)) t
def hexF (s : ByteArray) : Option (Int × Bool) := if s.data.toList.length < 1 ∨ 4 < s.data.toList.length then some (0, false) else hexL 0 s.data.toList
theorem bsize (l : List UInt8) : ByteArray.size { data := { toList := l } } = l.length := rfl
theorem blen (l : List UInt8) : Array.toList (ByteArray.data { data := { toList := l } }) = l := rfl
theorem bcT {A B : Prop} : bifW (cdec True) A B = A := by rw [cdec_true.2 trivial]; rfl
theorem bcF {A B : Prop} : bifW (cdec False) A B = B := by rw [cdec_false.2 id]; rfl
theorem wi0 : IntKind.wrap .i64 0 = 0 := by decide
theorem wi5 : IntKind.wrap .i64 5 = 5 := by decide
theorem wi6 : IntKind.wrap .i64 6 = 6 := by decide
theorem wi7 : IntKind.wrap .i64 7 = 7 := by decide
theorem wi16 : IntKind.wrap .i64 16 = 16 := by decide
theorem wi32 : IntKind.wrap .i64 32 = 32 := by decide
theorem wi48 : IntKind.wrap .i64 48 = 48 := by decide
theorem wi1 : IntKind.wrap .i64 1 = 1 := by decide
theorem wi2 : IntKind.wrap .i64 2 = 2 := by decide
theorem wi3 : IntKind.wrap .i64 3 = 3 := by decide
theorem wi4 : IntKind.wrap .i64 4 = 4 := by decide
noncomputable def decB : List Value → Option ByteArray
  | [.string s] => some s
  | _ => none
theorem decB_enc {args : List Value} {a : ByteArray} (h : decB args = some a) : args = [.string a] := by
  unfold decB at h
  split at h
  case h_2 => cases h
  cases h; rfl
noncomputable def enIB (y : Int × Bool) : Value := .tuple #[.int .u64 y.1, .bool y.2]
theorem w83 (s : ByteArray) (y : Int × Bool) (hx : hexF s = some y) : codeW Tryd.prog (cwC [(92, con92)]) (bodyOf Tryd.f83) (inTab [.string s] 8) (birth [] 64) (retW Tryd.prog Tryd.f83 fun v' _ => v' = enIB y) := by
  obtain ⟨⟨l⟩⟩ := s
  unfold hexF at hx
  rw [blen] at hx
  match l, hx with
  | [], hx =>
    refine codeU_codeW (cwC_mono _) ox0_ok (by kernel_rfl) ((vh0 _).mpr ?_)
    simp only [zl, zF, zu, zd, zn, zs, zh]
    rw [if_pos (by simp)] at hx
    cases hx
    simp only [bsize, List.length_nil, Int.cast_ofNat_Int]
    exact bifW_t (by decide) rfl
  | [a], hx =>
    refine codeU_codeW (cwC_mono _) ox0_ok (by kernel_rfl) ((vh1 a _).mpr ?_)
    simp only [zl, zF, zu, zd, zn, zs, zh]
    rw [if_neg (by simp)] at hx
    simp only [hexL] at hx
    simp only [bsize, List.length_cons, List.length_nil, Nat.reduceAdd, Int.reduceAdd, wi1, wi2, wi3, wi4, Int.cast_ofNat_Int, Int.reduceLT, Int.reduceLE, bcT, bcF, true_and, and_true, and_false, false_and]
    repeat' first
      | (obtain ⟨y, hy, hx⟩ := Option.bind_eq_some_iff.1 hx; refine ⟨y, hy, ?_⟩)
      | ((refine bifW_c (fun hc => ?_) (fun hc => ?_)) <;> first | rw [if_pos hc] at hx | rw [if_neg hc] at hx)
      | (cases hx; rfl)
  | [a, b], hx =>
    refine codeU_codeW (cwC_mono _) ox0_ok (by kernel_rfl) ((vh2 a b _).mpr ?_)
    simp only [zl, zF, zu, zd, zn, zs, zh]
    rw [if_neg (by simp)] at hx
    simp only [hexL] at hx
    simp only [bsize, List.length_cons, List.length_nil, Nat.reduceAdd, Int.reduceAdd, wi1, wi2, wi3, wi4, Int.cast_ofNat_Int, Int.reduceLT, Int.reduceLE, bcT, bcF, true_and, and_true, and_false, false_and]
    repeat' first
      | (obtain ⟨y, hy, hx⟩ := Option.bind_eq_some_iff.1 hx; refine ⟨y, hy, ?_⟩)
      | ((refine bifW_c (fun hc => ?_) (fun hc => ?_)) <;> first | rw [if_pos hc] at hx | rw [if_neg hc] at hx)
      | (cases hx; rfl)
  | [a, b, c], hx =>
    refine codeU_codeW (cwC_mono _) ox0_ok (by kernel_rfl) ((vh3 a b c _).mpr ?_)
    simp only [zl, zF, zu, zd, zn, zs, zh]
    rw [if_neg (by simp)] at hx
    simp only [hexL] at hx
    simp only [bsize, List.length_cons, List.length_nil, Nat.reduceAdd, Int.reduceAdd, wi1, wi2, wi3, wi4, Int.cast_ofNat_Int, Int.reduceLT, Int.reduceLE, bcT, bcF, true_and, and_true, and_false, false_and]
    repeat' first
      | (obtain ⟨y, hy, hx⟩ := Option.bind_eq_some_iff.1 hx; refine ⟨y, hy, ?_⟩)
      | ((refine bifW_c (fun hc => ?_) (fun hc => ?_)) <;> first | rw [if_pos hc] at hx | rw [if_neg hc] at hx)
      | (cases hx; rfl)
  | [a, b, c, d], hx =>
    refine codeU_codeW (cwC_mono _) ox0_ok (by kernel_rfl) ((vh4 a b c d _).mpr ?_)
    simp only [zl, zF, zu, zd, zn, zs, zh]
    rw [if_neg (by simp)] at hx
    simp only [hexL] at hx
    simp only [bsize, List.length_cons, List.length_nil, Nat.reduceAdd, Int.reduceAdd, wi1, wi2, wi3, wi4, Int.cast_ofNat_Int, Int.reduceLT, Int.reduceLE, bcT, bcF, true_and, and_true, and_false, false_and]
    repeat' first
      | (obtain ⟨y, hy, hx⟩ := Option.bind_eq_some_iff.1 hx; refine ⟨y, hy, ?_⟩)
      | ((refine bifW_c (fun hc => ?_) (fun hc => ?_)) <;> first | rw [if_pos hc] at hx | rw [if_neg hc] at hx)
      | (cases hx; rfl)
  | a :: b :: c :: d :: e :: t, hx =>
    refine codeU_codeW (cwC_mono _) ox0_ok (by kernel_rfl) ((vh5 a b c d e t _).mpr ?_)
    simp only [zl, zF, zu, zd, zn, zs, zh]
    rw [if_pos (by simp)] at hx
    cases hx
    simp only [bsize, List.length_cons]
    exact bifW_f (by omega) (bifW_t (by omega) rfl)
noncomputable def con83 : Con := Con.opt decB hexF enIB
theorem om83 {W : World} (hW : GoodW W) : OwnAll Tryd.prog W 6 83 con83.own :=
  con_opt (fun s => [.string s]) (Laying.empty hW.size) hW.size (by decide) dt_mixed (OwnsAll.con (om92 hW) (ownsAll_nil W 6)) Tryd.func83 (fn := Tryd.f83) (c := bodyOf Tryd.f83) (by kernel_rfl) (by kernel_rfl) (fun _ _ h => decB_enc h) (fun a => ⟨rfl, (by kernel_rfl)⟩) (fun b => rfl) w83
theorem st_hex {s : ByteArray} {r1 : Int} {r2 : Bool} {w : World} (hG : GoodW w) (h : hexF s = some (r1, r2)) : Calls Tryd.prog 83 #[.string s] w fun e w' => e = .returned (.tuple #[.int .u64 r1, .bool r2]) ∧ Below w.heap.size w w' :=
  calls_of_own (fn := Tryd.f83) (c := bodyOf Tryd.f83) (om83 hG) hG Tryd.func83 (by kernel_rfl) (by kernel_rfl) (args := [.string s]) (v := enIB (r1, r2)) (opt_own (dec := decB) (f := hexF) (enc := enIB) (a := s) (b := (r1, r2)) rfl h _) rfl rfl (by intro h; cases h)
def numL (m : Int) : Int → List UInt8 → Option (Int × Bool)
  | n, [] => if m < n then some (0, false) else some (n, true)
  | n, c :: t => if (c.toNat : Int) < 48 then some (0, false) else if 57 < (c.toNat : Int) then some (0, false) else if IntKind.wrap .u64 (m.tdiv 10) < n then some (0, false) else if IntKind.wrap .u64 (m - if m < IntKind.wrap .u64 (IntKind.wrap .u8 ((c.toNat : Int) - 48)) then m else IntKind.wrap .u64 (IntKind.wrap .u8 ((c.toNat : Int) - 48))) < IntKind.wrap .u64 (10 * n) then some (0, false) else numL m (IntKind.wrap .u64 (IntKind.wrap .u64 (10 * n) + IntKind.wrap .u64 (IntKind.wrap .u8 ((c.toNat : Int) - 48)))) t
def numF (s : ByteArray) (m : Int) : Option (Int × Bool) :=
  if 0 ≤ m ∧ m ≤ 255 then (match s.data.toList with
    | [] => some (0, false)
    | c :: t => if (c.toNat : Int) = 48 then (if t = [] then numL m 0 [c] else some (0, false)) else numL m 0 (c :: t))
  else none
noncomputable def decBM : List Value → Option (ByteArray × Int)
  | [.string s, .int .u64 m] => some (s, m)
  | _ => none
theorem decBM_enc {args : List Value} {a : ByteArray × Int} (h : decBM args = some a) : args = [.string a.1, .int .u64 a.2] := by
  unfold decBM at h
  split at h
  case h_2 => cases h
  cases h; rfl
theorem nil_ba : Array.toList (ByteArray.data { data := #[] }) = [] := rfl
theorem getD0 (a : UInt8) (t : List UInt8) : List.getD (a :: t) 0 0 = a := rfl
theorem cons_nil (a : UInt8) (t : List UInt8) : ((a :: t) = []) = False := by simp
theorem xd (c : UInt8) (h1 : ¬ (c.toNat : Int) < 48) (h2 : ¬ 57 < (c.toNat : Int)) : IntKind.wrap .u64 (IntKind.wrap .u8 ((c.toNat : Int) - 48)) = (c.toNat : Int) - 48 := by
  have e : IntKind.wrap .u8 ((c.toNat : Int) - 48) = (c.toNat : Int) - 48 := by
    unfold IntKind.wrap
    simp [IntKind.signed, IntKind.bits]
    omega
  rw [e, Go.Det.wrapU ⟨by omega, by omega⟩]
theorem num4 {m : Int} (hm : 0 ≤ m ∧ m ≤ 255) {a b c : UInt8} (h0 : ¬ (a.toNat : Int) = 48) (a1 : ¬ (a.toNat : Int) < 48) (a2 : ¬ 57 < (a.toNat : Int)) (b1 : ¬ (b.toNat : Int) < 48) (b2 : ¬ 57 < (b.toNat : Int)) (c1 : ¬ (c.toNat : Int) < 48) (c2 : ¬ 57 < (c.toNat : Int)) :
    IntKind.wrap .u64 (m.tdiv 10) < IntKind.wrap .u64 (IntKind.wrap .u64 (10 * IntKind.wrap .u64 (IntKind.wrap .u64 (10 * IntKind.wrap .u64 (IntKind.wrap .u64 (10 * 0) + IntKind.wrap .u64 (IntKind.wrap .u8 ((a.toNat : Int) - 48)))) + IntKind.wrap .u64 (IntKind.wrap .u8 ((b.toNat : Int) - 48)))) + IntKind.wrap .u64 (IntKind.wrap .u8 ((c.toNat : Int) - 48))) := by
  obtain ⟨k, rfl⟩ := Int.eq_ofNat_of_zero_le hm.1
  rw [xd a a1 a2, xd b b1 b2, xd c c1 c2, show Int.tdiv (k : Int) 10 = ((k / 10 : Nat) : Int) from rfl, Go.Det.wrapU (x := ((k / 10 : Nat) : Int)) ⟨by omega, by omega⟩, Go.Det.wrapU (x := 10 * 0) ⟨by omega, by omega⟩]
  rw [Go.Det.wrapU (x := 10 * 0 + ((a.toNat : Int) - 48)) ⟨by omega, by omega⟩, Go.Det.wrapU (x := 10 * (10 * 0 + ((a.toNat : Int) - 48))) ⟨by omega, by omega⟩, Go.Det.wrapU (x := 10 * (10 * 0 + ((a.toNat : Int) - 48)) + ((b.toNat : Int) - 48)) ⟨by omega, by omega⟩, Go.Det.wrapU (x := 10 * (10 * (10 * 0 + ((a.toNat : Int) - 48)) + ((b.toNat : Int) - 48))) ⟨by omega, by omega⟩, Go.Det.wrapU ⟨by omega, by omega⟩]
  omega
theorem w61 (x : ByteArray × Int) (y : Int × Bool) (hx : numF x.1 x.2 = some y) : codeW Tryd.prog (cwC []) (bodyOf Tryd.f61) (inTab [.string x.1, .int .u64 x.2] 8) (birth [] 64) (retW Tryd.prog Tryd.f61 fun v' _ => v' = enIB y) := by
  obtain ⟨⟨⟨l⟩⟩, m⟩ := x
  unfold numF at hx
  simp only [blen] at hx
  split at hx
  case isFalse => cases hx
  rename_i hm
  match l, hx with
  | [], hx =>
    refine codeU_codeW (cwC_mono _) ox0_ok (by kernel_rfl) ((vn0 m _).mpr ?_)
    simp only [zl, zF, zu, zd, zn, zs, zh]
    cases hx
    simp only [blen, nil_ba, bcT]
    rfl
  | [a], hx =>
    refine codeU_codeW (cwC_mono _) ox0_ok (by kernel_rfl) ((vn1 a m _).mpr ?_)
    simp only [zl, zF, zu, zd, zn, zs, zh]
    simp only [numL, if_true, reduceCtorEq, if_false] at hx
    simp only [bsize, blen, nil_ba, cons_nil, Int.toNat_zero, getD0, List.length_cons, List.length_nil, Nat.reduceAdd, Int.reduceAdd, wi1, wi2, wi3, wi4, Int.cast_ofNat_Int, Int.reduceLT, Int.reduceLE, bcT, bcF, true_and, and_true, and_false, false_and, ne_eq, Int.reduceEq, not_false_eq_true]
    repeat' first
      | ((refine bifW_c (fun hc => ?_) (fun hc => ?_)) <;> first | rw [if_pos hc] at hx | rw [if_neg hc] at hx)
      | (cases hx; rfl)
  | [a, b], hx =>
    refine codeU_codeW (cwC_mono _) ox0_ok (by kernel_rfl) ((vn2 a b m _).mpr ?_)
    simp only [zl, zF, zu, zd, zn, zs, zh]
    simp only [numL, if_true, reduceCtorEq, if_false] at hx
    simp only [bsize, blen, nil_ba, cons_nil, Int.toNat_zero, getD0, List.length_cons, List.length_nil, Nat.reduceAdd, Int.reduceAdd, wi1, wi2, wi3, wi4, Int.cast_ofNat_Int, Int.reduceLT, Int.reduceLE, bcT, bcF, true_and, and_true, and_false, false_and, ne_eq, Int.reduceEq, not_false_eq_true]
    repeat' first
      | ((refine bifW_c (fun hc => ?_) (fun hc => ?_)) <;> first | rw [if_pos hc] at hx | rw [if_neg hc] at hx)
      | (cases hx; rfl)
  | [a, b, c], hx =>
    refine codeU_codeW (cwC_mono _) ox0_ok (by kernel_rfl) ((vn3 a b c m _).mpr ?_)
    simp only [zl, zF, zu, zd, zn, zs, zh]
    simp only [numL, if_true, reduceCtorEq, if_false] at hx
    simp only [bsize, blen, nil_ba, cons_nil, Int.toNat_zero, getD0, List.length_cons, List.length_nil, Nat.reduceAdd, Int.reduceAdd, wi1, wi2, wi3, wi4, Int.cast_ofNat_Int, Int.reduceLT, Int.reduceLE, bcT, bcF, true_and, and_true, and_false, false_and, ne_eq, Int.reduceEq, not_false_eq_true]
    repeat' first
      | ((refine bifW_c (fun hc => ?_) (fun hc => ?_)) <;> first | rw [if_pos hc] at hx | rw [if_neg hc] at hx)
      | (cases hx; rfl)
  | a :: b :: c :: d :: t, hx =>
    refine codeU_codeW (cwC_mono _) ox0_ok (by kernel_rfl) ((vn4 a b c d t m _).mpr ?_)
    simp only [zl, zF, zu, zd, zn, zs, zh]
    simp only [numL, if_true, reduceCtorEq, if_false] at hx
    simp only [bsize, blen, nil_ba, cons_nil, Int.toNat_zero, getD0, List.length_cons, List.length_nil, Nat.reduceAdd, Int.reduceAdd, wi1, wi2, wi3, wi4, Int.cast_ofNat_Int, Int.reduceLT, Int.reduceLE, bcT, bcF, true_and, and_true, and_false, false_and, ne_eq, Int.reduceEq, not_false_eq_true]
    have hz : ((0 : Int) < ((t.length + 1 + 1 + 1 + 1 : Nat) : Int)) := by omega
    have ho : ((1 : Int) < ((t.length + 1 + 1 + 1 + 1 : Nat) : Int)) := by omega
    have h2 : ((2 : Int) < ((t.length + 1 + 1 + 1 + 1 : Nat) : Int)) := by omega
    have h3 : ((3 : Int) < ((t.length + 1 + 1 + 1 + 1 : Nat) : Int)) := by omega
    simp only [eq_true hz, eq_true ho, eq_true h2, eq_true h3, bcT, and_true, true_and]
    repeat' first
      | ((refine bifW_c (fun hc => ?_) (fun hc => ?_)) <;> first | rw [if_pos hc] at hx | rw [if_neg hc] at hx)
      | (cases hx; rfl)
    exact absurd (num4 hm ‹¬ (a.toNat : Int) = 48› ‹¬ (a.toNat : Int) < 48› ‹¬ 57 < (a.toNat : Int)› ‹¬ (b.toNat : Int) < 48› ‹¬ 57 < (b.toNat : Int)› ‹¬ (c.toNat : Int) < 48› ‹¬ 57 < (c.toNat : Int)›) (by assumption)
noncomputable def con61 : Con := Con.opt decBM (fun x => numF x.1 x.2) enIB
theorem om61 {W : World} (hW : GoodW W) : OwnAll Tryd.prog W 6 61 con61.own :=
  con_opt (fun x : ByteArray × Int => [.string x.1, .int .u64 x.2]) (Laying.empty hW.size) hW.size (by decide) dt_mixed (ownsAll_nil W 6) Tryd.func61 (fn := Tryd.f61) (c := bodyOf Tryd.f61) (by kernel_rfl) (by kernel_rfl) (fun _ _ h => decBM_enc h) (fun a => ⟨rfl, (by kernel_rfl)⟩) (fun b => rfl) w61
theorem st_num {s : ByteArray} {m r1 : Int} {r2 : Bool} {w : World} (hG : GoodW w) (h : numF s m = some (r1, r2)) : Calls Tryd.prog 61 #[.string s, .int .u64 m] w fun e w' => e = .returned (.tuple #[.int .u64 r1, .bool r2]) ∧ Below w.heap.size w w' :=
  calls_of_own (fn := Tryd.f61) (c := bodyOf Tryd.f61) (om61 hG) hG Tryd.func61 (by kernel_rfl) (by kernel_rfl) (args := [.string s, .int .u64 m]) (v := enIB (r1, r2)) (opt_own (dec := decBM) (f := fun x => numF x.1 x.2) (enc := enIB) (a := (s, m)) (b := (r1, r2)) rfl h _) rfl rfl (by intro h; cases h)
def partL (a : Int) : List Int := [andI .u64 (shrI .u64 a 48) 65535, andI .u64 (shrI .u64 a 32) 65535, andI .u64 (shrI .u64 a 16) 65535, andI .u64 (shrI .u64 a 0) 65535]
def partsF (x : Int × Int) : Option (List Value) := some ((partL x.1 ++ partL x.2).map (Value.int .u64))
theorem w56 (x : Int × Int) (cs : List Value) (hx : partsF x = some cs) : codeW Tryd.prog (cwC []) (bodyOf Tryd.f56) (inTab [.agg #[.int .u64 x.1, .int .u64 x.2]] 8) (birth [] 64) (retW Tryd.prog Tryd.f56 fun v' s' => ∃ k, v' = .slice (some ⟨k, 0, none⟩) 8 8 ∧ s'.h.get k = some (.cells cs 55 false)) := by
  obtain ⟨a, b⟩ := x
  cases hx
  have h := vparts a b (andI .u64 (shrI .u64 a 48) 65535) (andI .u64 (shrI .u64 a 32) 65535) (andI .u64 (shrI .u64 a 16) 65535) (andI .u64 (shrI .u64 a 0) 65535) (andI .u64 (shrI .u64 b 48) 65535) (andI .u64 (shrI .u64 b 32) 65535) (andI .u64 (shrI .u64 b 16) 65535) (andI .u64 (shrI .u64 b 0) 65535)
  refine codeW_mono (cwC_mono _) _ (fun e l s q => retW_mono (fun v s q => ?_) q) (codeU_codeW (cwC_mono _) ox0_ok (by kernel_rfl) (h.mpr ?_))
  · exact ⟨65, q.1, blkW_get q.2⟩
  · simp only [Int.reduceMul, Int.reduceAdd, Int.reduceSub, wi0, wi1, wi2, wi3, wi4, wi5, wi6, wi7, wi16, wi32, wi48, Int.reduceLT, Int.reduceLE, Int.reduceToNat, Int.cast_ofNat_Int, bcT, bcF, true_and, and_true]
noncomputable def decQ2 : List Value → Option (Int × Int)
  | [.agg ⟨[.int .u64 a, .int .u64 b]⟩] => some (a, b)
  | _ => none
theorem decQ2_enc {args : List Value} {a : Int × Int} (h : decQ2 args = some a) : args = [.agg #[.int .u64 a.1, .int .u64 a.2]] := by
  unfold decQ2 at h
  split at h
  case h_2 => cases h
  cases h; rfl
noncomputable def con56 : Con := Con.made decQ2 partsF 8 55
theorem om56 {W : World} (hW : GoodW W) : OwnAll Tryd.prog W 6 56 con56.own :=
  own_made (cw := cwC []) (l := extC []) (fun x : Int × Int => [.agg #[.int .u64 x.1, .int .u64 x.2]]) (Laying.empty hW.size) hW.size (by decide) dt_mixed (ownsAll_nil W 6) (cwC_ok []) Tryd.func56 (fn := Tryd.f56) (c := bodyOf Tryd.f56) (by kernel_rfl) (by kernel_rfl) (by decide) (fun _ _ h => decQ2_enc h) (fun a => ⟨rfl, (by kernel_rfl)⟩) fun a cs h => ⟨fun v hv => by
    cases h
    obtain ⟨x, _, rfl⟩ := List.mem_map.1 hv
    rfl, w56 a cs h⟩
end Go.Proofs.YtfnacgojmdbjmaaDoor
end
