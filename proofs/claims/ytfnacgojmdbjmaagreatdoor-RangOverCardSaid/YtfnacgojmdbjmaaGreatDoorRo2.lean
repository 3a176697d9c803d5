/- A part of an evaluator of closed runs and of its soundness. -/
import Derived.Test.YtfnacgojmdbjmaaGreatDoorRo1
import Derived.Laws.Externs
namespace Go.Det
variable {P : Program}

abbrev Own := List Value → St → Option (Value × St)
def OwnTr (g : Own) : Prop := ∀ args, Tr (g args)
def OwnOk (P : Program) (w0 : World) (G : Nat) (f : FuncId) (g : Own) : Prop := ∀ args s v s', g args s = some (v, s') → ∀ φ w args', HR φ s.h w0 w → Glob G φ → VRL φ args args' → (∀ id, s.next ≤ id → id < s'.hi → φ id = none) → Full s'.hi s →
    Gives P w0 φ s.next s' v ((callFunc f ⟨args'⟩).run P w)

noncomputable def extL : List (Nat × Own) → Intr
  | [] => fun _ => none
  | x :: t => fun f => match Nat.beq x.1 f with | true => some x.2 | false => extL t f
theorem extL_mem : ∀ {l : List (Nat × Own)} {f : FuncId} {g : Own}, extL l f = some g → (f, g) ∈ l
  | [], f, g, h => by cases h
  | x :: t, f, g, h => by
    unfold extL at h
    split at h
    · rename_i hb
      cases h
      rw [← Nat.eq_of_beq_eq_true hb]
      exact List.mem_cons_self
    · exact List.mem_cons_of_mem _ (extL_mem h)
theorem extL_tr {l : List (Nat × Own)} (h : ∀ x ∈ l, OwnTr x.2) : IntrTr (extL l) := fun _ _ e => h _ (extL_mem e)
theorem extL_ok {w0 : World} {G : Nat} {l : List (Nat × Own)} (h : ∀ x ∈ l, OwnOk P w0 G x.1 x.2) : IntrOk P w0 G (extL l) := fun _ _ e => h _ (extL_mem e)

/-! an answer that hangs on the arguments alone -/
noncomputable def pureD (h : List Value → Option Value) : Own := fun args s => match h args with | some v => some (v, s) | none => none
theorem pureD_tr (h : List Value → Option Value) : OwnTr (pureD h) := fun args => pure_tr (h args) fun s => by unfold pureD; cases h args <;> rfl
theorem pureD_ok {w0 : World} {G : Nat} {f : FuncId} {h : List Value → Option Value} (k : ∀ args v, h args = some v → flat2L args = true ∧ flat v = true ∧ ∀ w, (callFunc f ⟨args⟩).run P w = .ok (.value v) w) : OwnOk P w0 G f (pureD h) := by
  intro args s v s' e φ w args' H _ hA _ _
  unfold pureD at e
  split at e
  · rename_i r hr
    cases e
    obtain ⟨h1, h2, h3⟩ := k args v hr
    rw [flat2L_inv h1 hA, h3 w]
    exact ⟨φ, Ext.refl _ _ _, flat_self h2 φ, H⟩
  · cases e

/-- a function of the library without a body, and its entry -/
def Entry (P : Program) (f : FuncId) (e : Array Value → Sem Value) : Prop := ∀ args w, (callFunc f args).run P w = ((e args).run P w).andThen fun v w' => .ok (.value v) w'
theorem Entry.mk {f : FuncId} {fn : Func} {e : Array Value → Sem Value} (hf : P.funcs[f]? = some fn) (hname : (fn.name == "runtime.NumGoroutine") = false)
    (hb : fn.body.isNone = true) (hn : Extern.findNext fn = none) (he : Extern.find fn = some e) : Entry P f e := fun args w => run_callFunc_extern hf hname hb hn he args w

def sub64Entry : Array Value → Sem Value := fun args => do
  let (x, y, b) ← Extern.MathBitsCarry.three "Sub64" args
  pure (Extern.MathBitsCarry.pair ((x + Extern.MathBitsCarry.m64 - y - b) % Extern.MathBitsCarry.m64) (if x < y + b then 1 else 0))

noncomputable def addH : List Value → Option Value
  | [.int .u64 x, .int .u64 y, .int .u64 c] => match Nat.ble c.toNat 1 with
    | true => some (.tuple #[.int .u64 (((x.toNat + y.toNat + c.toNat) % 18446744073709551616 : Nat) : Int), .int .u64 (((x.toNat + y.toNat + c.toNat) / 18446744073709551616 : Nat) : Int)])
    | false => none
  | _ => none
noncomputable def subH : List Value → Option Value
  | [.int .u64 x, .int .u64 y, .int .u64 c] => match Nat.ble c.toNat 1 with
    | true => some (.tuple #[.int .u64 (((x.toNat + 18446744073709551616 - y.toNat - c.toNat) % 18446744073709551616 : Nat) : Int),
        .int .u64 ((match Nat.ble (y.toNat + c.toNat) x.toNat with | true => (0 : Nat) | false => 1 : Nat) : Int)])
    | false => none
  | _ => none

theorem add64_ok {w0 : World} {G : Nat} {f : FuncId} (he : Entry P f add64Entry) : OwnOk P w0 G f (pureD addH) := by
  refine pureD_ok fun args v h => ?_
  unfold addH at h
  split at h
  case h_2 => cases h
  rename_i x y c
  split at h
  case h_2 => cases h
  rename_i hc
  have hc := Nat.le_of_ble_eq_true hc
  cases h
  refine ⟨rfl, rfl, fun w => ?_⟩
  rw [he]
  have key : (add64Entry #[.int .u64 x, .int .u64 y, .int .u64 c]).run P w = .ok (Extern.MathBitsCarry.pair ((x.toNat + y.toNat + c.toNat) % Extern.MathBitsCarry.m64) ((x.toNat + y.toNat + c.toNat) / Extern.MathBitsCarry.m64)) w := by
    match c, hc with
    | .ofNat 0, _ => rfl
    | .ofNat 1, _ => rfl
    | .negSucc _, _ => rfl
  exact congrArg (fun r : Result Value => Result.andThen r fun v w' => Result.ok (Next.value v) w') key

theorem sub64_ok {w0 : World} {G : Nat} {f : FuncId} (he : Entry P f sub64Entry) : OwnOk P w0 G f (pureD subH) := by
  refine pureD_ok fun args v h => ?_
  unfold subH at h
  split at h
  case h_2 => cases h
  rename_i x y c
  split at h
  case h_2 => cases h
  rename_i hc
  have hc := Nat.le_of_ble_eq_true hc
  cases h
  refine ⟨rfl, rfl, fun w => ?_⟩
  rw [he]
  have h2 : (if x.toNat < y.toNat + c.toNat then 1 else 0) = (match Nat.ble (y.toNat + c.toNat) x.toNat with | true => (0 : Nat) | false => 1) := by
    cases hb : Nat.ble (y.toNat + c.toNat) x.toNat with
    | true => have := Nat.le_of_ble_eq_true hb; rw [if_neg (by omega)]
    | false =>
      have : ¬ (y.toNat + c.toNat ≤ x.toNat) := fun q => by rw [Nat.ble_eq_true_of_le q] at hb; cases hb
      rw [if_pos (by omega)]
  rw [← h2]
  have key : (sub64Entry #[.int .u64 x, .int .u64 y, .int .u64 c]).run P w = .ok (Extern.MathBitsCarry.pair ((x.toNat + Extern.MathBitsCarry.m64 - y.toNat - c.toNat) % Extern.MathBitsCarry.m64) (if x.toNat < y.toNat + c.toNat then 1 else 0)) w := by
    match c, hc with
    | .ofNat 0, _ => rfl
    | .ofNat 1, _ => rfl
    | .negSucc _, _ => rfl
  exact congrArg (fun r : Result Value => Result.andThen r fun v w' => Result.ok (Next.value v) w') key

/-! a call whose answer is known once for all: a closed run -/
noncomputable def doneD : Own := fun args s => match args with | [] => some (.bool true, s) | _ => none
theorem doneD_tr : OwnTr doneD := fun args => by
  cases args with
  | nil => exact pure_tr (some (.bool true)) fun _ => rfl
  | cons a t => exact none_tr fun _ => rfl

theorem HR.keep {φ : Ren} {h : Heap} {w0 w w' : World} (H : HR φ h w0 w) (k : Kept w w') (ht : w'.tape = w.tape) : HR φ h w0 w' := by
  refine ⟨k.os.trans H.os, k.output.trans H.output, ht.trans H.tape, Nat.le_trans H.size k.size, fun b hb => (k.old b (Nat.lt_of_lt_of_le hb H.size)).trans (H.old b hb), fun id b sh sz e => Nat.lt_of_lt_of_le (H.dom _ _ _ _ e) k.size, fun id cs e ro g => ?_, H.inj, fun id es g => ?_, H.oinj⟩
  · obtain ⟨b, sh, sz, c, fz, q⟩ := H.cells _ _ _ _ g
    exact ⟨b, sh, sz, c, fz, q.at_, (k.old b (H.dom _ _ _ _ q.at_)).trans q.blk, q.exact_, q.size, q.fit, q.cell, q.mine⟩
  · obtain ⟨b, sh, sz, O, q⟩ := H.obs _ _ g
    exact ⟨b, sh, sz, O, q.at_, (k.old b (H.dom _ _ _ _ q.at_)).trans q.blk, q.zero, q.mine, q.ob⟩

theorem Laying.move {G : Nat} {W w : World} {h : Heap} (L : Laying G W h) (hs : W.heap.size ≤ w.heap.size) (hold : ∀ b, b < W.heap.size → w.heap[b]? = W.heap[b]?) (hG : G ≤ W.heap.size) : Laying G w h := by
  have hg : glob G w = glob G W := by
    funext g
    unfold glob
    by_cases q : g < G
    · rw [if_pos q, if_pos q, hold g (by omega)]
    · rw [if_neg q, if_neg q]
  refine ⟨⟨rfl, rfl, rfl, Nat.le_refl _, fun _ _ => rfl, fun id b sh sz e => ?_, fun id cs e ro q => ?_, fun i j ci ei cj ej r bi si zi bj sj zj hij gi gj ai aj => ?_, fun id es q => absurd q (L.nomp id es), fun i j ei ej bi si zi bj sj zj hij gi _ _ _ => absurd gi (L.nomp i ei)⟩, L.ro, L.nomp, L.top⟩
  · rw [hg] at e; exact Nat.lt_of_lt_of_le (L.hr.dom _ _ _ _ e) hs
  · obtain ⟨b, sh, sz, c, fz, k⟩ := L.hr.cells _ _ _ _ q
    have hr := L.ro _ _ _ _ q
    exact ⟨b, sh, sz, c, fz, by rw [hg]; exact k.at_, (hold b (L.hr.dom _ _ _ _ k.at_)).trans k.blk, k.exact_, k.size, k.fit, fun i hi => by rw [hg]; exact k.cell i hi, fun hn => by rw [hr] at hn; cases hn⟩
  · rw [hg] at ai aj; exact L.hr.inj _ _ _ _ _ _ _ _ _ _ _ _ _ hij gi gj ai aj

/-- a function without arguments that a closed run shows to answer true -/
theorem done_ok {W : World} {G mask N n k top : Nat} {ext : Intr} {f : FuncId} {fn : Func} {c : Code} {h : Heap} (L : Laying G W h) (hGW : G ≤ W.heap.size) (hGt : G ≤ top)
    (hm : P.follows .mixedOrders = true) (hok : (Nat.ble (mask + 1) (Nat.shiftLeft 1 N) && okMask P G mask N) = true) (hit : IntrTr ext) (hio : ∀ w, W.heap.size ≤ w.heap.size → (∀ b, b < W.heap.size → w.heap[b]? = W.heap[b]?) → IntrOk P w G ext)
    (hf : P.funcs[f]? = some fn) (hb : fn.body = some c) (hn : (fn.name == "runtime.NumGoroutine") = false)
    (e : isTrue (callD P (mkIntr mask ext) n k f [] (birth h top)) = true) : OwnOk P W G f doneD := by
  intro args s v s' ed φ w args' H _ hA _ _
  unfold doneD at ed
  split at ed
  case h_2 => cases ed
  cases ed
  rw [hA.of_nil, callFunc_run hf hb hn]
  have Lw := L.move H.size H.old hGW
  obtain ⟨s1, e⟩ := isTrue_some e
  refine (run_call (args := []) hm hok hit (hio w H.size H.old) hf hb hn Lw.hr (glob_glob G w) (VRL.nil _) (glob_top G w hGt) (fun id q => Lw.top id (Nat.le_trans hGt q)) e).mono ?_
  rintro e W' ⟨v', φ', rfl, _, hv, H'⟩
  rw [bool_inv hv]
  exact ⟨.bool true, φ, rfl, Ext.refl _ _ _, .bool true, H.keep H'.kept H'.tape⟩

/-! rows by number -/
theorem mark_split {m : Nat} (h0 : 0 < m) (h1 : m < 256) (n : Int) : ∃ k, k < m ∧ markOk (131072 * k + 2 * m) n := by
  have hm : (0 : Int) < (m : Int) := by omega
  refine ⟨((n % 256) % (m : Int)).toNat, ?_, .inl ⟨by omega, by omega, ?_⟩⟩
  · have := Int.emod_lt_of_pos (n % 256) hm
    have := Int.emod_nonneg (n % 256) (show (m : Int) ≠ 0 by omega)
    omega
  · have := Int.emod_nonneg (n % 256) (show (m : Int) ≠ 0 by omega)
    generalize hk : ((n % 256) % (m : Int)).toNat = k
    rw [show (131072 * k + 2 * m) / 2 % 65536 = m by omega, show (131072 * k + 2 * m) / 131072 = k by omega]
    omega
/-- the last k bits -/
theorem mark_bits {k : Nat} (hk : k ≤ 15) (n : Int) : ∃ r, r < 2 ^ k ∧ markOk (131072 * r + 2 * (256 + k)) n := by
  have hp : (0 : Int) < ((2 ^ k : Nat) : Int) := by have := Nat.two_pow_pos k; omega
  refine ⟨(n % ((2 ^ k : Nat) : Int)).toNat, ?_, .inr (.inr ⟨by omega, by omega, ?_⟩)⟩
  · have := Int.emod_lt_of_pos n hp
    have := Int.emod_nonneg n (show ((2 ^ k : Nat) : Int) ≠ 0 by omega)
    omega
  · have := Int.emod_nonneg n (show ((2 ^ k : Nat) : Int) ≠ 0 by omega)
    generalize hr : (n % ((2 ^ k : Nat) : Int)).toNat = r
    rw [show (131072 * r + 2 * (256 + k)) / 2 % 65536 - 256 = k by omega, show (131072 * r + 2 * (256 + k)) / 131072 = r by omega]
    omega
noncomputable def allBelow (p : Nat → Bool) : Nat → Bool
  | 0 => true
  | n + 1 => p n && allBelow p n
theorem allBelow_at {p : Nat → Bool} : ∀ {n : Nat}, allBelow p n = true → ∀ k, k < n → p k = true
  | 0, _, k, hk => by omega
  | n + 1, h, k, hk => by
    simp only [allBelow, Bool.and_eq_true] at h
    by_cases e : k = n
    · rw [e]; exact h.1
    · exact allBelow_at h.2 k (by omega)
/-- the k-th of m rows, whatever the number is that it is taken by -/
noncomputable def rowArg (m k : Nat) : Value := .float .f32 (131072 * k + 2 * m)
/-- a number of whose last k bits this is known -/
noncomputable def bitsArg (k r : Nat) : Value := .float .f32 (131072 * r + 2 * (256 + k))

end Go.Det
