/- Texts of a proof, joined: words of the print (those that are named here) and printed functions. -/
import Derived.Test.YtfnacgojmdbjmaaDoorPh1
import Derived.Laws.Externs

section
/- A part of an evaluator of closed runs and of its soundness. -/
namespace Go.Det
variable {P : Program}

abbrev Own := List Value → St → Option (Value × St)
def OwnTr (g : Own) : Prop := ∀ args, Tr (g args)
def OwnOk (P : Program) (w0 : World) (G : Nat) (f : FuncId) (g : Own) : Prop := ∀ args s v s', g args s = some (v, s') → ∀ φ w args', HR φ s.h w0 w → Glob G φ → VRL φ args args' → (∀ id, s.next ≤ id → id < s'.hi → φ id = none) → Full s'.hi s →
    Gives P w0 φ s.next s' v ((callFunc f ⟨args'⟩).run P w)

noncomputable def extL : List (Nat × Own) → Intr
  | [] => fun _ => none
  | x :: t => fun f => match Nat.beq x.1 f with | true => some x.2 | false => extL t f
theorem extL_mem : ∀ {l : List (Nat × Own)} {f : FuncId} {g : Own}, extL l f = some g → (f, g) ∈ l
  | [], f, g, h => by cases h
  | x :: t, f, g, h => by
    unfold extL at h
    split at h
    · rename_i hb
      cases h
      rw [← Nat.eq_of_beq_eq_true hb]
      exact List.mem_cons_self
    · exact List.mem_cons_of_mem _ (extL_mem h)
theorem extL_tr {l : List (Nat × Own)} (h : ∀ x ∈ l, OwnTr x.2) : IntrTr (extL l) := fun _ _ e => h _ (extL_mem e)
theorem extL_ok {w0 : World} {G : Nat} {l : List (Nat × Own)} (h : ∀ x ∈ l, OwnOk P w0 G x.1 x.2) : IntrOk P w0 G (extL l) := fun _ _ e => h _ (extL_mem e)

/-! an answer that hangs on the arguments alone -/
noncomputable def pureD (h : List Value → Option Value) : Own := fun args s => match h args with | some v => some (v, s) | none => none
theorem pureD_tr (h : List Value → Option Value) : OwnTr (pureD h) := fun args => pure_tr (h args) fun s => by unfold pureD; cases h args <;> rfl
theorem pureD_ok {w0 : World} {G : Nat} {f : FuncId} {h : List Value → Option Value} (k : ∀ args v, h args = some v → flat2L args = true ∧ flat v = true ∧ ∀ w, (callFunc f ⟨args⟩).run P w = .ok (.value v) w) : OwnOk P w0 G f (pureD h) := by
  intro args s v s' e φ w args' H _ hA _ _
  unfold pureD at e
  split at e
  · rename_i r hr
    cases e
    obtain ⟨h1, h2, h3⟩ := k args v hr
    rw [flat2L_inv h1 hA, h3 w]
    exact ⟨φ, Ext.refl _ _ _, flat_self h2 φ, H⟩
  · cases e

/-- a function of the library without a body, and its entry -/
def Entry (P : Program) (f : FuncId) (e : Array Value → Sem Value) : Prop := ∀ args w, (callFunc f args).run P w = ((e args).run P w).andThen fun v w' => .ok (.value v) w'
theorem Entry.mk {f : FuncId} {fn : Func} {e : Array Value → Sem Value} (hf : P.funcs[f]? = some fn) (hname : (fn.name == "runtime.NumGoroutine") = false)
    (hb : fn.body.isNone = true) (hn : Extern.findNext fn = none) (he : Extern.find fn = some e) : Entry P f e := fun args w => run_callFunc_extern hf hname hb hn he args w

def sub64Entry : Array Value → Sem Value := fun args => do
  let (x, y, b) ← Extern.MathBitsCarry.three "Sub64" args
  pure (Extern.MathBitsCarry.pair ((x + Extern.MathBitsCarry.m64 - y - b) % Extern.MathBitsCarry.m64) (if x < y + b then 1 else 0))

noncomputable def addH : List Value → Option Value
  | [.int .u64 x, .int .u64 y, .int .u64 c] => match Nat.ble c.toNat 1 with
    | true => some (.tuple #[.int .u64 (((x.toNat + y.toNat + c.toNat) % 18446744073709551616 : Nat) : Int), .int .u64 (((x.toNat + y.toNat + c.toNat) / 18446744073709551616 : Nat) : Int)])
    | false => none
  | _ => none
noncomputable def subH : List Value → Option Value
  | [.int .u64 x, .int .u64 y, .int .u64 c] => match Nat.ble c.toNat 1 with
    | true => some (.tuple #[.int .u64 (((x.toNat + 18446744073709551616 - y.toNat - c.toNat) % 18446744073709551616 : Nat) : Int),
        .int .u64 ((match Nat.ble (y.toNat + c.toNat) x.toNat with | true => (0 : Nat) | false => 1 : Nat) : Int)])
    | false => none
  | _ => none

theorem add64_ok {w0 : World} {G : Nat} {f : FuncId} (he : Entry P f add64Entry) : OwnOk P w0 G f (pureD addH) := by
  refine pureD_ok fun args v h => ?_
  unfold addH at h
  split at h
  case h_2 => cases h
  rename_i x y c
  split at h
  case h_2 => cases h
  rename_i hc
  have hc := Nat.le_of_ble_eq_true hc
  cases h
  refine ⟨rfl, rfl, fun w => ?_⟩
  rw [he]
  have key : (add64Entry #[.int .u64 x, .int .u64 y, .int .u64 c]).run P w = .ok (Extern.MathBitsCarry.pair ((x.toNat + y.toNat + c.toNat) % Extern.MathBitsCarry.m64) ((x.toNat + y.toNat + c.toNat) / Extern.MathBitsCarry.m64)) w := by
    match c, hc with
    | .ofNat 0, _ => rfl
    | .ofNat 1, _ => rfl
    | .negSucc _, _ => rfl
  exact congrArg (fun r : Result Value => Result.andThen r fun v w' => Result.ok (Next.value v) w') key

theorem sub64_ok {w0 : World} {G : Nat} {f : FuncId} (he : Entry P f sub64Entry) : OwnOk P w0 G f (pureD subH) := by
  refine pureD_ok fun args v h => ?_
  unfold subH at h
  split at h
  case h_2 => cases h
  rename_i x y c
  split at h
  case h_2 => cases h
  rename_i hc
  have hc := Nat.le_of_ble_eq_true hc
  cases h
  refine ⟨rfl, rfl, fun w => ?_⟩
  rw [he]
  have h2 : (if x.toNat < y.toNat + c.toNat then 1 else 0) = (match Nat.ble (y.toNat + c.toNat) x.toNat with | true => (0 : Nat) | false => 1) := by
    cases hb : Nat.ble (y.toNat + c.toNat) x.toNat with
    | true => have := Nat.le_of_ble_eq_true hb; rw [if_neg (by omega)]
    | false =>
      have : ¬ (y.toNat + c.toNat ≤ x.toNat) := fun q => by rw [Nat.ble_eq_true_of_le q] at hb; cases hb
      rw [if_pos (by omega)]
  rw [← h2]
  have key : (sub64Entry #[.int .u64 x, .int .u64 y, .int .u64 c]).run P w = .ok (Extern.MathBitsCarry.pair ((x.toNat + Extern.MathBitsCarry.m64 - y.toNat - c.toNat) % Extern.MathBitsCarry.m64) (if x.toNat < y.toNat + c.toNat then 1 else 0)) w := by
    match c, hc with
    | .ofNat 0, _ => rfl
    | .ofNat 1, _ => rfl
    | .negSucc _, _ => rfl
  exact congrArg (fun r : Result Value => Result.andThen r fun v w' => Result.ok (Next.value v) w') key

/-! a call whose answer is known once for all: a closed run -/
noncomputable def doneD : Own := fun args s => match args with | [] => some (.bool true, s) | _ => none
theorem doneD_tr : OwnTr doneD := fun args => by
  cases args with
  | nil => exact pure_tr (some (.bool true)) fun _ => rfl
  | cons a t => exact none_tr fun _ => rfl

theorem HR.keep {φ : Ren} {h : Heap} {w0 w w' : World} (H : HR φ h w0 w) (k : Kept w w') (ht : w'.tape = w.tape) : HR φ h w0 w' := by
  refine ⟨k.os.trans H.os, k.output.trans H.output, ht.trans H.tape, Nat.le_trans H.size k.size, fun b hb => (k.old b (Nat.lt_of_lt_of_le hb H.size)).trans (H.old b hb), fun id b sh sz e => Nat.lt_of_lt_of_le (H.dom _ _ _ _ e) k.size, fun id cs e ro g => ?_, H.inj, fun id es g => ?_, H.oinj⟩
  · obtain ⟨b, sh, sz, c, fz, q⟩ := H.cells _ _ _ _ g
    exact ⟨b, sh, sz, c, fz, q.at_, (k.old b (H.dom _ _ _ _ q.at_)).trans q.blk, q.exact_, q.size, q.fit, q.cell, q.mine⟩
  · obtain ⟨b, sh, sz, O, q⟩ := H.obs _ _ g
    exact ⟨b, sh, sz, O, q.at_, (k.old b (H.dom _ _ _ _ q.at_)).trans q.blk, q.zero, q.mine, q.ob⟩

theorem Laying.move {G : Nat} {W w : World} {h : Heap} (L : Laying G W h) (hs : W.heap.size ≤ w.heap.size) (hold : ∀ b, b < W.heap.size → w.heap[b]? = W.heap[b]?) (hG : G ≤ W.heap.size) : Laying G w h := by
  have hg : glob G w = glob G W := by
    funext g
    unfold glob
    by_cases q : g < G
    · rw [if_pos q, if_pos q, hold g (by omega)]
    · rw [if_neg q, if_neg q]
  refine ⟨⟨rfl, rfl, rfl, Nat.le_refl _, fun _ _ => rfl, fun id b sh sz e => ?_, fun id cs e ro q => ?_, fun i j ci ei cj ej r bi si zi bj sj zj hij gi gj ai aj => ?_, fun id es q => absurd q (L.nomp id es), fun i j ei ej bi si zi bj sj zj hij gi _ _ _ => absurd gi (L.nomp i ei)⟩, L.ro, L.nomp, L.top⟩
  · rw [hg] at e; exact Nat.lt_of_lt_of_le (L.hr.dom _ _ _ _ e) hs
  · obtain ⟨b, sh, sz, c, fz, k⟩ := L.hr.cells _ _ _ _ q
    have hr := L.ro _ _ _ _ q
    exact ⟨b, sh, sz, c, fz, by rw [hg]; exact k.at_, (hold b (L.hr.dom _ _ _ _ k.at_)).trans k.blk, k.exact_, k.size, k.fit, fun i hi => by rw [hg]; exact k.cell i hi, fun hn => by rw [hr] at hn; cases hn⟩
  · rw [hg] at ai aj; exact L.hr.inj _ _ _ _ _ _ _ _ _ _ _ _ _ hij gi gj ai aj

/-- a function without arguments that a closed run shows to answer true -/
theorem done_ok {W : World} {G mask N n k top : Nat} {ext : Intr} {f : FuncId} {fn : Func} {c : Code} {h : Heap} (L : Laying G W h) (hGW : G ≤ W.heap.size) (hGt : G ≤ top)
    (hm : P.follows .mixedOrders = true) (hok : (Nat.ble (mask + 1) (Nat.shiftLeft 1 N) && okMask P G mask N) = true) (hit : IntrTr ext) (hio : ∀ w, W.heap.size ≤ w.heap.size → (∀ b, b < W.heap.size → w.heap[b]? = W.heap[b]?) → IntrOk P w G ext)
    (hf : P.funcs[f]? = some fn) (hb : fn.body = some c) (hn : (fn.name == "runtime.NumGoroutine") = false)
    (e : isTrue (callD P (mkIntr mask ext) n k f [] (birth h top)) = true) : OwnOk P W G f doneD := by
  intro args s v s' ed φ w args' H _ hA _ _
  unfold doneD at ed
  split at ed
  case h_2 => cases ed
  cases ed
  rw [hA.of_nil, callFunc_run hf hb hn]
  have Lw := L.move H.size H.old hGW
  obtain ⟨s1, e⟩ := isTrue_some e
  refine (run_call (args := []) hm hok hit (hio w H.size H.old) hf hb hn Lw.hr (glob_glob G w) (VRL.nil _) (glob_top G w hGt) (fun id q => Lw.top id (Nat.le_trans hGt q)) e).mono ?_
  rintro e W' ⟨v', φ', rfl, _, hv, H'⟩
  rw [bool_inv hv]
  exact ⟨.bool true, φ, rfl, Ext.refl _ _ _, .bool true, H.keep H'.kept H'.tape⟩

/-! rows by number -/
theorem mark_split {m : Nat} (h0 : 0 < m) (h1 : m < 256) (n : Int) : ∃ k, k < m ∧ markOk (131072 * k + 2 * m) n := by
  have hm : (0 : Int) < (m : Int) := by omega
  refine ⟨((n % 256) % (m : Int)).toNat, ?_, .inl ⟨by omega, by omega, ?_⟩⟩
  · have := Int.emod_lt_of_pos (n % 256) hm
    have := Int.emod_nonneg (n % 256) (show (m : Int) ≠ 0 by omega)
    omega
  · have := Int.emod_nonneg (n % 256) (show (m : Int) ≠ 0 by omega)
    generalize hk : ((n % 256) % (m : Int)).toNat = k
    rw [show (131072 * k + 2 * m) / 2 % 65536 = m by omega, show (131072 * k + 2 * m) / 131072 = k by omega]
    omega
/-- the last k bits -/
theorem mark_bits {k : Nat} (hk : k ≤ 15) (n : Int) : ∃ r, r < 2 ^ k ∧ markOk (131072 * r + 2 * (256 + k)) n := by
  have hp : (0 : Int) < ((2 ^ k : Nat) : Int) := by have := Nat.two_pow_pos k; omega
  refine ⟨(n % ((2 ^ k : Nat) : Int)).toNat, ?_, .inr (.inr ⟨by omega, by omega, ?_⟩)⟩
  · have := Int.emod_lt_of_pos n hp
    have := Int.emod_nonneg n (show ((2 ^ k : Nat) : Int) ≠ 0 by omega)
    omega
  · have := Int.emod_nonneg n (show ((2 ^ k : Nat) : Int) ≠ 0 by omega)
    generalize hr : (n % ((2 ^ k : Nat) : Int)).toNat = r
    rw [show (131072 * r + 2 * (256 + k)) / 2 % 65536 - 256 = k by omega, show (131072 * r + 2 * (256 + k)) / 131072 = r by omega]
    omega
noncomputable def allBelow (p : Nat → Bool) : Nat → Bool
  | 0 => true
  | n + 1 => p n && allBelow p n
theorem allBelow_at {p : Nat → Bool} : ∀ {n : Nat}, allBelow p n = true → ∀ k, k < n → p k = true
  | 0, _, k, hk => by omega
  | n + 1, h, k, hk => by
    simp only [allBelow, Bool.and_eq_true] at h
    by_cases e : k = n
    · rw [e]; exact h.1
    · exact allBelow_at h.2 k (by omega)
/-- the k-th of m rows, whatever the number is that it is taken by -/
noncomputable def rowArg (m k : Nat) : Value := .float .f32 (131072 * k + 2 * m)
/-- a number of whose last k bits this is known -/
noncomputable def bitsArg (k r : Nat) : Value := .float .f32 (131072 * r + 2 * (256 + k))

end Go.Det
end

section
/- What a piece of code must come to, said as a law: branches over a bool that is not known are kept, bounds are said. -/
namespace Go.Det
variable (P : Program)

noncomputable def bifW (b : Bool) (A B : Prop) : Prop := match b with | true => A | false => B
theorem bifW_intro {b : Bool} {A B : Prop} (h1 : b = true → A) (h2 : b = false → B) : bifW b A B := by
  cases b
  · exact h2 rfl
  · exact h1 rfl
theorem bifW_mono {b : Bool} {A B A' B' : Prop} (h1 : A → A') (h2 : B → B') (h : bifW b A B) : bifW b A' B' := by
  cases b
  · exact h2 h
  · exact h1 h

abbrev KV := Value → St → Prop
abbrev KT := Tmps → St → Prop
abbrev KC := Ex → Tmps → St → Prop

noncomputable def optW (r : Option (Value × St)) (K : KV) : Prop := match r with | some x => K x.1 x.2 | none => False

/-- the n-th, which there is -/
noncomputable def nthW : List Value → Nat → (Value → Prop) → Prop
  | [], _, _ => False
  | v :: _, 0, K => K v
  | _ :: t, n + 1, K => nthW t n K
noncomputable def dropW : Nat → List Value → (List Value → Prop) → Prop
  | 0, cs, K => K cs
  | _ + 1, [], _ => False
  | n + 1, _ :: t, K => dropW n t K
noncomputable def takeW : Nat → List Value → (List Value → Prop) → Prop
  | 0, _, K => K []
  | _ + 1, [], _ => False
  | n + 1, v :: t, K => takeW n t fun r => K (v :: r)
noncomputable def putW : Nat → List Value → List Value → (List Value → Prop) → Prop
  | 0, l, ws, K => takeW ws.length l fun _ => K (ws ++ l.drop ws.length)
  | _ + 1, [], _, _ => False
  | n + 1, x :: t, ws, K => putW n t ws fun r => K (x :: r)

theorem nthW_intro {K : Value → Prop} : ∀ {l : List Value} {n : Nat} {v : Value}, l[n]? = some v → K v → nthW l n K
  | [], n, v, h, _ => by simp at h
  | x :: t, 0, v, h, k => by simp only [List.getElem?_cons_zero, Option.some.injEq] at h; subst h; exact k
  | x :: t, n + 1, v, h, k => by rw [List.getElem?_cons_succ] at h; exact nthW_intro (l := t) h k
theorem nthW_some {K : Value → Prop} : ∀ {l : List Value} {n : Nat}, nthW l n K → ∃ v, l[n]? = some v ∧ K v
  | [], _, h => h.elim
  | v :: _, 0, h => ⟨v, rfl, h⟩
  | _ :: t, n + 1, h => by obtain ⟨v, e, k⟩ := nthW_some (l := t) h; exact ⟨v, by rw [List.getElem?_cons_succ]; exact e, k⟩
theorem dropW_intro {K : List Value → Prop} : ∀ {n : Nat} {l : List Value}, n ≤ l.length → K (l.drop n) → dropW n l K
  | 0, l, _, k => k
  | n + 1, [], h, _ => by simp at h
  | n + 1, x :: t, h, k => dropW_intro (l := t) (by simpa using h) k
theorem dropW_some {K : List Value → Prop} : ∀ {n : Nat} {l : List Value}, dropW n l K → n ≤ l.length ∧ K (l.drop n)
  | 0, l, k => ⟨Nat.zero_le _, k⟩
  | n + 1, [], h => h.elim
  | n + 1, x :: t, h => by obtain ⟨a, b⟩ := dropW_some (l := t) h; exact ⟨by simpa using a, b⟩
theorem takeW_intro {K : List Value → Prop} : ∀ {n : Nat} {l : List Value}, n ≤ l.length → K (l.take n) → takeW n l K
  | 0, l, _, k => k
  | n + 1, [], h, _ => by simp at h
  | n + 1, x :: t, h, k => takeW_intro (l := t) (by simpa using h) k
theorem takeW_some {K : List Value → Prop} : ∀ {n : Nat} {l : List Value}, takeW n l K → n ≤ l.length ∧ K (l.take n)
  | 0, l, k => ⟨Nat.zero_le _, k⟩
  | n + 1, [], h => h.elim
  | n + 1, x :: t, h => by obtain ⟨a, b⟩ := takeW_some (l := t) h; exact ⟨by simpa using a, b⟩
theorem putW_intro {K : List Value → Prop} : ∀ {n : Nat} {l ws : List Value}, n + ws.length ≤ l.length → K (l.take n ++ ws ++ l.drop (n + ws.length)) → putW n l ws K
  | 0, l, ws, h, k => takeW_intro (by omega) (by simpa using k)
  | n + 1, [], ws, h, _ => by simp at h
  | n + 1, x :: t, ws, h, k => putW_intro (l := t) (by simp at h; omega) (by rw [show n + 1 + ws.length = (n + ws.length) + 1 by omega] at k; exact k)
theorem putW_some {K : List Value → Prop} : ∀ {n : Nat} {l ws : List Value}, putW n l ws K → n + ws.length ≤ l.length ∧ K (l.take n ++ ws ++ l.drop (n + ws.length))
  | 0, l, ws, h => by obtain ⟨a, b⟩ := takeW_some h; exact ⟨by omega, by simpa using b⟩
  | n + 1, [], ws, h => h.elim
  | n + 1, x :: t, ws, h => by
    obtain ⟨a, b⟩ := putW_some (l := t) h
    refine ⟨by simp; omega, ?_⟩
    rw [show n + 1 + ws.length = (n + ws.length) + 1 by omega]
    exact b

theorem ltake_of_le : ∀ {n : Nat} {l : List Value}, n ≤ l.length → ltake n l = some (l.take n)
  | 0, l, _ => rfl
  | n + 1, [], h => by simp at h
  | n + 1, v :: t, h => by rw [ltake_succ_cons, ltake_of_le (l := t) (by simpa using h)]; rfl
theorem lput0_of_le : ∀ {l ws : List Value}, ws.length ≤ l.length → lput0 l ws = some (ws ++ l.drop ws.length)
  | l, [], _ => by rw [lput0_nil]; simp
  | [], w :: ws, h => by simp at h
  | x :: t, w :: ws, h => by rw [lput0_cons, lput0_of_le (l := t) (by simpa using h)]; simp
theorem lput_of_le : ∀ {n : Nat} {l ws : List Value}, n + ws.length ≤ l.length → lput l n ws = some (l.take n ++ ws ++ l.drop (n + ws.length))
  | 0, l, ws, h => by rw [lput_zero, lput0_of_le (by omega)]; simp
  | n + 1, [], ws, h => by simp at h
  | n + 1, x :: t, ws, h => by
    rw [lput_succ_cons, lput_of_le (l := t) (by simp at h; omega), show n + 1 + ws.length = (n + ws.length) + 1 by omega]; simp

noncomputable def loadW (s : St) (t : TypeId) (a : Value) (K : KV) : Prop :=
  match a with
  | .pointer (some ⟨id, off, none⟩) =>
    match s.h.get id with
    | some (.cells cs _ _) =>
      match isAggB P t with
      | some true => match szOf P t with
        | some 0 => K (.agg ([] : List Value).toArray) (s.read id)
        | some (n + 1) => dropW off cs fun r => takeW (n + 1) r fun r => K (.agg r.toArray) (s.read id)
        | none => False
      | some false => nthW cs off fun v => K v (s.read id)
      | none => False
    | _ => False
  | _ => False

theorem loadW_some {P : Program} {s : St} {t : TypeId} {a : Value} {K : KV} (h : loadW P s t a K) : ∃ v s', loadD P s t a = some (v, s') ∧ K v s' := by
  unfold loadW at h
  split at h
  case h_2 => exact h.elim
  rename_i id off
  split at h
  case h_2 => exact h.elim
  rename_i cs e ro hg
  split at h
  · rename_i hb
    split at h
    · rename_i hn
      exact ⟨_, _, by simp only [loadD, hg, hb, hn, ltake_zero], h⟩
    · rename_i n hn
      obtain ⟨h1, h⟩ := dropW_some h
      obtain ⟨h2, h⟩ := takeW_some h
      exact ⟨_, _, by simp only [loadD, hg, hb, hn, ldrop_eq, ltake_of_le h2], h⟩
    · exact h.elim
  · rename_i hb
    obtain ⟨v, e, h⟩ := nthW_some h
    refine ⟨_, _, ?_, h⟩
    have hd : cs.drop off = v :: cs.drop (off + 1) := by
      obtain ⟨hlt, rfl⟩ := List.getElem?_eq_some_iff.1 e
      rw [List.drop_eq_getElem_cons hlt]
    simp only [loadD, hg, hb, ldrop_eq, hd]
  · exact h.elim
theorem loadW_mono {P : Program} {s : St} {t : TypeId} {a : Value} {K K' : KV} (k : ∀ v s, K v s → K' v s) (h : loadW P s t a K) : loadW P s t a K' := by
  unfold loadW at h ⊢
  split at h
  case h_2 => exact h.elim
  split at h
  case h_2 => exact h.elim
  split at h
  · split at h
    · exact k _ _ h
    · obtain ⟨h1, h⟩ := dropW_some h
      obtain ⟨h2, h⟩ := takeW_some h
      exact dropW_intro h1 (takeW_intro h2 (k _ _ h))
    · exact h.elim
  · obtain ⟨v, e, h⟩ := nthW_some h
    exact nthW_intro e (k _ _ h)
  · exact h.elim

noncomputable def storeW (s : St) (t : TypeId) (a v : Value) (K : St → Prop) : Prop :=
  match a with
  | .pointer (some ⟨id, off, none⟩) =>
    match s.h.get id with
    | some (.cells cs e false) =>
      match szOf P t with
      | some n => match Nat.beq (cellsOfV v).length n && oneL (cellsOfV v) with
        | true => putW off cs (cellsOfV v) fun cs' => K (s.write id (.cells cs' e false))
        | false => False
      | none => False
    | _ => False
  | _ => False
theorem storeW_some {P : Program} {s : St} {t : TypeId} {a v : Value} {K : St → Prop} (h : storeW P s t a v K) : ∃ s', storeD P s t a v = some s' ∧ K s' := by
  unfold storeW at h
  split at h
  case h_2 => exact h.elim
  rename_i id off
  split at h
  case h_2 => exact h.elim
  rename_i cs e hg
  split at h
  case h_2 => exact h.elim
  rename_i n hn
  split at h
  case h_2 => exact h.elim
  rename_i hc
  obtain ⟨h1, h⟩ := putW_some h
  exact ⟨_, by simp only [storeD, hg, hn, hc, if_true, lput_of_le h1], h⟩
theorem storeW_mono {P : Program} {s : St} {t : TypeId} {a v : Value} {K K' : St → Prop} (k : ∀ s, K s → K' s) (h : storeW P s t a v K) : storeW P s t a v K' := by
  unfold storeW at h ⊢
  split at h
  case h_2 => exact h.elim
  split at h
  case h_2 => exact h.elim
  split at h
  case h_2 => exact h.elim
  split at h
  case h_2 => exact h.elim
  obtain ⟨h1, h⟩ := putW_some h
  exact putW_intro h1 (k _ h)

/-- a bool that no reckoning takes apart -/
noncomputable def cdec (p : Prop) : Bool := @decide p (Classical.propDecidable p)
theorem cdec_eq (p : Prop) [d : Decidable p] : decide p = cdec p := by
  unfold cdec
  congr
theorem cdec_true {p : Prop} : cdec p = true ↔ p := by unfold cdec; simp
theorem cdec_false {p : Prop} : cdec p = false ↔ ¬ p := by unfold cdec; simp
theorem cdec_beq (a b : Int) : (a == b) = cdec (a = b) := cdec_eq (a = b)
theorem cdec_bne (a b : Int) : (a != b) = cdec (a ≠ b) := by
  rw [← cdec_eq (a ≠ b)]
  show (!(decide (a = b))) = decide (a ≠ b)
  simp
theorem cdec_beqB (a b : Bool) : (a == b) = cdec (a = b) := by rw [← cdec_eq (a = b)]; cases a <;> cases b <;> rfl
theorem cdec_str (a b : ByteArray) : strEq a b = cdec (a.data.toList = b.data.toList) := by
  rw [← cdec_eq (a.data.toList = b.data.toList)]
  unfold strEq
  rw [Bool.eq_iff_iff]; simp

/-- the cells of two structs held against each other -/
noncomputable def eqCellsW : List Nat → List Value → List Value → Option Bool
  | [], [], [] => some true
  | 0 :: ks, .int k a :: s, .int k' b :: t => match kindEq k k' with
    | true => (match eqCellsW ks s t with | some r => some (cdec (a = b) && r) | none => none)
    | false => none
  | 1 :: ks, .bool a :: s, .bool b :: t => match eqCellsW ks s t with | some r => some (cdec (a = b) && r) | none => none
  | 2 :: ks, .string a :: s, .string b :: t => match eqCellsW ks s t with | some r => some (cdec (a.data.toList = b.data.toList) && r) | none => none
  | _, _, _ => none
theorem eqCellsW_eq (ks : List Nat) : ∀ (a b : List Value), eqCells ks a b = eqCellsW ks a b := by
  induction ks with
  | nil => intro a b; cases a <;> cases b <;> rfl
  | cons k ks ih =>
    intro a b
    rcases k with _ | _ | _ | k
    · cases a with
      | nil => cases b <;> rfl
      | cons v s => cases b with
        | nil => cases v <;> rfl
        | cons u t =>
          cases v with
          | int q x => cases u with
            | int q' y =>
              show (match kindEq q q' with | true => (match eqCells ks s t with | some r => some ((x == y) && r) | none => none) | false => none) = (match kindEq q q' with | true => (match eqCellsW ks s t with | some r => some (cdec (x = y) && r) | none => none) | false => none)
              rw [ih, cdec_beq]
            | _ => rfl
          | _ => rfl
    · cases a with
      | nil => cases b <;> rfl
      | cons v s => cases b with
        | nil => cases v <;> rfl
        | cons u t =>
          cases v with
          | bool x => cases u with
            | bool y =>
              show (match eqCells ks s t with | some r => some ((x == y) && r) | none => none) = (match eqCellsW ks s t with | some r => some (cdec (x = y) && r) | none => none)
              rw [ih, cdec_beqB]
            | _ => rfl
          | _ => rfl
    · cases a with
      | nil => cases b <;> rfl
      | cons v s => cases b with
        | nil => cases v <;> rfl
        | cons u t =>
          cases v with
          | string x => cases u with
            | string y =>
              show (match eqCells ks s t with | some r => some (strEq x y && r) | none => none) = (match eqCellsW ks s t with | some r => some (cdec (x.data.toList = y.data.toList) && r) | none => none)
              rw [ih, cdec_str]
            | _ => rfl
          | _ => rfl
    · cases a <;> cases b <;> rfl
noncomputable def aggEqW (t : TypeId) (a b : List Value) : Option Bool :=
  match P.underlying t with
  | some (.struct fs) => (match P.stoodInHeld t || P.eqGuardType P.depth t with
    | true => none
    | false => (match plainFs P (plainSh P 11) 0 fs.toList with
      | some ks => eqCellsW ks a b
      | none => none))
  | _ => none

noncomputable def binW (op : BinOp) (t : TypeId) (x y : Operand) (a b : Value) (s : St) (K : KV) : Prop :=
  match a, b with
  | .int k m, .int k' n => (match op with
    | .shl => 0 ≤ n ∧ K (.int k (shlI k m n)) s
    | .shr => 0 ≤ n ∧ K (.int k (shrI k m n)) s
    | op => (match kindEq k k' with
      | false => False
      | true => (match op with
        | .quo => n ≠ 0 ∧ K (.int k (k.wrap (m.tdiv n))) s
        | .rem => n ≠ 0 ∧ K (.int k (m.tmod n)) s
        | .eql => K (.bool (cdec (m = n))) s
        | .neq => K (.bool (cdec (m ≠ n))) s
        | .lss => K (.bool (cdec (m < n))) s
        | .leq => K (.bool (cdec (m ≤ n))) s
        | .gtr => K (.bool (cdec (n < m))) s
        | .geq => K (.bool (cdec (n ≤ m))) s
        | op => optW (ofV (intBin op k m n) s) K)))
  | .string p, .string q => (match op with
    | .add => p.size + q.size ≤ 9223372036854775807 ∧ K (.string (p ++ q)) s
    | .eql => K (.bool (cdec (p.data.toList = q.data.toList))) s
    | .neq => K (.bool (!cdec (p.data.toList = q.data.toList))) s
    | op => optW (ofV (binD P op t x y (.string p) (.string q)) s) K)
  | .agg p, .agg q => (match op with
    | .eql => (match aggEqW P t p.toList q.toList with | some r => K (.bool r) s | none => False)
    | .neq => (match aggEqW P t p.toList q.toList with | some r => K (.bool (!r)) s | none => False)
    | _ => False)
  | a, b => optW (ofV (binD P op t x y a b) s) K

noncomputable def indexAddrW (t : TypeId) (x ix : Value) (s : St) (K : KV) : Prop :=
  match typ P t, x, ix with
  | some (.slice elem), .slice (some ⟨id, off, none⟩) n _, .int _ i => (match szOf P elem with
    | some size => (0 ≤ i ∧ i < (n : Int)) ∧ K (.pointer (some ⟨id, off + i.toNat * size, none⟩)) s
    | none => False)
  | some (.array n elem), .pointer (some ⟨id, off, none⟩), .int _ i => (match szOf P elem with
    | some size => (0 ≤ i ∧ i < (n : Int)) ∧ K (.pointer (some ⟨id, off + i.toNat * size, none⟩)) s
    | none => False)
  | _, _, _ => False

noncomputable def indexW (t : TypeId) (x ix : Value) (s : St) (K : KV) : Prop :=
  match typ P t, x, ix with
  | some .string, .string b, .int _ i => (0 ≤ i ∧ i < (b.data.toList.length : Int)) ∧ K (.int .u8 (b.data.toList.getD i.toNat 0).toNat) s
  | _, x, ix => optW (ofV (indexD P t x ix) s) K

/-- is the operation to be carried out? -/
noncomputable def wantW (all : List Oper) (l : Tmps) (o : Oper) (yes no : Tmps → Prop) : Prop :=
  match o.guard with
  | none => yes l
  | some g =>
    match nth all g.1 with
    | some q => (match q.dst with
      | some d => (match lget l d with
        | .bool b => bifW b ((match g.2 with | true => yes | false => no) (lset l d (.bool true))) ((match g.2 with | true => no | false => yes) (lset l d (.bool false)))
        | .tuple _ => False
        | _ => no l)
      | none => False)
    | none => False

/-- what calls come to, said by contracts -/
abbrev Cw := FuncId → List Value → St → KV → Prop
noncomputable def call0 : Call := fun _ _ _ => none

noncomputable def opW (cw : Cw) (o : Oper) (l : Tmps) (s : St) (K : KV) : Prop :=
  match o.op with
  | .binOp op t x y _ => binW P op t x y (evalO l x) (evalO l y) s K
  | .load t a => loadW P s t (evalO l a) K
  | .store t a x => storeW P s t (evalO l a) (evalO l x) fun s => K und s
  | .pick c a b => (match evalO l c with | .bool t => bifW t (K (evalO l a) s) (K (evalO l b) s) | _ => False)
  | .indexAddr t x i => indexAddrW P t (evalO l x) (evalO l i) s K
  | .index t x i => indexW P t (evalO l x) (evalO l i) s K
  | .call c => (match c.callee with
    | .value f => (match evalO l f with
      | .func (.func g) first cap => cw g (first.toList ++ (evalL l c.args.toList ++ cap.toList)) s K
      | _ => False)
    | .builtin b => optW (builtinD P s b c.argTypes o.type (evalL l c.args.toList)) K
    | .invoke _ _ => False)
  | _ => optW (opD P call0 o l s) K

noncomputable def opsW (cw : Cw) (all : List Oper) : List Oper → Tmps → St → KT → Prop
  | [], l, s, K => K l s
  | o :: rest, l, s, K => wantW all l o (fun l => opW P cw o l s fun v s => opsW cw all rest (putD l o.dst v) s K) (fun l => opsW cw all rest (putD l o.dst skp) s K)

noncomputable def drawW (cw : Cw) (all : List Oper) : List Oper → List Foot → Tmps → St → KT → Prop
  | [], _, l, s, K => K l s
  | o :: rest, done, l, s, K => match edgesOk done.length o.after.toList with
    | true => wantW all l o
      (fun l => opW P cw o l (solo s) fun v x => match apartAll (footOf all o done x.rd x.wr) 0 done with
        | true => drawW cw all rest (done ++ [footOf all o done x.rd x.wr]) (putD l o.dst v) (merge s x) K
        | false => False)
      (fun l => match apartAll (footOf all o done 0 0) 0 done with
        | true => drawW cw all rest (done ++ [footOf all o done 0 0]) (putD l o.dst skp) (merge s (solo s)) K
        | false => False)
    | false => False

noncomputable def lknow (l : Tmps) (c : Operand) (b : Bool) : Tmps := match c with | .tmp t => lset l t (.bool b) | _ => l

/-- a round behind a round -/
noncomputable def stepW (R : KT) (K : KC) : KC := fun e l s => match e with | .normal => R l s | .exit i => K (.exit i) l s | .ret => K .ret l s

noncomputable def Weak (l : Tmps) (s : St) (l' : Tmps) (s' : St) (A : Tmps → St → Act → World → Prop) : Prop := ∀ a w, A l s a w → A l' s' a w

structure At (w0 : World) (φ0 : Ren) (n : Nat) (l : Tmps) (s : St) (a : Act) (w : World) (φ : Ren) : Prop where
  hr : HR φ s.h w0 w
  le : Le φ0 φ
  fr : Fr n φ l a
  fresh : ∀ id, s.next ≤ id → φ id = none
  none_ : ∀ id, s.next ≤ id → s.h.get id = none
  hi : s.next ≤ s.hi

/-- whatever stands as the one says stands as the other says -/
noncomputable def Weaker (l : Tmps) (s : St) (l' : Tmps) (s' : St) : Prop :=
  ∀ w0 φ0 n a w φ, (∀ id, 64 ≤ id → φ0 id = none) → At w0 φ0 n l s a w φ → ∃ φ', At w0 φ0 n l' s' a w φ'

noncomputable def LoopW (body : Tmps → St → KC → Prop) (l : Tmps) (s : St) (K : KC) : Prop :=
  ∀ R : KT, (∀ l s, body l s (stepW R K) → R l s) → (∀ l s l' s', Weaker l s l' s' → R l' s' → R l s) → R l s

noncomputable def codeW (cw : Cw) : Code → Tmps → St → KC → Prop
  | .skip, l, s, K => K .normal l s
  | .region _ ops draw, l, s, K => (match draw with
    | true => drawW P cw ops.toList ops.toList [] l s (K .normal)
    | false => opsW P cw ops.toList ops.toList l s (K .normal))
  | .seq a b, l, s, K => codeW cw a l s fun e l s => match e with | .normal => codeW cw b l s K | .exit i => K (.exit i) l s | .ret => K .ret l s
  | .cond c a b, l, s, K => (match evalO l c with
    | .bool t => bifW t (codeW cw a (lknow l c true) s K) (codeW cw b (lknow l c false) s K)
    | _ => False)
  | .block id a, l, s, K => codeW cw a l s fun e l s => match e with
    | .exit i => (match Nat.beq i id with | true => K .normal l s | false => K (.exit i) l s)
    | .normal => K .normal l s
    | .ret => K .ret l s
  | .loop a, l, s, K => LoopW (fun l s K => codeW cw a l s K) l s K
  | .exit i, l, s, K => K (.exit i) l s
  | .ret, l, s, K => K .ret l s
  | _, _, _, _ => False

noncomputable def resW (l : Tmps) (s : St) : List ResultVar → (List Value → St → Prop) → Prop
  | [], K => K [] s
  | .tmp t :: rest, K => resW l s rest fun vs s => K (lget l t :: vs) s
  | .cell a t :: rest, K => loadW P s t (lget l a) fun v s => resW l s rest fun vs s => K (v :: vs) s

noncomputable def retW (fn : Func) (Q : KV) : KC := fun e l s => match e with
  | .exit _ => False
  | .normal => resW P l s fn.results.toList fun vs s => Q (valOf vs) s
  | .ret => resW P l s fn.results.toList fun vs s => Q (valOf vs) s

end Go.Det
end

section
/- A part of an evaluator of closed runs and of its soundness. -/
namespace Go.Det
variable {P : Program}

def LE (l l' : Tmps) : Prop := ∀ t, lget l t = lget l' t
theorem LE.refl (l : Tmps) : LE l l := fun _ => rfl
theorem LE.evalO {l l' : Tmps} (h : LE l l') (x : Operand) : evalO l x = evalO l' x := by cases x <;> first | rfl | exact h _
theorem LE.evalL {l l' : Tmps} (h : LE l l') : ∀ xs, evalL l xs = evalL l' xs
  | [] => rfl
  | x :: t => by simp only [Det.evalL, h.evalO x, LE.evalL h t]
theorem LE.pairs {l l' : Tmps} (h : LE l l') : ∀ xs, pairsO l xs = pairsO l' xs
  | [] => rfl
  | (i, x) :: t => by simp only [pairsO, h.evalO x, LE.pairs h t]
theorem LE.opt {l l' : Tmps} (h : LE l l') (x : Option Operand) : evalOpt l x = evalOpt l' x := by
  cases x with
  | none => rfl
  | some x => simp only [evalOpt, h.evalO x]
theorem LE.set {l l' : Tmps} (h : LE l l') (d : Nat) (v : Value) : LE (lset l d v) (lset l' d v) := fun t => by rw [lget_set, lget_set]; split; rfl; exact h t
theorem LE.put {l l' : Tmps} (h : LE l l') (d : Option Tmp) (v : Value) : LE (putD l d v) (putD l' d v) := by
  cases d with
  | none => exact h
  | some d => exact h.set d v
theorem LE.know {l l' : Tmps} (h : LE l l') {d : Nat} {v : Value} (e : lget l' d = v) : LE l (lset l' d v) := fun t => by
  rw [lget_set]
  split
  · rename_i q; subst q; rw [h, e]
  · exact h t
theorem LE.op {call : Call} {o : Oper} {l l' : Tmps} (h : LE l l') : opD P call o l = opD P call o l' := by
  exact opD_congr fun x _ => LE.evalO h x

/-- contracts that hold of what is called -/
structure CwOk (call : Call) (cw : Cw) : Prop where
  some_ : ∀ g args s K, cw g args s K → ∃ v s', call g args s = some (v, s') ∧ K v s' ∧ ∀ K' : KV, K' v s' → cw g args s K'
  mono : ∀ g args s (K K' : KV), (∀ v s, K v s → K' v s) → cw g args s K → cw g args s K'
def CwMono (cw : Cw) : Prop := ∀ g args s (K K' : KV), (∀ v s, K v s → K' v s) → cw g args s K → cw g args s K'

theorem opCall_call0 {call : Call} {c : Go.Call} {t : TypeId} {l : Tmps} {s : St} {r : Value × St} (h : opCall P call0 c t l s = some r) : opCall P call c t l s = some r := by
  unfold opCall at h ⊢
  cases hc : c.callee with
  | builtin b => rw [hc] at h; exact h
  | invoke a b => rw [hc] at h; exact h
  | value f =>
    rw [hc] at h
    simp only [opCallV] at h
    split at h
    · split at h
      · cases h
      · cases h
    · cases h
theorem opD_call0 {call : Call} {o : Oper} {l : Tmps} {s : St} {r : Value × St} (h : opD P call0 o l s = some r) : opD P call o l s = some r := by
  unfold opD at h ⊢
  cases hop : o.op <;> rw [hop] at h <;> first
    | exact h
    | exact opCall_call0 h

theorem optW_some {r : Option (Value × St)} {K : KV} (h : optW r K) : ∃ v s', r = some (v, s') ∧ K v s' := by
  cases r with
  | none => exact h.elim
  | some x => exact ⟨x.1, x.2, rfl, h⟩
theorem optW_mono {r : Option (Value × St)} {K K' : KV} (k : ∀ v s, K v s → K' v s) (h : optW r K) : optW r K' := by
  cases r with
  | none => exact h
  | some x => exact k _ _ h

theorem aggEqW_eq {t : TypeId} {a b : List Value} : aggEq P t a b = aggEqW P t a b := by
  unfold aggEq aggEqW
  simp only [eqCellsW_eq]
  try rfl

theorem binW_some {op : BinOp} {t : TypeId} {x y : Operand} {a b : Value} {s : St} {K : KV} (h : binW P op t x y a b s K) : ∃ v s', ofV (binD P op t x y a b) s = some (v, s') ∧ K v s' := by
  unfold binW at h
  split at h
  · rename_i k m k' n
    split at h
    · refine ⟨_, _, ?_, h.2⟩
      have : decide (n < 0) = false := decide_eq_false (by omega)
      simp only [binD, shiftBin, this, ofV]
    · refine ⟨_, _, ?_, h.2⟩
      have : decide (n < 0) = false := decide_eq_false (by omega)
      simp only [binD, shiftBin, this, ofV]
    · rename_i hs1 hs2
      split at h
      · exact h.elim
      rename_i hk
      have hsh : shiftBin op k m n = none := by
        cases op <;> first | rfl | exact (hs1 rfl).elim | exact (hs2 rfl).elim
      have e : binD P op t x y (.int k m) (.int k' n) = intBin op k m n := by simp only [binD, hsh, hk]
      rw [e]
      split at h
      · refine ⟨_, _, ?_, h.2⟩
        have : decide (n = 0) = false := decide_eq_false h.1
        simp only [intBin, this, ofV]
      · refine ⟨_, _, ?_, h.2⟩
        have : decide (n = 0) = false := decide_eq_false h.1
        simp only [intBin, this, ofV]
      · exact ⟨_, _, by simp only [intBin, cdec_beq, ofV], h⟩
      · exact ⟨_, _, by simp only [intBin, cdec_bne, ofV], h⟩
      · exact ⟨_, _, by simp only [intBin, cdec_eq, ofV], h⟩
      · exact ⟨_, _, by simp only [intBin, cdec_eq, ofV], h⟩
      · exact ⟨_, _, by simp only [intBin, cdec_eq, ofV], h⟩
      · exact ⟨_, _, by simp only [intBin, cdec_eq, ofV], h⟩
      · exact optW_some h
  · rename_i p q
    split at h
    · refine ⟨_, _, ?_, h.2⟩
      have : Nat.ble (p.size + q.size) 9223372036854775807 = true := Nat.ble_eq_true_of_le h.1
      simp only [binD, strBin, this, ofV]
    · exact ⟨_, _, by simp only [binD, strBin, cdec_str, ofV], h⟩
    · exact ⟨_, _, by simp only [binD, strBin, cdec_str, ofV], h⟩
    · exact optW_some h
  · rename_i p q
    split at h
    · split at h
      · rename_i r hr
        exact ⟨_, _, by simp only [binD, aggBin, aggEqW_eq, hr, ofV], h⟩
      · exact h.elim
    · split at h
      · rename_i r hr
        exact ⟨_, _, by simp only [binD, aggBin, aggEqW_eq, hr, ofV], h⟩
      · exact h.elim
    · exact h.elim
  · exact optW_some h
theorem binW_mono {op : BinOp} {t : TypeId} {x y : Operand} {a b : Value} {s : St} {K K' : KV} (k : ∀ v s, K v s → K' v s) (h : binW P op t x y a b s K) : binW P op t x y a b s K' := by
  unfold binW at h ⊢
  split at h
  · split at h
    · exact ⟨h.1, k _ _ h.2⟩
    · exact ⟨h.1, k _ _ h.2⟩
    · split at h
      · exact h.elim
      · split at h <;> first
          | exact ⟨h.1, k _ _ h.2⟩
          | exact k _ _ h
          | exact optW_mono k h
  · split at h
    · exact ⟨h.1, k _ _ h.2⟩
    · exact k _ _ h
    · exact k _ _ h
    · exact optW_mono k h
  · split at h
    · split at h
      · exact k _ _ h
      · exact h.elim
    · split at h
      · exact k _ _ h
      · exact h.elim
    · exact h.elim
  · exact optW_mono k h

theorem natOf_int {k : IntKind} {i : Int} (h : 0 ≤ i) : natOf (.int k i) = some i.toNat := by simp only [natOf, if_pos h]
theorem ble_lt {n : Nat} {i : Int} (h0 : 0 ≤ i) (h : i < (n : Int)) : Nat.ble n i.toNat = false := by
  cases hb : Nat.ble n i.toNat with
  | false => rfl
  | true => have := Nat.le_of_ble_eq_true hb; omega
theorem indexAddrW_some {t : TypeId} {x ix : Value} {s : St} {K : KV} (h : indexAddrW P t x ix s K) : ∃ v s', ofV (indexAddrD P t x ix) s = some (v, s') ∧ K v s' := by
  unfold indexAddrW at h
  split at h
  · rename_i elem id off n c k i ht
    split at h
    case h_2 => exact h.elim
    rename_i size hs
    obtain ⟨⟨h0, h1⟩, h⟩ := h
    refine ⟨_, _, ?_, h⟩
    simp only [indexAddrD, ht, natOf_int h0, hs, ble_lt h0 h1]
    rfl
  · rename_i n elem id off k i ht
    split at h
    case h_2 => exact h.elim
    rename_i size hs
    obtain ⟨⟨h0, h1⟩, h⟩ := h
    refine ⟨_, _, ?_, h⟩
    simp only [indexAddrD, ht, natOf_int h0, hs, ble_lt h0 h1]
    rfl
  · exact h.elim
theorem indexAddrW_mono {t : TypeId} {x ix : Value} {s : St} {K K' : KV} (k : ∀ v s, K v s → K' v s) (h : indexAddrW P t x ix s K) : indexAddrW P t x ix s K' := by
  unfold indexAddrW at h ⊢
  split at h
  · split at h
    · exact ⟨h.1, k _ _ h.2⟩
    · exact h.elim
  · split at h
    · exact ⟨h.1, k _ _ h.2⟩
    · exact h.elim
  · exact h.elim
theorem indexW_some {t : TypeId} {x ix : Value} {s : St} {K : KV} (h : indexW P t x ix s K) : ∃ v s', ofV (indexD P t x ix) s = some (v, s') ∧ K v s' := by
  unfold indexW at h
  split at h
  · rename_i b k i ht
    obtain ⟨⟨h0, h1⟩, h⟩ := h
    refine ⟨_, _, ?_, h⟩
    have hlt : i.toNat < (b.data.toList.map fun x => Value.int .u8 x.toNat).length := by rw [List.length_map]; omega
    have hlt2 : i.toNat < b.data.toList.length := by omega
    simp only [indexD, ht, natOf_int h0, ldrop_eq]
    rw [List.drop_eq_getElem_cons hlt, List.getElem_map, List.getD_eq_getElem?_getD, List.getElem?_eq_getElem hlt2]
    rfl
  · exact optW_some h
theorem indexW_mono {t : TypeId} {x ix : Value} {s : St} {K K' : KV} (k : ∀ v s, K v s → K' v s) (h : indexW P t x ix s K) : indexW P t x ix s K' := by
  unfold indexW at h ⊢
  split at h
  · exact ⟨h.1, k _ _ h.2⟩
  · exact optW_mono k h

theorem opW_some {call : Call} {cw : Cw} (ho : CwOk call cw) {o : Oper} {l : Tmps} {s : St} {K : KV} (h : opW P cw o l s K) : ∃ v s', opD P call o l s = some (v, s') ∧ K v s' := by
  unfold opW at h
  split at h
  · rename_i op t x y yt hop
    unfold opD; rw [hop]
    exact binW_some h
  · rename_i t a hop
    unfold opD; rw [hop]
    exact loadW_some h
  · rename_i t a x hop
    unfold opD; rw [hop]
    obtain ⟨s', e, k⟩ := storeW_some h
    exact ⟨und, s', by simp only [opStore, e], k⟩
  · rename_i c a b hop
    unfold opD; rw [hop]
    split at h
    · rename_i t ht
      cases t with
      | true => exact ⟨_, _, by simp only [opPick, ht], h⟩
      | false => exact ⟨_, _, by simp only [opPick, ht], h⟩
    · exact h.elim
  · rename_i t x i hop
    unfold opD; rw [hop]
    exact indexAddrW_some h
  · rename_i t x i hop
    unfold opD; rw [hop]
    exact indexW_some h
  · rename_i c hop
    unfold opD; rw [hop]
    unfold opCall
    simp only
    split at h
    · rename_i f hc
      simp only [hc, opCallV]
      split at h
      · rename_i g first cap hv
        obtain ⟨v, s', e, k, _⟩ := ho.some_ _ _ _ _ h
        exact ⟨v, s', by simp only [hv]; exact e, k⟩
      · exact h.elim
    · rename_i b hc
      simp only [hc, opBuiltin]
      exact optW_some h
    · exact h.elim
  · obtain ⟨v, s', e, k⟩ := optW_some h
    exact ⟨v, s', opD_call0 e, k⟩
theorem opW_mono {cw : Cw} (hm : CwMono cw) {o : Oper} {l : Tmps} {s : St} {K K' : KV} (k : ∀ v s, K v s → K' v s) (h : opW P cw o l s K) : opW P cw o l s K' := by
  unfold opW at h ⊢
  split at h
  · exact binW_mono k h
  · exact loadW_mono k h
  · exact storeW_mono (fun s => k _ s) h
  · split at h
    · exact bifW_mono (k _ _) (k _ _) h
    · exact h.elim
  · exact indexAddrW_mono k h
  · exact indexW_mono k h
  · split at h
    · split at h
      · exact hm _ _ _ _ _ k h
      · exact h.elim
    · exact optW_mono k h
    · exact h.elim
  · exact optW_mono k h

theorem wantW_some {all : List Oper} {l : Tmps} {o : Oper} {yes no : Tmps → Prop} (h : wantW all l o yes no) : ∃ l', LE l l' ∧ ((wantedD all l o = some true ∧ yes l') ∨ (wantedD all l o = some false ∧ no l')) := by
  unfold wantW at h
  unfold wantedD
  split at h
  · rename_i hg; exact ⟨l, LE.refl l, .inl ⟨by simp only [hg], h⟩⟩
  · rename_i g hg
    split at h
    case h_2 => exact h.elim
    rename_i q hq
    split at h
    case h_2 => exact h.elim
    rename_i d hd
    simp only [hg, hq, hd]
    split at h
    · rename_i b hb
      cases b with
      | true =>
        refine ⟨_, (LE.refl l).know hb, ?_⟩
        cases h2 : g.2 with
        | true => left; simp only [hb]; exact ⟨rfl, by simpa only [bifW, h2] using h⟩
        | false => right; simp only [hb]; exact ⟨rfl, by simpa only [bifW, h2] using h⟩
      | false =>
        refine ⟨_, (LE.refl l).know hb, ?_⟩
        cases h2 : g.2 with
        | true => right; simp only [hb]; exact ⟨rfl, by simpa only [bifW, h2] using h⟩
        | false => left; simp only [hb]; exact ⟨rfl, by simpa only [bifW, h2] using h⟩
    · exact h.elim
    · rename_i h1 h2
      refine ⟨l, LE.refl l, .inr ⟨?_, h⟩⟩
      split
      · rename_i b hb; exact absurd hb (h1 b)
      · rename_i vs hv; exact absurd hv (h2 vs)
      · rfl
theorem wantW_mono {all : List Oper} {l : Tmps} {o : Oper} {yes no yes' no' : Tmps → Prop} (k1 : ∀ l, yes l → yes' l) (k2 : ∀ l, no l → no' l) (h : wantW all l o yes no) : wantW all l o yes' no' := by
  unfold wantW at h ⊢
  split at h
  · exact k1 _ h
  · rename_i g hg
    split at h
    case h_2 => exact h.elim
    split at h
    case h_2 => exact h.elim
    split at h
    · cases h2 : g.2 with
      | true => simp only [h2] at h ⊢; exact bifW_mono (k1 _) (k2 _) h
      | false => simp only [h2] at h ⊢; exact bifW_mono (k2 _) (k1 _) h
    · exact h.elim
    · exact k2 _ h

theorem wantedD_congr {all : List Oper} {l l' : Tmps} {o : Oper} (h : LE l l') : wantedD all l o = wantedD all l' o := by
  unfold wantedD
  cases o.guard with
  | none => rfl
  | some g =>
    simp only
    cases nth all g.1 with
    | none => rfl
    | some q =>
      simp only
      cases q.dst with
      | none => rfl
      | some d => simp only [h d]
theorem LE.trans {a b c : Tmps} (h : LE a b) (k : LE b c) : LE a c := fun t => (h t).trans (k t)
theorem LE.symm {a b : Tmps} (h : LE a b) : LE b a := fun t => (h t).symm

theorem opsW_some {call : Call} {cw : Cw} (ho : CwOk call cw) {all : List Oper} : ∀ {ops : List Oper} {l : Tmps} {s : St} {K : KT}, opsW P cw all ops l s K → ∀ l0, LE l0 l → ∃ l1 s1 l', opsD P call all ops l0 s = some (l1, s1) ∧ LE l1 l' ∧ K l' s1
  | [], l, s, K, h, l0, hl => ⟨l0, s, l, rfl, hl, h⟩
  | o :: rest, l, s, K, h, l0, hl => by
    rw [opsD_cons]
    unfold opsStep
    rw [hl.op (P := P)]
    simp only [wantedD_congr hl]
    obtain ⟨l1, h1, ⟨hw, h⟩ | ⟨hw, h⟩⟩ := wantW_some h
    · simp only [hw]
      obtain ⟨v, s1, e, k⟩ := opW_some ho h
      rw [← h1.op (P := P)] at e
      obtain ⟨l2, s2, l3, e2, q1, q2⟩ := opsW_some ho k (putD l0 o.dst v) ((hl.trans h1).put _ _)
      exact ⟨l2, s2, l3, by simp only [e, nextOp]; exact e2, q1, q2⟩
    · simp only [hw]
      obtain ⟨l2, s2, l3, e2, q1, q2⟩ := opsW_some ho h (putD l0 o.dst skp) ((hl.trans h1).put _ _)
      exact ⟨l2, s2, l3, e2, q1, q2⟩
theorem opsW_mono {cw : Cw} (hm : CwMono cw) {all : List Oper} : ∀ {ops : List Oper} {l : Tmps} {s : St} {K K' : KT}, (∀ l s, K l s → K' l s) → opsW P cw all ops l s K → opsW P cw all ops l s K'
  | [], _, _, _, _, k, h => k _ _ h
  | _ :: _, _, _, _, _, k, h => wantW_mono (fun _ h => opW_mono hm (fun _ _ h => opsW_mono hm k h) h) (fun _ h => opsW_mono hm k h) h

theorem drawW_some {call : Call} {cw : Cw} (ho : CwOk call cw) {all : List Oper} : ∀ {ops : List Oper} {done : List Foot} {l : Tmps} {s : St} {K : KT}, drawW P cw all ops done l s K → ∀ l0, LE l0 l → ∀ sl, ∃ l1 s1 l', drawD P call all ops done sl l0 s = some (l1, s1) ∧ LE l1 l' ∧ K l' s1
  | [], done, l, s, K, h, l0, hl, sl => ⟨l0, s, l, rfl, hl, h⟩
  | o :: rest, done, l, s, K, h, l0, hl, sl => by
    rw [drawD_cons]
    unfold drawW at h
    split at h
    case h_2 => exact h.elim
    rename_i he
    rw [he]
    simp only
    unfold wantRun
    rw [hl.op (P := P)]
    simp only [wantedD_congr hl]
    obtain ⟨l1, h1, ⟨hw, h⟩ | ⟨hw, h⟩⟩ := wantW_some h
    · simp only [hw]
      obtain ⟨v, x, e, k⟩ := opW_some ho h
      rw [← h1.op (P := P)] at e
      split at k
      case h_2 => exact k.elim
      rename_i ha
      obtain ⟨l2, s2, l3, e2, q1, q2⟩ := drawW_some ho k (putD l0 o.dst v) ((hl.trans h1).put _ _) (sl ++ [softOf all o l0 v])
      refine ⟨l2, s2, l3, ?_, q1, q2⟩
      rw [e]
      unfold drawStep drawGo
      simp only
      unfold footOf at ha e2
      rw [softGo_apart ha]
      exact e2
    · simp only [hw]
      split at h
      case h_2 => exact h.elim
      rename_i ha
      obtain ⟨l2, s2, l3, e2, q1, q2⟩ := drawW_some ho h (putD l0 o.dst skp) ((hl.trans h1).put _ _) (sl ++ [softOf all o l0 skp])
      refine ⟨l2, s2, l3, ?_, q1, q2⟩
      unfold drawStep drawGo
      simp only
      unfold footOf at ha e2
      simp only [solo] at e2 ⊢
      rw [softGo_apart ha]
      exact e2
theorem drawW_mono {cw : Cw} (hm : CwMono cw) {all : List Oper} : ∀ {ops : List Oper} {done : List Foot} {l : Tmps} {s : St} {K K' : KT}, (∀ l s, K l s → K' l s) → drawW P cw all ops done l s K → drawW P cw all ops done l s K'
  | [], _, _, _, _, _, k, h => k _ _ h
  | o :: rest, done, l, s, K, K', k, h => by
    unfold drawW at h ⊢
    split at h
    case h_2 => exact h.elim
    refine wantW_mono (fun l h => opW_mono hm (fun v x h => ?_) h) (fun l h => ?_) h
    · split at h
      · exact drawW_mono hm k h
      · exact h.elim
    · split at h
      · exact drawW_mono hm k h
      · exact h.elim

theorem stepW_mono {R R' : KT} {K K' : KC} (h : ∀ l s, R l s → R' l s) (k : ∀ e l s, K e l s → K' e l s) (e : Ex) (l : Tmps) (s : St) (q : stepW R K e l s) : stepW R' K' e l s := by
  cases e with
  | normal => exact h _ _ q
  | exit i => exact k _ _ _ q
  | ret => exact k _ _ _ q

theorem codeW_mono {cw : Cw} (hm : CwMono cw) : ∀ (c : Code) {l : Tmps} {s : St} {K K' : KC}, (∀ e l s, K e l s → K' e l s) → codeW P cw c l s K → codeW P cw c l s K'
  | .skip, _, _, _, _, k, h => k _ _ _ h
  | .region _ ops draw, _, _, _, _, k, h => by
    cases draw with
    | true => exact drawW_mono hm (k .normal) h
    | false => exact opsW_mono hm (k .normal) h
  | .seq a b, _, _, _, _, k, h => codeW_mono hm a (fun e l s h => by
      cases e with
      | normal => exact codeW_mono hm b k h
      | exit i => exact k _ _ _ h
      | ret => exact k _ _ _ h) h
  | .cond c a b, l, s, K, K', k, h => by
    unfold codeW at h ⊢
    split at h
    · exact bifW_mono (codeW_mono hm a k) (codeW_mono hm b k) h
    · exact h.elim
  | .block id a, _, _, _, _, k, h => codeW_mono hm a (fun e l s h => by
      cases e with
      | normal => exact k _ _ _ h
      | exit i =>
        simp only at h ⊢
        split at h
        · exact k _ _ _ h
        · exact k _ _ _ h
      | ret => exact k _ _ _ h) h
  | .loop a, l, s, K, K', k, h => by
    intro R h1 h2
    exact h R (fun l s q => h1 l s (codeW_mono hm a (stepW_mono (fun _ _ h => h) k) q)) h2
  | .exit i, _, _, _, _, k, h => k _ _ _ h
  | .ret, _, _, _, _, k, h => k _ _ _ h
  | .rangeFunc .., _, _, _, _, _, h => h.elim
  | .scope .., _, _, _, _, _, h => h.elim
  | .label .., _, _, _, _, _, h => h.elim
  | .goto .., _, _, _, _, _, h => h.elim
  | .refuse .., _, _, _, _, _, h => h.elim

end Go.Det
end

section
/- A part of an evaluator of closed runs and of its soundness. -/
namespace Go.Det
variable {P : Program}

theorem resW_some {l : Tmps} : ∀ {rs : List ResultVar} {s : St} {K : List Value → St → Prop}, resW P l s rs K → ∃ vs s', resD P l s rs = some (vs, s') ∧ K vs s'
  | [], s, K, h => ⟨[], s, rfl, h⟩
  | .tmp t :: rest, s, K, h => by
    obtain ⟨vs, s', e, k⟩ := resW_some (rs := rest) h
    exact ⟨lget l t :: vs, s', by rw [resD_tmp, e], k⟩
  | .cell a t :: rest, s, K, h => by
    obtain ⟨v, s1, e1, h⟩ := loadW_some h
    obtain ⟨vs, s', e, k⟩ := resW_some (rs := rest) h
    exact ⟨v :: vs, s', by rw [resD_cell, e1]; simp only [e], k⟩

theorem Fr.le {n : Nat} {φ : Ren} {l l' : Tmps} {a : Act} (h : Fr n φ l a) (k : LE l l') : Fr n φ l' a := ⟨h.size, fun t => by rw [← k t]; exact h.tmp t, h.defers⟩

section
variable {w0 : World} {φ0 : Ren} {n G : Nat} {call : Call} {cw : Cw}

theorem At.le' {l l' : Tmps} {s : St} {a : Act} {w : World} {φ : Ren} (h : At w0 φ0 n l s a w φ) (k : LE l l') : At w0 φ0 n l' s a w φ := ⟨h.hr, h.le, h.fr.le k, h.fresh, h.none_, h.hi⟩

theorem At.next {l l1 : Tmps} {s s1 : St} {a a1 : Act} {w w1 : World} {φ φ1 : Ren} (h : At w0 φ0 n l s a w φ) (g : G1 s s1) (e : Ext φ φ1 s.next s1.next) (H : HR φ1 s1.h w0 w1) (F : Fr n φ1 l1 a1) :
    At w0 φ0 n l1 s1 a1 w1 φ1 := by
  refine ⟨H, h.le.trans e.le, F, fun id q => ?_, fun id q => ?_, g.inv h.hi⟩
  · cases hφ : φ1 id with
    | none => rfl
    | some y =>
      rcases e.new id (by rw [hφ]; simp) with r | r
      · exact absurd (h.fresh id (Nat.le_trans g.next q)) r
      · omega
  · cases hh : s1.h.get id with
    | none => rfl
    | some y =>
      rcases g.dom id (by rw [hh]; simp) with r | r
      · exact absurd (h.none_ id (Nat.le_trans g.next q)) r
      · omega

def PostW (w0 : World) (φ0 : Ren) (n : Nat) (K : KC) (e : Exit) (a : Act) (w : World) : Prop := ∃ ex l s φ, e = Ex.out ex ∧ K ex l s ∧ At w0 φ0 n l s a w φ

theorem region_soundW (ho : CwOk call cw) (hcall : CallOk P w0 G call) (hT : ∀ f args, Tr (call f args)) (hm : P.follows .mixedOrders = true) (hG : Glob G φ0) {id : Nat} {ops : Array Oper} {draw : Bool}
    (hok : okCode n G (.region id ops draw) = true) {l : Tmps} {s : St} {K : KC} {a : Act} {w : World} {φ : Ren} (h : codeW P cw (.region id ops draw) l s K) (A : At w0 φ0 n l s a w φ) :
    (Code.region id ops draw).wp P (PostW w0 φ0 n K) a w := by
  have hs := code_sound (P := P) (w0 := w0) hcall hT hm 0 (.region id ops draw) hok
  have key : ∃ l1 s1 l', codeD P call 0 (.region id ops draw) l s = some (.normal, l1, s1) ∧ LE l1 l' ∧ K .normal l' s1 ∧ G1 s s1 := by
    cases draw with
    | true =>
      obtain ⟨l1, s1, l', e, q1, q2⟩ := drawW_some (P := P) ho (K := K .normal) h l (LE.refl l) []
      refine ⟨l1, s1, l', ?_, q1, q2, (drawD_tr (P := P) hT _ _ _ _ _ _ _ _ e).1⟩
      show ofTS (drawD P call ops.toList ops.toList [] [] l s) = _
      rw [e]; rfl
    | false =>
      obtain ⟨l1, s1, l', e, q1, q2⟩ := opsW_some (P := P) ho (K := K .normal) h l (LE.refl l)
      refine ⟨l1, s1, l', ?_, q1, q2, (opsD_tr (P := P) hT _ _ _ _ _ _ e).1⟩
      show ofTS (opsD P call ops.toList ops.toList l s) = _
      rw [e]; rfl
  obtain ⟨l1, s1, l', e, q1, q2, g⟩ := key
  refine hs l s _ l1 s1 φ a w e ⟨A.hr, hG.mono A.le, A.fr, fun id p _ => A.fresh id p, ⟨A.hi, fun id p _ => A.none_ id p⟩⟩ _ fun φ' a' w' po => ?_
  obtain ⟨e1, H1, F1⟩ := po
  exact ⟨.normal, l', s1, φ', rfl, q2, (A.next g e1 H1 F1).le' q1⟩

theorem lknow_le {l : Tmps} {c : Operand} {b : Bool} (h : evalO l c = .bool b) : LE l (lknow l c b) := by
  cases c with
  | tmp t => exact (LE.refl l).know h
  | _ => exact LE.refl l

theorem codeW_sound (ho : CwOk call cw) (hcall : CallOk P w0 G call) (hT : ∀ f args, Tr (call f args)) (hm : P.follows .mixedOrders = true) (hG : Glob G φ0) (h64 : ∀ id, 64 ≤ id → φ0 id = none) (c : Code) (hok : okCode n G c = true) :
    ∀ (l : Tmps) (s : St) (K : KC) (a : Act) (w : World) (φ : Ren), codeW P cw c l s K → At w0 φ0 n l s a w φ → c.wp P (PostW w0 φ0 n K) a w := by
  induction c with
  | skip => exact fun l s K a w φ h A => wp_skip ⟨.normal, l, s, φ, rfl, h, A⟩
  | region id ops draw => exact fun l s K a w φ h A => region_soundW ho hcall hT hm hG hok h A
  | seq a b ha hb =>
    intro l s K ac w φ h A
    simp only [okCode, Bool.and_eq_true] at hok
    refine wp_seq (wp_mono (ha hok.1 l s _ ac w φ h A) ?_)
    rintro e a1 w1 ⟨ex, l1, s1, φ1, rfl, k, A1⟩
    cases ex with
    | normal => exact hb hok.2 l1 s1 K a1 w1 φ1 k A1
    | exit i => exact ⟨.exit i, l1, s1, φ1, rfl, k, A1⟩
    | ret => exact ⟨.ret, l1, s1, φ1, rfl, k, A1⟩
  | cond c a b ha hb =>
    intro l s K ac w φ h A
    simp only [okCode, Bool.and_eq_true] at hok
    have hv := evalO_ok (hG.mono A.le) A.fr hok.1
    unfold codeW at h
    split at h
    case h_2 => exact h.elim
    rename_i t ht
    rw [ht] at hv
    refine wp_cond (t := t) (bool_inv hv) ?_
    cases t with
    | true => exact ha hok.2.1 _ s K ac w φ h (A.le' (lknow_le ht))
    | false => exact hb hok.2.2 _ s K ac w φ h (A.le' (lknow_le ht))
  | block id c ih =>
    intro l s K ac w φ h A
    refine wp_block (wp_mono (ih hok l s _ ac w φ h A) ?_)
    rintro e a1 w1 ⟨ex, l1, s1, φ1, rfl, k, A1⟩
    cases ex with
    | normal => exact ⟨.normal, l1, s1, φ1, rfl, k, A1⟩
    | ret => exact ⟨.ret, l1, s1, φ1, rfl, k, A1⟩
    | exit i =>
      show (if i = id then PostW w0 φ0 n K .normal a1 w1 else PostW w0 φ0 n K (.exit i) a1 w1)
      simp only at k
      cases hb : Nat.beq i id with
      | true =>
        rw [hb] at k
        rw [if_pos (Nat.eq_of_beq_eq_true hb)]
        exact ⟨.normal, l1, s1, φ1, rfl, k, A1⟩
      | false =>
        rw [hb] at k
        rw [if_neg (Nat.ne_of_beq_eq_false hb)]
        exact ⟨.exit i, l1, s1, φ1, rfl, k, A1⟩
  | loop c ih =>
    intro l s K ac w φ h A
    have key : ∀ a w φ, At w0 φ0 n l s a w φ → ∀ (b : Frame) (t : List Item) (cs : List Frame), ∃ e a' w', PostW w0 φ0 n K e a' w' ∧ Arrives P (lone (b.at a (.code c :: .inLoop c :: t)) cs w) b t cs e a' w' := by
      refine h (fun l s => ∀ a w φ, At w0 φ0 n l s a w φ → ∀ (b : Frame) (t : List Item) (cs : List Frame), ∃ e a' w', PostW w0 φ0 n K e a' w' ∧ Arrives P (lone (b.at a (.code c :: .inLoop c :: t)) cs w) b t cs e a' w') ?_ ?_
      · intro l s hb a w φ A b t cs
        obtain ⟨e, a1, w1, ⟨ex, l1, s1, φ1, rfl, k, A1⟩, harr⟩ := ih hok l s _ a w φ hb A b (.inLoop c :: t) cs
        cases ex with
        | normal =>
          obtain ⟨e2, a2, w2, hq2, harr2⟩ := k a1 w1 φ1 A1 b t cs
          exact ⟨e2, a2, w2, hq2, .of_steps (Steps.trans harr (.one step_inLoop)) harr2⟩
        | exit i => exact ⟨_, a1, w1, ⟨.exit i, l1, s1, φ1, rfl, k, A1⟩, .pass (x := .inLoop c) rfl (fun _ _ => .inl (by simp [Ex.out])) harr⟩
        | ret => exact ⟨_, a1, w1, ⟨.ret, l1, s1, φ1, rfl, k, A1⟩, .pass (x := .inLoop c) rfl (fun _ _ => .inl (by simp [Ex.out])) harr⟩
      · intro l s l' s' hw hr a w φ A
        obtain ⟨φ', A'⟩ := hw w0 φ0 n a w φ h64 A
        exact hr a w φ' A'
    intro b t cs
    obtain ⟨e, a', w', hq, harr⟩ := key ac w φ A b t cs
    exact ⟨e, a', w', hq, .of_steps (.one step_loop) harr⟩
  | exit id => exact fun l s K a w φ h A => wp_exit ⟨.exit id, l, s, φ, rfl, h, A⟩
  | ret => exact fun l s K a w φ h A => wp_ret ⟨.ret, l, s, φ, rfl, h, A⟩
  | _ => intro l s K a w φ h; exact h.elim

/-- A function's call. -/
theorem fnW_calls (ho : CwOk call cw) (hcall : CallOk P w0 G call) (hT : ∀ f args, Tr (call f args)) (hm : P.follows .mixedOrders = true) (hG : Glob G φ0) (h64 : ∀ id, 64 ≤ id → φ0 id = none)
    {f : FuncId} {fn : Func} {c : Code} (hf : P.funcs[f]? = some fn) (hb : fn.body = some c) (hok : okFunc G fn = true)
    {args args' : List Value} {s : St} {w : World} {Q : KV} (hle : Nat.ble args.length fn.ntmps = true)
    (H : HR φ0 s.h w0 w) (hA : VRL φ0 args args') (hfr : ∀ id, s.next ≤ id → φ0 id = none) (hno : ∀ id, s.next ≤ id → s.h.get id = none) (hhi : s.next ≤ s.hi)
    (h : codeW P cw c (inTab args 8) s (retW P fn Q)) :
    Calls P f ⟨args'⟩ w fun e w' => ∃ v v' s' φ', e = .returned v' ∧ Q v s' ∧ VR φ' v v' ∧ HR φ' s'.h w0 w' ∧ Le φ0 φ' ∧ (∀ id, s'.next ≤ id → φ' id = none) := by
  refine calls_of_wp hf hb ?_
  unfold okFunc at hok
  rw [hb] at hok
  simp only [Bool.and_eq_true] at hok
  have A : At w0 φ0 fn.ntmps (inTab args 8) s { tmps := (⟨args'⟩ : Array Value) ++ Array.replicate (fn.ntmps - (⟨args'⟩ : Array Value).size) undef, defers := [] } w φ0 :=
    ⟨H, Le.refl _, enter_frame hA (Nat.le_of_ble_eq_true hle), hfr, hno, hhi⟩
  refine wp_mono (codeW_sound ho hcall hT hm hG h64 c hok.1 _ _ _ _ _ _ h A) ?_
  rintro e a1 w1 ⟨ex, l1, s1, φ1, rfl, k, A1⟩
  have hend : resW P l1 s1 fn.results.toList (fun vs s => Q (valOf vs) s) → a1.defers = [] ∧ ∃ v2, (results fn a1.tmps).run P w1 = .ok v2 w1 ∧ ∃ v v' s' φ', Ending.returned v2 = .returned v' ∧ Q v s' ∧ VR φ' v v' ∧ HR φ' s'.h w0 w1 ∧ Le φ0 φ' ∧ (∀ id, s'.next ≤ id → φ' id = none) := by
    intro k
    obtain ⟨vs, s2, e2, q⟩ := resW_some k
    obtain ⟨vs', r1, r3, r4, r5⟩ := resD_ok fn.results.toList e2 A1.hr A1.fr.tmp
    exact ⟨A1.fr.defers, valOf vs', results_run r1, valOf vs, valOf vs', s2, φ1, rfl, q, valOf_ok r3, by rw [r4]; exact A1.hr, A1.le, fun id p => A1.fresh id (by rw [← r5]; exact p)⟩
  cases ex with
  | normal => exact hend k
  | ret => exact hend k
  | exit i => exact k.elim

end

/-! own entries, at every later world -/
structure Later (W w : World) : Prop where
  size : W.heap.size ≤ w.heap.size
  old : ∀ b, b < W.heap.size → w.heap[b]? = W.heap[b]?
theorem Later.refl (W : World) : Later W W := ⟨Nat.le_refl _, fun _ _ => rfl⟩
theorem Later.trans {A B C : World} (h : Later A B) (k : Later B C) : Later A C := ⟨Nat.le_trans h.size k.size, fun b q => (k.old b (Nat.lt_of_lt_of_le q h.size)).trans (h.old b q)⟩
theorem HR.later {φ : Ren} {h : Heap} {W w : World} (H : HR φ h W w) : Later W w := ⟨H.size, H.old⟩

def OwnAll (P : Program) (W : World) (G : Nat) (f : FuncId) (g : Own) : Prop := OwnTr g ∧ ∀ w, Later W w → OwnOk P w G f g
theorem OwnAll.later {W w : World} {G : Nat} {f : FuncId} {g : Own} (h : OwnAll P W G f g) (k : Later W w) : OwnAll P w G f g := ⟨h.1, fun w' q => h.2 w' (k.trans q)⟩

noncomputable def ownCall (l : List (Nat × Own)) : Call := fun f args s => match extL l f with | some g => g args s | none => none
def OwnsAll (P : Program) (W : World) (G : Nat) (l : List (Nat × Own)) : Prop := ∀ x ∈ l, OwnAll P W G x.1 x.2
theorem ownsAll_nil (W : World) (G : Nat) : OwnsAll P W G [] := fun _ h => by cases h
theorem OwnsAll.cons {W : World} {G : Nat} {l : List (Nat × Own)} {f : Nat} {g : Own} (h : OwnAll P W G f g) (k : OwnsAll P W G l) : OwnsAll P W G ((f, g) :: l) := by
  intro x hx
  rcases List.mem_cons.1 hx with rfl | hx
  · exact h
  · exact k x hx
theorem ownCall_tr {W : World} {G : Nat} {l : List (Nat × Own)} (h : OwnsAll P W G l) (f : FuncId) (args : List Value) : Tr (ownCall l f args) := by
  unfold ownCall
  cases he : extL l f with
  | none => exact none_tr fun _ => rfl
  | some g => exact (h _ (extL_mem he)).1 args
theorem ownCall_ok {W w : World} {G : Nat} {l : List (Nat × Own)} (h : OwnsAll P W G l) (k : Later W w) : CallOk P w G (ownCall l) := by
  intro f args s v s' e
  unfold ownCall at e
  split at e
  · rename_i g he
    exact (h _ (extL_mem he)).2 w k args s v s' e
  · cases e

/-- A function of numbers, bools and strings alone, that answers what F says. -/
theorem own_flat {cw : Cw} {W : World} {G : Nat} {l : List (Nat × Own)} {h : Heap} {f : FuncId} {fn : Func} {c : Code} {F : List Value → Option Value} (L : Laying G W h) (hGW : G ≤ W.heap.size) (hG64 : G ≤ 64)
    (hm : P.follows .mixedOrders = true) (hl : OwnsAll P W G l) (ho : CwOk (ownCall l) cw) (hf : P.funcs[f]? = some fn) (hb : fn.body = some c) (hok : okFunc G fn = true)
    (hF : ∀ args v, F args = some v → flat2L args = true ∧ flat v = true ∧ Nat.ble args.length fn.ntmps = true ∧ codeW P cw c (inTab args 8) (birth h 64) (retW P fn fun v' _ => v' = v)) : OwnAll P W G f (pureD F) := by
  refine ⟨pureD_tr F, fun W1 k1 args s v s' e φ w args' H _ hA _ _ => ?_⟩
  unfold pureD at e
  split at e
  case h_2 => cases e
  rename_i r hr
  cases e
  obtain ⟨h1, h2, h3, h4⟩ := hF args v hr
  have hn : (fn.name == "runtime.NumGoroutine") = false := by
    unfold okFunc at hok
    rw [hb] at hok
    simp only [Bool.and_eq_true, Bool.not_eq_true'] at hok
    exact hok.2
  rw [flat2L_inv h1 hA, callFunc_run hf hb hn]
  have kw : Later W w := k1.trans H.later
  have Lw := L.move kw.size kw.old hGW
  refine (fnW_calls (P := P) (w0 := w) (φ0 := glob G w) (G := G) ho (ownCall_ok hl kw) (ownCall_tr hl) hm (glob_glob G w) (fun id q => glob_top G w hG64 id q) hf hb hok h3 Lw.hr (flat2L_self h1 _) (fun id q => glob_top G w hG64 id q) (fun id q => Lw.top id (Nat.le_trans hG64 q)) (Nat.le_refl 64) h4).mono ?_
  rintro e W' ⟨v1, v', s1, φ', rfl, rfl, hv, H', _, _⟩
  exact ⟨v', φ, rfl, Ext.refl _ _ _, flat_any h2 hv, H.keep H'.kept H'.tape⟩

end Go.Det
end

section
/- A part of an evaluator of closed runs and of its soundness. -/
namespace Go.Det
variable {P : Program}

theorem loopW_unroll {cw : Cw} (hm : CwMono cw) {a : Code} {l : Tmps} {s : St} {K : KC} (h : codeW P cw a l s (stepW (fun l s => codeW P cw (.loop a) l s K) K)) : codeW P cw (.loop a) l s K := by
  intro R h1 h2
  exact h1 l s (codeW_mono hm a (stepW_mono (fun l s q => q R h1 h2) fun _ _ _ q => q) h)
theorem loopW_weak {cw : Cw} {a : Code} {l l' : Tmps} {s s' : St} {K : KC} (w : Weaker l s l' s') (h : codeW P cw (.loop a) l' s' K) : codeW P cw (.loop a) l s K :=
  fun R h1 h2 => h2 l s l' s' w (h R h1 h2)
/-- A loop by what stands at its head: the i-th state, of a measure that falls. -/
theorem loopW_inv {cw : Cw} (hm : CwMono cw) {a : Code} {K : KC} {ι : Type} (μ : ι → Nat) (L : ι → Tmps) (S : ι → St) (ok : ι → Prop)
    (hstep : ∀ i, ok i → codeW P cw a (L i) (S i) (stepW (fun l' s' => ∃ j, ok j ∧ μ j < μ i ∧ Weaker l' s' (L j) (S j)) K))
    (i : ι) (h0 : ok i) : codeW P cw (.loop a) (L i) (S i) K := by
  suffices key : ∀ n i, μ i = n → ok i → codeW P cw (.loop a) (L i) (S i) K from key _ i rfl h0
  intro n
  induction n using Nat.strongRecOn with
  | _ n ih =>
    intro i hn hi
    refine loopW_unroll hm (codeW_mono hm a (stepW_mono (fun l s q => ?_) fun _ _ _ q => q) (hstep i hi))
    obtain ⟨j, hj, hlt, w⟩ := q
    exact loopW_weak w (ih (μ j) (by omega) j rfl hj)

/-! what may be forgotten, and numbered anew -/
def renφ (ρ : Nat → Option Nat) (φ : Ren) : Ren := fun id => if id < 64 then φ id else match ρ id with | some o => φ o | none => none
/-- the value v, known less well as v' -/
def Wk (ρ : Nat → Option Nat) (v' v : Value) : Prop := ∀ φ x, VR φ v x → VR (renφ ρ φ) v' x
theorem Wk.und (ρ : Nat → Option Nat) (v : Value) : Wk ρ und v := fun _ _ _ => .any _
theorem Wk.flat {ρ : Nat → Option Nat} {v : Value} (h : flat v = true) : Wk ρ v v := fun _ _ k => flat_any h k
theorem Wk.slice {ρ : Nat → Option Nat} {i o off n c : Nat} (hi : 64 ≤ i) (h : ρ i = some o) : Wk ρ (.slice (some ⟨i, off, none⟩) n c) (.slice (some ⟨o, off, none⟩) n c) := by
  intro φ x k
  have e : ∀ y, φ o = some y → renφ ρ φ i = some y := fun y q => by unfold renφ; rw [if_neg (by omega), h]; exact q
  rcases slice_inv k with ⟨hc, a', rfl, h2⟩ | ⟨id', off', b, sh, sz, es, c', e1, rfl, e3, p, q, r, rfl⟩
  · rcases h2 with ⟨q, _⟩ | ⟨id', off', b, sh, sz, q, e1, rfl⟩
    · cases q
    · cases q; exact .slice _ _ _ _ _ _ _ (e _ e1) hc
  · cases e1; exact .sliceU _ _ _ _ _ _ _ _ (e _ e3) p q r
theorem Wk.slice_low {ρ : Nat → Option Nat} {i off n c : Nat} (hi : i < 64) : Wk ρ (.slice (some ⟨i, off, none⟩) n c) (.slice (some ⟨i, off, none⟩) n c) := by
  intro φ x k
  have e : ∀ y, φ i = some y → renφ ρ φ i = some y := fun y q => by unfold renφ; rw [if_pos hi]; exact q
  rcases slice_inv k with ⟨hc, a', rfl, h2⟩ | ⟨id', off', b, sh, sz, es, c', e1, rfl, e3, p, q, r, rfl⟩
  · rcases h2 with ⟨q, _⟩ | ⟨id', off', b, sh, sz, q, e1, rfl⟩
    · cases q
    · cases q; exact .slice _ _ _ _ _ _ _ (e _ e1) hc
  · cases e1; exact .sliceU _ _ _ _ _ _ _ _ (e _ e3) p q r
theorem Wk.ptr {ρ : Nat → Option Nat} {i o off : Nat} (hi : 64 ≤ i) (h : ρ i = some o) : Wk ρ (.pointer (some ⟨i, off, none⟩)) (.pointer (some ⟨o, off, none⟩)) := by
  intro φ x k
  obtain ⟨b, sh, sz, e, rfl⟩ := ptr_inv k
  exact .ptr _ _ _ _ _ (by unfold renφ; rw [if_neg (by omega), h]; exact e)

theorem flat_of1 {v : Value} (h : flat1 v = true) : flat v = true := by
  cases v <;> first
    | (simp [flat1] at h; done)
    | exact h
theorem weaker_of (ρ : Nat → Option Nat) {l l' : Tmps} {s s' : St} (ht : ∀ t, Wk ρ (lget l' t) (lget l t))
    (hlow : ∀ id cs e ro, id < 64 → s'.h.get id = some (.cells cs e ro) → s.h.get id = some (.cells cs e ro) ∧ flatL cs = true)
    (hcells : ∀ id cs e ro, 64 ≤ id → s'.h.get id = some (.cells cs e ro) → ∃ o cs0, ρ id = some o ∧ s.h.get o = some (.cells cs0 e ro) ∧ cs.length = cs0.length ∧ ∀ i, Wk ρ (cs.getD i und) (cs0.getD i und))
    (hinj : ∀ i j o, ρ i = some o → ρ j = some o → i = j) (hge : ∀ i o, ρ i = some o → 64 ≤ o)
    (hnm : ∀ id es, s'.h.get id ≠ some (.ob es)) (hn : ∀ id, s'.next ≤ id → ρ id = none ∧ s'.h.get id = none) (h64 : 64 ≤ s'.next) (hhi : s'.next ≤ s'.hi) : Weaker l s l' s' := by
  intro w0 φ0 n a w φ hφ0 A
  have hrn : ∀ id x, renφ ρ φ id = some x → (id < 64 ∧ φ id = some x) ∨ (64 ≤ id ∧ ∃ o, ρ id = some o ∧ φ o = some x) := by
    intro id x e
    unfold renφ at e
    by_cases q : id < 64
    · rw [if_pos q] at e; exact .inl ⟨q, e⟩
    · rw [if_neg q] at e
      split at e
      · rename_i o ho; exact .inr ⟨by omega, o, ho, e⟩
      · cases e
  refine ⟨renφ ρ φ, ⟨A.hr.os, A.hr.output, A.hr.tape, A.hr.size, A.hr.old, fun id b sh sz e => ?_, fun id cs e ro g => ?_, ?_, fun id es g => absurd g (hnm id es), fun i j ei ej bi si zi bj sj zj hij gi _ _ _ => absurd gi (hnm i ei)⟩, fun id x e => ?_, ⟨A.fr.size, fun t => ht t _ _ (A.fr.tmp t), A.fr.defers⟩, fun id q => ?_, fun id q => (hn id q).2, hhi⟩
  · rcases hrn _ _ e with ⟨_, e⟩ | ⟨_, o, _, e⟩
    · exact A.hr.dom _ _ _ _ e
    · exact A.hr.dom _ _ _ _ e
  · by_cases q : id < 64
    · obtain ⟨g0, hf⟩ := hlow _ _ _ _ q g
      obtain ⟨b, sh, sz, c, fz, k⟩ := A.hr.cells _ _ _ _ g0
      refine ⟨b, sh, sz, c, fz, by unfold renφ; rw [if_pos q]; exact k.at_, k.blk, k.exact_, k.size, k.fit, fun i hi => ?_, k.mine⟩
      have hv := k.cell i hi
      refine flat_any ?_ hv
      have hfl : ∀ {l : List Value} {i : Nat}, flatL l = true → i < l.length → flat (l.getD i und) = true := by
        intro l
        induction l with
        | nil => intro i _ h; simp at h
        | cons v t ih =>
          intro i h1 h2
          simp only [flatL, Bool.and_eq_true] at h1
          cases i with
          | zero => exact flat_of1 h1.1
          | succ i => simpa using ih h1.2 (by simpa using h2)
      exact hfl hf hi
    · obtain ⟨o, cs0, ho, g0, hl, hc⟩ := hcells _ _ _ _ (by omega) g
      obtain ⟨b, sh, sz, c, fz, k⟩ := A.hr.cells _ _ _ _ g0
      exact ⟨b, sh, sz, c, fz, by unfold renφ; rw [if_neg q, ho]; exact k.at_, k.blk, k.exact_, k.size, by rw [hl]; exact k.fit, fun i hi => hc i _ _ (k.cell i (by omega)), k.mine⟩
  · intro i j ci ei cj ej ro bi si zi bj sj zj hij gi gj ai aj
    have old : ∀ {id cs e r b sh sz}, s'.h.get id = some (.cells cs e r) → renφ ρ φ id = some (b, sh, sz) → ∃ o cs0, s.h.get o = some (.cells cs0 e r) ∧ φ o = some (b, sh, sz) ∧ ((id < 64 ∧ o = id) ∨ (64 ≤ id ∧ ρ id = some o)) := by
      intro id cs e r b sh sz g e1
      rcases hrn _ _ e1 with ⟨q, e2⟩ | ⟨q, o, ho, e2⟩
      · exact ⟨id, cs, (hlow _ _ _ _ q g).1, e2, .inl ⟨q, rfl⟩⟩
      · obtain ⟨o', cs0, ho', g0, _, _⟩ := hcells _ _ _ _ q g
        rw [ho] at ho'; cases ho'
        exact ⟨o, cs0, g0, e2, .inr ⟨q, ho⟩⟩
    obtain ⟨oi, c1, g1, a1, k1⟩ := old gi ai
    obtain ⟨oj, c2, g2, a2, k2⟩ := old gj aj
    refine A.hr.inj oi oj c1 ei c2 ej ro bi si zi bj sj zj ?_ g1 g2 a1 a2
    intro e
    subst e
    rcases k1 with ⟨q1, rfl⟩ | ⟨q1, e1⟩ <;> rcases k2 with ⟨q2, e3⟩ | ⟨q2, e2⟩
    · exact hij e3
    · have := hge _ _ e2; omega
    · have := hge _ _ e1; omega
    · exact hij (hinj _ _ _ e1 e2)
  · have hlt : id < 64 := by
      rcases Nat.lt_or_ge id 64 with q | q
      · exact q
      · rw [hφ0 id q] at e; cases e
    unfold renφ; rw [if_pos hlt]; exact A.le _ _ e
  · unfold renφ
    rw [if_neg (by omega), (hn id q).1]

/-- only slots are forgotten -/
theorem weaker_tmps {l l' : Tmps} {s : St} (h : ∀ t, lget l' t = und ∨ lget l' t = lget l t) : Weaker l s l' s := by
  intro w0 φ0 n a w φ _ A
  refine ⟨φ, A.hr, A.le, ⟨A.fr.size, fun t => ?_, A.fr.defers⟩, A.fresh, A.none_, A.hi⟩
  rcases h t with e | e
  · rw [e]; exact .any _
  · rw [e]; exact A.fr.tmp t

end Go.Det
end

section
/- Contracts of functions: what they answer by themselves, and the same as a law. -/
namespace Go.Det
variable {P : Program}

/-- a contract: an own entry, and the law that a caller sees -/
structure Con where
  own : Own
  w : List Value → St → KV → Prop
  ok : ∀ args s (K : KV), w args s K → ∃ v s', own args s = some (v, s') ∧ K v s' ∧ ∀ K' : KV, K' v s' → w args s K'
  mono : ∀ args s (K K' : KV), (∀ v s, K v s → K' v s) → w args s K → w args s K'

noncomputable def cwC : List (Nat × Con) → Cw
  | [] => fun _ _ _ _ => False
  | x :: t => fun g args s K => match Nat.beq x.1 g with | true => x.2.w args s K | false => cwC t g args s K
noncomputable def extC : List (Nat × Con) → List (Nat × Own)
  | [] => []
  | x :: t => (x.1, x.2.own) :: extC t
theorem extC_mem : ∀ {l : List (Nat × Con)} {x : Nat × Own}, x ∈ extC l → ∃ c, (x.1, c) ∈ l ∧ x.2 = c.own
  | [], x, h => by cases h
  | y :: t, x, h => by
    rcases List.mem_cons.1 h with rfl | h
    · exact ⟨y.2, List.mem_cons_self, rfl⟩
    · obtain ⟨c, h1, h2⟩ := extC_mem h; exact ⟨c, List.mem_cons_of_mem _ h1, h2⟩
theorem cwC_mono : ∀ l, CwMono (cwC l)
  | [] => fun _ _ _ _ _ _ h => h
  | x :: t => fun g args s K K' k h => by
    unfold cwC at h ⊢
    split at h
    · exact x.2.mono args s K K' k h
    · exact cwC_mono t g args s K K' k h
theorem cwC_ok (l : List (Nat × Con)) : CwOk (ownCall (extC l)) (cwC l) := by
  refine ⟨?_, cwC_mono l⟩
  induction l with
  | nil => exact fun _ _ _ _ h => h.elim
  | cons x t ih =>
    intro g args s K h
    unfold cwC at h ⊢
    unfold ownCall extC extL
    split at h
    · rename_i hb
      simp only [hb]
      exact x.2.ok args s K h
    · rename_i hb
      simp only [hb]
      exact ih g args s K h

/-- an answer that hangs on numbers, bools and strings alone -/
noncomputable def Con.flat {α : Type} (dec : List Value → Option α) (dom : α → Bool) (res : α → Value) : Con where
  own := pureD fun args => match dec args with
    | some a => (match dom a with | true => some (res a) | false => none)
    | none => none
  w := fun args s K => match dec args with
    | some a => dom a = true ∧ K (res a) s
    | none => False
  ok := by
    intro args s K h
    unfold pureD
    split at h
    · rename_i a ha
      exact ⟨res a, s, by simp only [ha, h.1], h.2, fun K' k => ⟨h.1, k⟩⟩
    · exact h.elim
  mono := by
    intro args s K K' k h
    split at h
    · exact ⟨h.1, k _ _ h.2⟩
    · exact h.elim

/-- A contract is kept: its body comes to what it says. -/
theorem con_flat {W : World} {G : Nat} {l : List (Nat × Con)} {h : Heap} {f : FuncId} {fn : Func} {c : Code} {α : Type} {dec : List Value → Option α} {dom : α → Bool} {res : α → Value} (enc : α → List Value)
    (L : Laying G W h) (hGW : G ≤ W.heap.size) (hG64 : G ≤ 64)
    (hm : P.follows .mixedOrders = true) (hl : OwnsAll P W G (extC l)) (hf : P.funcs[f]? = some fn) (hb : fn.body = some c) (hok : okFunc G fn = true)
    (hdec : ∀ args a, dec args = some a → args = enc a) (hflat : ∀ a, flat2L (enc a) = true ∧ flat (res a) = true ∧ Nat.ble (enc a).length fn.ntmps = true)
    (hF : ∀ a, dom a = true → codeW P (cwC l) c (inTab (enc a) 8) (birth h 64) (retW P fn fun v' _ => v' = res a)) : OwnAll P W G f (Con.flat dec dom res).own := by
  refine own_flat L hGW hG64 hm hl (cwC_ok l) hf hb hok fun args v hv => ?_
  split at hv
  case h_2 => cases hv
  rename_i a ha
  split at hv
  case h_2 => cases hv
  rename_i hd
  cases hv
  obtain rfl := hdec _ _ ha
  exact ⟨(hflat a).1, (hflat a).2.1, (hflat a).2.2, hF a hd⟩

theorem OwnsAll.con {W : World} {G : Nat} {l : List (Nat × Con)} {f : Nat} {c : Con} (h : OwnAll P W G f c.own) (k : OwnsAll P W G (extC l)) : OwnsAll P W G (extC ((f, c) :: l)) := OwnsAll.cons h k

/-! shapes of arguments -/
noncomputable def decQQ : List Value → Option (Int × Int × Int × Int)
  | [.agg ⟨[.int .u64 a, .int .u64 b]⟩, .agg ⟨[.int .u64 c, .int .u64 d]⟩] => some (a, b, c, d)
  | _ => none
noncomputable def encQQ (x : Int × Int × Int × Int) : List Value := [.agg ⟨[.int .u64 x.1, .int .u64 x.2.1]⟩, .agg ⟨[.int .u64 x.2.2.1, .int .u64 x.2.2.2]⟩]
theorem decQQ_enc {args a} (h : decQQ args = some a) : args = encQQ a := by
  unfold decQQ at h; split at h
  · cases h; rfl
  · cases h
noncomputable def decQ : List Value → Option (Int × Int)
  | [.agg ⟨[.int .u64 a, .int .u64 b]⟩] => some (a, b)
  | _ => none
noncomputable def encQ (x : Int × Int) : List Value := [.agg ⟨[.int .u64 x.1, .int .u64 x.2]⟩]
theorem decQ_enc {args a} (h : decQ args = some a) : args = encQ a := by
  unfold decQ at h; split at h
  · cases h; rfl
  · cases h
noncomputable def decI : List Value → Option Int
  | [.int .i64 a] => some a
  | _ => none
noncomputable def encI (x : Int) : List Value := [.int .i64 x]
theorem decI_enc {args a} (h : decI args = some a) : args = encI a := by
  unfold decI at h; split at h
  · cases h; rfl
  · cases h
noncomputable def decU3 : List Value → Option (Int × Int × Int)
  | [.int .u64 a, .int .u64 b, .int .u64 c] => some (a, b, c)
  | _ => none
noncomputable def encU3 (x : Int × Int × Int) : List Value := [.int .u64 x.1, .int .u64 x.2.1, .int .u64 x.2.2]
theorem decU3_enc {args a} (h : decU3 args = some a) : args = encU3 a := by
  unfold decU3 at h; split at h
  · cases h; rfl
  · cases h
noncomputable def decU : List Value → Option Int
  | [.int .u64 a] => some a
  | _ => none
noncomputable def encU (x : Int) : List Value := [.int .u64 x]
theorem decU_enc {args a} (h : decU args = some a) : args = encU a := by
  unfold decU at h; split at h
  · cases h; rfl
  · cases h

end Go.Det
end

section
/- Contracts of functions that are told as plain functions with or without an answer: a call is met by the answer that there is. -/
namespace Go.Det
variable {P : Program}

/-- what a caller sees: some answer there is, and it goes on with that -/
noncomputable def Con.opt {α β : Type} (dec : List Value → Option α) (f : α → Option β) (enc : β → Value) : Con where
  own := pureD fun args => match dec args with
    | some a => (match f a with | some b => some (enc b) | none => none)
    | none => none
  w := fun args s K => match dec args with
    | some a => ∃ x, f a = some x ∧ K (enc x) s
    | none => False
  ok := by
    intro args s K h
    unfold pureD
    split at h
    · rename_i a ha
      obtain ⟨x, hx, hk⟩ := h
      exact ⟨enc x, s, by simp only [ha, hx], hk, fun K' k => ⟨x, hx, k⟩⟩
    · exact h.elim
  mono := by
    intro args s K K' k h
    split at h
    · obtain ⟨x, hx, hk⟩ := h
      exact ⟨x, hx, k _ _ hk⟩
    · exact h.elim

theorem opt_own {α β : Type} {dec : List Value → Option α} {f : α → Option β} {enc : β → Value} {args : List Value} {a : α} {b : β} (h1 : dec args = some a) (h2 : f a = some b) (s : St) : (Con.opt dec f enc).own args s = some (enc b, s) := by
  simp only [Con.opt, pureD, h1, h2]

/-- A contract is kept: its body comes to what the function says. -/
theorem con_opt {W : World} {G : Nat} {l : List (Nat × Con)} {h : Heap} {f : FuncId} {fn : Func} {c : Code} {α β : Type} {dec : List Value → Option α} {F : α → Option β} {encR : β → Value} (enc : α → List Value)
    (L : Laying G W h) (hGW : G ≤ W.heap.size) (hG64 : G ≤ 64)
    (hm : P.follows .mixedOrders = true) (hl : OwnsAll P W G (extC l)) (hf : P.funcs[f]? = some fn) (hb : fn.body = some c) (hok : okFunc G fn = true)
    (hdec : ∀ args a, dec args = some a → args = enc a) (hflat : ∀ a, flat2L (enc a) = true ∧ Nat.ble (enc a).length fn.ntmps = true) (hres : ∀ b, flat (encR b) = true)
    (hF : ∀ a b, F a = some b → codeW P (cwC l) c (inTab (enc a) 8) (birth h 64) (retW P fn fun v' _ => v' = encR b)) : OwnAll P W G f (Con.opt dec F encR).own := by
  refine own_flat L hGW hG64 hm hl (cwC_ok l) hf hb hok fun args v hv => ?_
  split at hv
  case h_2 => cases hv
  rename_i a ha
  split at hv
  case h_2 => cases hv
  rename_i b hd
  cases hv
  obtain rfl := hdec _ _ ha
  exact ⟨(hflat a).1, hres b, (hflat a).2, hF a b hd⟩

end Go.Det
end
