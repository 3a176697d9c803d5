/- Texts of a proof, joined: words of the print (those that are named here) and printed functions. -/
import Derived.Test.YtfnacgojmdbjmaaDoorBk2
import Derived.Laws.Externs
import Derived.Test.YtfnacgojmdbjmaaDoorRows
import Derived.Test.YtfnacgojmdbjmaaDoorCards
import Derived.Test.YtfnacgojmdbjmaaDoorTie
import Derived.ChangeSame
import Derived.ProofKit
import Derived.LaidMore
import Derived.OpenShut
import Derived.Stop.Joined
import Derived.Lib.Bytealg
import Derived.Lib.Index
import Derived.Lib.MakeNoZero
import Derived.Shelf.LaysM
import Derived.Shelf.Strings.Search2
import Derived.Shelf.Strings.Shaped
import Derived.Test.YtfnacgojmdbjmaaDoorProg
import Derived.HandedShaped
import Derived.Lay
import Derived.Below
import Derived.Deep.Draws
import Derived.Shelf.Strings.Builder1
import Derived.Shelf.Strings.Builder2
import Derived.Shelf.Strings.OnBuilder
import Derived.Shelf.Small.Strs
import Derived.Shelf.Utf8.RuneCount
import Derived.Shelf.Strconv.Itoa0
import Derived.Shelf.Strconv.Itoa1
import Derived.Shelf.Strconv.Itoa2
import Derived.Shelf.Strings.Search1
import Derived.Shelf.Strings.Search3
import Derived.Shelf.Strings.Cut
import Derived.Shelf.Strings.Count
import Derived.Shelf.Strings.Split
import Derived.Shelf.Strings.SplitShaped
import Derived.Shelf.Unicode.Decode
import Derived.Shelf.Strings.RuneCount
import Derived.Shelf.Strings.Explode
import Derived.Shelf.Unicode.DecodeSlow
import Derived.Shelf.Unicode.DecodeAny
import Derived.Lib.SmallJoins
set_option linter.unusedSimpArgs false
set_option linter.unusedVariables false

section
/- A part of an evaluator of closed runs and of its soundness. -/
namespace Go.Det
variable {P : Program}
abbrev Own := List Value → St → Option (Value × St)
def OwnTr (g : Own) : Prop := ∀ args, Tr (g args)
def OwnOk (P : Program) (w0 : World) (G : Nat) (f : FuncId) (g : Own) : Prop := ∀ args s v s', g args s = some (v, s') → ∀ φ w args', HR φ s.h w0 w → Glob G φ → VRL φ args args' → (∀ id, s.next ≤ id → id < s'.hi → φ id = none) → Full s'.hi s →
    Gives P w0 φ s.next s' v ((callFunc f ⟨args'⟩).run P w)
noncomputable def extL : List (Nat × Own) → Intr
  | [] => fun _ => none
  | x :: t => fun f => match Nat.beq x.1 f with | true => some x.2 | false => extL t f
theorem extL_mem : ∀ {l : List (Nat × Own)} {f : FuncId} {g : Own}, extL l f = some g → (f, g) ∈ l
  | [], f, g, h => by cases h
  | x :: t, f, g, h => by
    unfold extL at h
    split at h
    · rename_i hb
      cases h
      rw [← Nat.eq_of_beq_eq_true hb]
      exact List.mem_cons_self
    · exact List.mem_cons_of_mem _ (extL_mem h)
theorem extL_tr {l : List (Nat × Own)} (h : ∀ x ∈ l, OwnTr x.2) : IntrTr (extL l) := fun _ _ e => h _ (extL_mem e)
theorem extL_ok {w0 : World} {G : Nat} {l : List (Nat × Own)} (h : ∀ x ∈ l, OwnOk P w0 G x.1 x.2) : IntrOk P w0 G (extL l) := fun _ _ e => h _ (extL_mem e)
noncomputable def pureD (h : List Value → Option Value) : Own := fun args s => match h args with | some v => some (v, s) | none => none
theorem pureD_tr (h : List Value → Option Value) : OwnTr (pureD h) := fun args => pure_tr (h args) fun s => by unfold pureD; cases h args <;> rfl
theorem pureD_ok {w0 : World} {G : Nat} {f : FuncId} {h : List Value → Option Value} (k : ∀ args v, h args = some v → flat2L args = true ∧ flat v = true ∧ ∀ w, (callFunc f ⟨args⟩).run P w = .ok (.value v) w) : OwnOk P w0 G f (pureD h) := by
  intro args s v s' e φ w args' H _ hA _ _
  unfold pureD at e
  split at e
  · rename_i r hr
    cases e
    obtain ⟨h1, h2, h3⟩ := k args v hr
    rw [flat2L_inv h1 hA, h3 w]
    exact ⟨φ, Ext.refl _ _ _, flat_self h2 φ, H⟩
  · cases e
def Entry (P : Program) (f : FuncId) (e : Array Value → Sem Value) : Prop := ∀ args w, (callFunc f args).run P w = ((e args).run P w).andThen fun v w' => .ok (.value v) w'
theorem Entry.mk {f : FuncId} {fn : Func} {e : Array Value → Sem Value} (hf : P.funcs[f]? = some fn) (hname : (fn.name == "runtime.NumGoroutine") = false)
    (hb : fn.body.isNone = true) (hn : Extern.findNext fn = none) (he : Extern.find fn = some e) : Entry P f e := fun args w => run_callFunc_extern hf hname hb hn he args w
def sub64Entry : Array Value → Sem Value := fun args => do
  let (x, y, b) ← Extern.MathBitsCarry.three "Sub64" args
  pure (Extern.MathBitsCarry.pair ((x + Extern.MathBitsCarry.m64 - y - b) % Extern.MathBitsCarry.m64) (if x < y + b then 1 else 0))
noncomputable def addH : List Value → Option Value
  | [.int .u64 x, .int .u64 y, .int .u64 c] => match Nat.ble c.toNat 1 with
    | true => some (.tuple #[.int .u64 (((x.toNat + y.toNat + c.toNat) % 18446744073709551616 : Nat) : Int), .int .u64 (((x.toNat + y.toNat + c.toNat) / 18446744073709551616 : Nat) : Int)])
    | false => none
  | _ => none
noncomputable def subH : List Value → Option Value
  | [.int .u64 x, .int .u64 y, .int .u64 c] => match Nat.ble c.toNat 1 with
    | true => some (.tuple #[.int .u64 (((x.toNat + 18446744073709551616 - y.toNat - c.toNat) % 18446744073709551616 : Nat) : Int),
        .int .u64 ((match Nat.ble (y.toNat + c.toNat) x.toNat with | true => (0 : Nat) | false => 1 : Nat) : Int)])
    | false => none
  | _ => none
theorem add64_ok {w0 : World} {G : Nat} {f : FuncId} (he : Entry P f add64Entry) : OwnOk P w0 G f (pureD addH) := by
  refine pureD_ok fun args v h => ?_
  unfold addH at h
  split at h
  case h_2 => cases h
  rename_i x y c
  split at h
  case h_2 => cases h
  rename_i hc
  have hc := Nat.le_of_ble_eq_true hc
  cases h
  refine ⟨rfl, rfl, fun w => ?_⟩
  rw [he]
  have key : (add64Entry #[.int .u64 x, .int .u64 y, .int .u64 c]).run P w = .ok (Extern.MathBitsCarry.pair ((x.toNat + y.toNat + c.toNat) % Extern.MathBitsCarry.m64) ((x.toNat + y.toNat + c.toNat) / Extern.MathBitsCarry.m64)) w := by
    match c, hc with
    | .ofNat 0, _ => rfl
    | .ofNat 1, _ => rfl
    | .negSucc _, _ => rfl
  exact congrArg (fun r : Result Value => Result.andThen r fun v w' => Result.ok (Next.value v) w') key
theorem sub64_ok {w0 : World} {G : Nat} {f : FuncId} (he : Entry P f sub64Entry) : OwnOk P w0 G f (pureD subH) := by
  refine pureD_ok fun args v h => ?_
  unfold subH at h
  split at h
  case h_2 => cases h
  rename_i x y c
  split at h
  case h_2 => cases h
  rename_i hc
  have hc := Nat.le_of_ble_eq_true hc
  cases h
  refine ⟨rfl, rfl, fun w => ?_⟩
  rw [he]
  have h2 : (if x.toNat < y.toNat + c.toNat then 1 else 0) = (match Nat.ble (y.toNat + c.toNat) x.toNat with | true => (0 : Nat) | false => 1) := by
    cases hb : Nat.ble (y.toNat + c.toNat) x.toNat with
    | true => have := Nat.le_of_ble_eq_true hb; rw [if_neg (by omega)]
    | false =>
      have : ¬ (y.toNat + c.toNat ≤ x.toNat) := fun q => by rw [Nat.ble_eq_true_of_le q] at hb; cases hb
      rw [if_pos (by omega)]
  rw [← h2]
  have key : (sub64Entry #[.int .u64 x, .int .u64 y, .int .u64 c]).run P w = .ok (Extern.MathBitsCarry.pair ((x.toNat + Extern.MathBitsCarry.m64 - y.toNat - c.toNat) % Extern.MathBitsCarry.m64) (if x.toNat < y.toNat + c.toNat then 1 else 0)) w := by
    match c, hc with
    | .ofNat 0, _ => rfl
    | .ofNat 1, _ => rfl
    | .negSucc _, _ => rfl
  exact congrArg (fun r : Result Value => Result.andThen r fun v w' => Result.ok (Next.value v) w') key
noncomputable def doneD : Own := fun args s => match args with | [] => some (.bool true, s) | _ => none
theorem HR.keep {φ : Ren} {h : Heap} {w0 w w' : World} (H : HR φ h w0 w) (k : Kept w w') (ht : w'.tape = w.tape) : HR φ h w0 w' := by
  refine ⟨k.os.trans H.os, k.output.trans H.output, ht.trans H.tape, Nat.le_trans H.size k.size, fun b hb => (k.old b (Nat.lt_of_lt_of_le hb H.size)).trans (H.old b hb), fun id b sh sz e => Nat.lt_of_lt_of_le (H.dom _ _ _ _ e) k.size, fun id cs e ro g => ?_, H.inj, fun id es g => ?_, H.oinj⟩
  · obtain ⟨b, sh, sz, c, fz, q⟩ := H.cells _ _ _ _ g
    exact ⟨b, sh, sz, c, fz, q.at_, (k.old b (H.dom _ _ _ _ q.at_)).trans q.blk, q.exact_, q.size, q.fit, q.cell, q.mine⟩
  · obtain ⟨b, sh, sz, O, q⟩ := H.obs _ _ g
    exact ⟨b, sh, sz, O, q.at_, (k.old b (H.dom _ _ _ _ q.at_)).trans q.blk, q.zero, q.mine, q.ob⟩
theorem Laying.move {G : Nat} {W w : World} {h : Heap} (L : Laying G W h) (hs : W.heap.size ≤ w.heap.size) (hold : ∀ b, b < W.heap.size → w.heap[b]? = W.heap[b]?) (hG : G ≤ W.heap.size) : Laying G w h := by
  have hg : glob G w = glob G W := by
    funext g
    unfold glob
    by_cases q : g < G
    · rw [if_pos q, if_pos q, hold g (by omega)]
    · rw [if_neg q, if_neg q]
  refine ⟨⟨rfl, rfl, rfl, Nat.le_refl _, fun _ _ => rfl, fun id b sh sz e => ?_, fun id cs e ro q => ?_, fun i j ci ei cj ej r bi si zi bj sj zj hij gi gj ai aj => ?_, fun id es q => absurd q (L.nomp id es), fun i j ei ej bi si zi bj sj zj hij gi _ _ _ => absurd gi (L.nomp i ei)⟩, L.ro, L.nomp, L.top⟩
  · rw [hg] at e; exact Nat.lt_of_lt_of_le (L.hr.dom _ _ _ _ e) hs
  · obtain ⟨b, sh, sz, c, fz, k⟩ := L.hr.cells _ _ _ _ q
    have hr := L.ro _ _ _ _ q
    exact ⟨b, sh, sz, c, fz, by rw [hg]; exact k.at_, (hold b (L.hr.dom _ _ _ _ k.at_)).trans k.blk, k.exact_, k.size, k.fit, fun i hi => by rw [hg]; exact k.cell i hi, fun hn => by rw [hr] at hn; cases hn⟩
  · rw [hg] at ai aj; exact L.hr.inj _ _ _ _ _ _ _ _ _ _ _ _ _ hij gi gj ai aj
theorem done_ok {W : World} {G mask N n k top : Nat} {ext : Intr} {f : FuncId} {fn : Func} {c : Code} {h : Heap} (L : Laying G W h) (hGW : G ≤ W.heap.size) (hGt : G ≤ top)
    (hm : P.follows .mixedOrders = true) (hok : (Nat.ble (mask + 1) (Nat.shiftLeft 1 N) && okMask P G mask N) = true) (hit : IntrTr ext) (hio : ∀ w, W.heap.size ≤ w.heap.size → (∀ b, b < W.heap.size → w.heap[b]? = W.heap[b]?) → IntrOk P w G ext)
    (hf : P.funcs[f]? = some fn) (hb : fn.body = some c) (hn : (fn.name == "runtime.NumGoroutine") = false)
    (e : isTrue (callD P (mkIntr mask ext) n k f [] (birth h top)) = true) : OwnOk P W G f doneD := by
  intro args s v s' ed φ w args' H _ hA _ _
  unfold doneD at ed
  split at ed
  case h_2 => cases ed
  cases ed
  rw [hA.of_nil, callFunc_run hf hb hn]
  have Lw := L.move H.size H.old hGW
  obtain ⟨s1, e⟩ := isTrue_some e
  refine (run_call (args := []) hm hok hit (hio w H.size H.old) hf hb hn Lw.hr (glob_glob G w) (VRL.nil _) (glob_top G w hGt) (fun id q => Lw.top id (Nat.le_trans hGt q)) e).mono ?_
  rintro e W' ⟨v', φ', rfl, _, hv, H'⟩
  rw [bool_inv hv]
  exact ⟨.bool true, φ, rfl, Ext.refl _ _ _, .bool true, H.keep H'.kept H'.tape⟩
end Go.Det
end

section
/- What a piece of code must come to, said as a law: branches over a bool that is not known are kept, bounds are said. -/
namespace Go.Det
variable (P : Program)
noncomputable def bifW (b : Bool) (A B : Prop) : Prop := match b with | true => A | false => B
theorem bifW_intro {b : Bool} {A B : Prop} (h1 : b = true → A) (h2 : b = false → B) : bifW b A B := by
  cases b
  · exact h2 rfl
  · exact h1 rfl
theorem bifW_mono {b : Bool} {A B A' B' : Prop} (h1 : A → A') (h2 : B → B') (h : bifW b A B) : bifW b A' B' := by
  cases b
  · exact h2 h
  · exact h1 h
abbrev KV := Value → St → Prop
abbrev KT := Tmps → St → Prop
abbrev KC := Ex → Tmps → St → Prop
noncomputable def optW (r : Option (Value × St)) (K : KV) : Prop := match r with | some x => K x.1 x.2 | none => False
noncomputable def nthW : List Value → Nat → (Value → Prop) → Prop
  | [], _, _ => False
  | v :: _, 0, K => K v
  | _ :: t, n + 1, K => nthW t n K
noncomputable def dropW : Nat → List Value → (List Value → Prop) → Prop
  | 0, cs, K => K cs
  | _ + 1, [], _ => False
  | n + 1, _ :: t, K => dropW n t K
noncomputable def takeW : Nat → List Value → (List Value → Prop) → Prop
  | 0, _, K => K []
  | _ + 1, [], _ => False
  | n + 1, v :: t, K => takeW n t fun r => K (v :: r)
noncomputable def putW : Nat → List Value → List Value → (List Value → Prop) → Prop
  | 0, l, ws, K => takeW ws.length l fun _ => K (ws ++ l.drop ws.length)
  | _ + 1, [], _, _ => False
  | n + 1, x :: t, ws, K => putW n t ws fun r => K (x :: r)
theorem nthW_intro {K : Value → Prop} : ∀ {l : List Value} {n : Nat} {v : Value}, l[n]? = some v → K v → nthW l n K
  | [], n, v, h, _ => by simp at h
  | x :: t, 0, v, h, k => by simp only [List.getElem?_cons_zero, Option.some.injEq] at h; subst h; exact k
  | x :: t, n + 1, v, h, k => by rw [List.getElem?_cons_succ] at h; exact nthW_intro (l := t) h k
theorem nthW_some {K : Value → Prop} : ∀ {l : List Value} {n : Nat}, nthW l n K → ∃ v, l[n]? = some v ∧ K v
  | [], _, h => h.elim
  | v :: _, 0, h => ⟨v, rfl, h⟩
  | _ :: t, n + 1, h => by obtain ⟨v, e, k⟩ := nthW_some (l := t) h; exact ⟨v, by rw [List.getElem?_cons_succ]; exact e, k⟩
theorem dropW_intro {K : List Value → Prop} : ∀ {n : Nat} {l : List Value}, n ≤ l.length → K (l.drop n) → dropW n l K
  | 0, l, _, k => k
  | n + 1, [], h, _ => by simp at h
  | n + 1, x :: t, h, k => dropW_intro (l := t) (by simpa using h) k
theorem dropW_some {K : List Value → Prop} : ∀ {n : Nat} {l : List Value}, dropW n l K → n ≤ l.length ∧ K (l.drop n)
  | 0, l, k => ⟨Nat.zero_le _, k⟩
  | n + 1, [], h => h.elim
  | n + 1, x :: t, h => by obtain ⟨a, b⟩ := dropW_some (l := t) h; exact ⟨by simpa using a, b⟩
theorem takeW_intro {K : List Value → Prop} : ∀ {n : Nat} {l : List Value}, n ≤ l.length → K (l.take n) → takeW n l K
  | 0, l, _, k => k
  | n + 1, [], h, _ => by simp at h
  | n + 1, x :: t, h, k => takeW_intro (l := t) (by simpa using h) k
theorem takeW_some {K : List Value → Prop} : ∀ {n : Nat} {l : List Value}, takeW n l K → n ≤ l.length ∧ K (l.take n)
  | 0, l, k => ⟨Nat.zero_le _, k⟩
  | n + 1, [], h => h.elim
  | n + 1, x :: t, h => by obtain ⟨a, b⟩ := takeW_some (l := t) h; exact ⟨by simpa using a, b⟩
theorem putW_intro {K : List Value → Prop} : ∀ {n : Nat} {l ws : List Value}, n + ws.length ≤ l.length → K (l.take n ++ ws ++ l.drop (n + ws.length)) → putW n l ws K
  | 0, l, ws, h, k => takeW_intro (by omega) (by simpa using k)
  | n + 1, [], ws, h, _ => by simp at h
  | n + 1, x :: t, ws, h, k => putW_intro (l := t) (by simp at h; omega) (by rw [show n + 1 + ws.length = (n + ws.length) + 1 by omega] at k; exact k)
theorem putW_some {K : List Value → Prop} : ∀ {n : Nat} {l ws : List Value}, putW n l ws K → n + ws.length ≤ l.length ∧ K (l.take n ++ ws ++ l.drop (n + ws.length))
  | 0, l, ws, h => by obtain ⟨a, b⟩ := takeW_some h; exact ⟨by omega, by simpa using b⟩
  | n + 1, [], ws, h => h.elim
  | n + 1, x :: t, ws, h => by
    obtain ⟨a, b⟩ := putW_some (l := t) h
    refine ⟨by simp; omega, ?_⟩
    rw [show n + 1 + ws.length = (n + ws.length) + 1 by omega]
    exact b
theorem ltake_of_le : ∀ {n : Nat} {l : List Value}, n ≤ l.length → ltake n l = some (l.take n)
  | 0, l, _ => rfl
  | n + 1, [], h => by simp at h
  | n + 1, v :: t, h => by rw [ltake_succ_cons, ltake_of_le (l := t) (by simpa using h)]; rfl
theorem lput0_of_le : ∀ {l ws : List Value}, ws.length ≤ l.length → lput0 l ws = some (ws ++ l.drop ws.length)
  | l, [], _ => by rw [lput0_nil]; simp
  | [], w :: ws, h => by simp at h
  | x :: t, w :: ws, h => by rw [lput0_cons, lput0_of_le (l := t) (by simpa using h)]; simp
theorem lput_of_le : ∀ {n : Nat} {l ws : List Value}, n + ws.length ≤ l.length → lput l n ws = some (l.take n ++ ws ++ l.drop (n + ws.length))
  | 0, l, ws, h => by rw [lput_zero, lput0_of_le (by omega)]; simp
  | n + 1, [], ws, h => by simp at h
  | n + 1, x :: t, ws, h => by
    rw [lput_succ_cons, lput_of_le (l := t) (by simp at h; omega), show n + 1 + ws.length = (n + ws.length) + 1 by omega]; simp
noncomputable def loadW (s : St) (t : TypeId) (a : Value) (K : KV) : Prop :=
  match a with
  | .pointer (some ⟨id, off, none⟩) =>
    match s.h.get id with
    | some (.cells cs _ _) =>
      match isAggB P t with
      | some true => match szOf P t with
        | some 0 => K (.agg ([] : List Value).toArray) (s.read id)
        | some (n + 1) => dropW off cs fun r => takeW (n + 1) r fun r => K (.agg r.toArray) (s.read id)
        | none => False
      | some false => nthW cs off fun v => K v (s.read id)
      | none => False
    | _ => False
  | _ => False
theorem loadW_some {P : Program} {s : St} {t : TypeId} {a : Value} {K : KV} (h : loadW P s t a K) : ∃ v s', loadD P s t a = some (v, s') ∧ K v s' := by
  unfold loadW at h
  split at h
  case h_2 => exact h.elim
  rename_i id off
  split at h
  case h_2 => exact h.elim
  rename_i cs e ro hg
  split at h
  · rename_i hb
    split at h
    · rename_i hn
      exact ⟨_, _, by simp only [loadD, hg, hb, hn, ltake_zero], h⟩
    · rename_i n hn
      obtain ⟨h1, h⟩ := dropW_some h
      obtain ⟨h2, h⟩ := takeW_some h
      exact ⟨_, _, by simp only [loadD, hg, hb, hn, ldrop_eq, ltake_of_le h2], h⟩
    · exact h.elim
  · rename_i hb
    obtain ⟨v, e, h⟩ := nthW_some h
    refine ⟨_, _, ?_, h⟩
    have hd : cs.drop off = v :: cs.drop (off + 1) := by
      obtain ⟨hlt, rfl⟩ := List.getElem?_eq_some_iff.1 e
      rw [List.drop_eq_getElem_cons hlt]
    simp only [loadD, hg, hb, ldrop_eq, hd]
  · exact h.elim
theorem loadW_mono {P : Program} {s : St} {t : TypeId} {a : Value} {K K' : KV} (k : ∀ v s, K v s → K' v s) (h : loadW P s t a K) : loadW P s t a K' := by
  unfold loadW at h ⊢
  split at h
  case h_2 => exact h.elim
  split at h
  case h_2 => exact h.elim
  split at h
  · split at h
    · exact k _ _ h
    · obtain ⟨h1, h⟩ := dropW_some h
      obtain ⟨h2, h⟩ := takeW_some h
      exact dropW_intro h1 (takeW_intro h2 (k _ _ h))
    · exact h.elim
  · obtain ⟨v, e, h⟩ := nthW_some h
    exact nthW_intro e (k _ _ h)
  · exact h.elim
noncomputable def storeW (s : St) (t : TypeId) (a v : Value) (K : St → Prop) : Prop :=
  match a with
  | .pointer (some ⟨id, off, none⟩) =>
    match s.h.get id with
    | some (.cells cs e false) =>
      match szOf P t with
      | some n => match Nat.beq (cellsOfV v).length n && oneL (cellsOfV v) with
        | true => putW off cs (cellsOfV v) fun cs' => K (s.write id (.cells cs' e false))
        | false => False
      | none => False
    | _ => False
  | _ => False
theorem storeW_some {P : Program} {s : St} {t : TypeId} {a v : Value} {K : St → Prop} (h : storeW P s t a v K) : ∃ s', storeD P s t a v = some s' ∧ K s' := by
  unfold storeW at h
  split at h
  case h_2 => exact h.elim
  rename_i id off
  split at h
  case h_2 => exact h.elim
  rename_i cs e hg
  split at h
  case h_2 => exact h.elim
  rename_i n hn
  split at h
  case h_2 => exact h.elim
  rename_i hc
  obtain ⟨h1, h⟩ := putW_some h
  exact ⟨_, by simp only [storeD, hg, hn, hc, if_true, lput_of_le h1], h⟩
theorem storeW_mono {P : Program} {s : St} {t : TypeId} {a v : Value} {K K' : St → Prop} (k : ∀ s, K s → K' s) (h : storeW P s t a v K) : storeW P s t a v K' := by
  unfold storeW at h ⊢
  split at h
  case h_2 => exact h.elim
  split at h
  case h_2 => exact h.elim
  split at h
  case h_2 => exact h.elim
  split at h
  case h_2 => exact h.elim
  obtain ⟨h1, h⟩ := putW_some h
  exact putW_intro h1 (k _ h)
noncomputable def cdec (p : Prop) : Bool := @decide p (Classical.propDecidable p)
theorem cdec_eq (p : Prop) [d : Decidable p] : decide p = cdec p := by
  unfold cdec
  congr
theorem cdec_true {p : Prop} : cdec p = true ↔ p := by unfold cdec; simp
theorem cdec_false {p : Prop} : cdec p = false ↔ ¬ p := by unfold cdec; simp
theorem cdec_beq (a b : Int) : (a == b) = cdec (a = b) := cdec_eq (a = b)
theorem cdec_bne (a b : Int) : (a != b) = cdec (a ≠ b) := by
  rw [← cdec_eq (a ≠ b)]
  show (!(decide (a = b))) = decide (a ≠ b)
  simp
theorem cdec_beqB (a b : Bool) : (a == b) = cdec (a = b) := by rw [← cdec_eq (a = b)]; cases a <;> cases b <;> rfl
theorem cdec_str (a b : ByteArray) : strEq a b = cdec (a.data.toList = b.data.toList) := by
  rw [← cdec_eq (a.data.toList = b.data.toList)]
  unfold strEq
  rw [Bool.eq_iff_iff]; simp
noncomputable def eqCellsW : List Nat → List Value → List Value → Option Bool
  | [], [], [] => some true
  | 0 :: ks, .int k a :: s, .int k' b :: t => match kindEq k k' with
    | true => (match eqCellsW ks s t with | some r => some (cdec (a = b) && r) | none => none)
    | false => none
  | 1 :: ks, .bool a :: s, .bool b :: t => match eqCellsW ks s t with | some r => some (cdec (a = b) && r) | none => none
  | 2 :: ks, .string a :: s, .string b :: t => match eqCellsW ks s t with | some r => some (cdec (a.data.toList = b.data.toList) && r) | none => none
  | _, _, _ => none
theorem eqCellsW_eq (ks : List Nat) : ∀ (a b : List Value), eqCells ks a b = eqCellsW ks a b := by
  induction ks with
  | nil => intro a b; cases a <;> cases b <;> rfl
  | cons k ks ih =>
    intro a b
    rcases k with _ | _ | _ | k
    · cases a with
      | nil => cases b <;> rfl
      | cons v s => cases b with
        | nil => cases v <;> rfl
        | cons u t =>
          cases v with
          | int q x => cases u with
            | int q' y =>
              show (match kindEq q q' with | true => (match eqCells ks s t with | some r => some ((x == y) && r) | none => none) | false => none) = (match kindEq q q' with | true => (match eqCellsW ks s t with | some r => some (cdec (x = y) && r) | none => none) | false => none)
              rw [ih, cdec_beq]
            | _ => rfl
          | _ => rfl
    · cases a with
      | nil => cases b <;> rfl
      | cons v s => cases b with
        | nil => cases v <;> rfl
        | cons u t =>
          cases v with
          | bool x => cases u with
            | bool y =>
              show (match eqCells ks s t with | some r => some ((x == y) && r) | none => none) = (match eqCellsW ks s t with | some r => some (cdec (x = y) && r) | none => none)
              rw [ih, cdec_beqB]
            | _ => rfl
          | _ => rfl
    · cases a with
      | nil => cases b <;> rfl
      | cons v s => cases b with
        | nil => cases v <;> rfl
        | cons u t =>
          cases v with
          | string x => cases u with
            | string y =>
              show (match eqCells ks s t with | some r => some (strEq x y && r) | none => none) = (match eqCellsW ks s t with | some r => some (cdec (x.data.toList = y.data.toList) && r) | none => none)
              rw [ih, cdec_str]
            | _ => rfl
          | _ => rfl
    · cases a <;> cases b <;> rfl
noncomputable def aggEqW (t : TypeId) (a b : List Value) : Option Bool :=
  match P.underlying t with
  | some (.struct fs) => (match P.stoodInHeld t || P.eqGuardType P.depth t with
    | true => none
    | false => (match plainFs P (plainSh P 11) 0 fs.toList with
      | some ks => eqCellsW ks a b
      | none => none))
  | _ => none
noncomputable def binW (op : BinOp) (t : TypeId) (x y : Operand) (a b : Value) (s : St) (K : KV) : Prop :=
  match a, b with
  | .int k m, .int k' n => (match op with
    | .shl => 0 ≤ n ∧ K (.int k (shlI k m n)) s
    | .shr => 0 ≤ n ∧ K (.int k (shrI k m n)) s
    | op => (match kindEq k k' with
      | false => False
      | true => (match op with
        | .quo => n ≠ 0 ∧ K (.int k (k.wrap (m.tdiv n))) s
        | .rem => n ≠ 0 ∧ K (.int k (m.tmod n)) s
        | .eql => K (.bool (cdec (m = n))) s
        | .neq => K (.bool (cdec (m ≠ n))) s
        | .lss => K (.bool (cdec (m < n))) s
        | .leq => K (.bool (cdec (m ≤ n))) s
        | .gtr => K (.bool (cdec (n < m))) s
        | .geq => K (.bool (cdec (n ≤ m))) s
        | op => optW (ofV (intBin op k m n) s) K)))
  | .string p, .string q => (match op with
    | .add => p.size + q.size ≤ 9223372036854775807 ∧ K (.string (p ++ q)) s
    | .eql => K (.bool (cdec (p.data.toList = q.data.toList))) s
    | .neq => K (.bool (!cdec (p.data.toList = q.data.toList))) s
    | op => optW (ofV (binD P op t x y (.string p) (.string q)) s) K)
  | .agg p, .agg q => (match op with
    | .eql => (match aggEqW P t p.toList q.toList with | some r => K (.bool r) s | none => False)
    | .neq => (match aggEqW P t p.toList q.toList with | some r => K (.bool (!r)) s | none => False)
    | _ => False)
  | a, b => optW (ofV (binD P op t x y a b) s) K
noncomputable def indexAddrW (t : TypeId) (x ix : Value) (s : St) (K : KV) : Prop :=
  match typ P t, x, ix with
  | some (.slice elem), .slice (some ⟨id, off, none⟩) n _, .int _ i => (match szOf P elem with
    | some size => (0 ≤ i ∧ i < (n : Int)) ∧ K (.pointer (some ⟨id, off + i.toNat * size, none⟩)) s
    | none => False)
  | some (.array n elem), .pointer (some ⟨id, off, none⟩), .int _ i => (match szOf P elem with
    | some size => (0 ≤ i ∧ i < (n : Int)) ∧ K (.pointer (some ⟨id, off + i.toNat * size, none⟩)) s
    | none => False)
  | _, _, _ => False
noncomputable def indexW (t : TypeId) (x ix : Value) (s : St) (K : KV) : Prop :=
  match typ P t, x, ix with
  | some .string, .string b, .int _ i => (0 ≤ i ∧ i < (b.data.toList.length : Int)) ∧ K (.int .u8 (b.data.toList.getD i.toNat 0).toNat) s
  | _, x, ix => optW (ofV (indexD P t x ix) s) K
noncomputable def wantW (all : List Oper) (l : Tmps) (o : Oper) (yes no : Tmps → Prop) : Prop :=
  match o.guard with
  | none => yes l
  | some g =>
    match nth all g.1 with
    | some q => (match q.dst with
      | some d => (match lget l d with
        | .bool b => bifW b ((match g.2 with | true => yes | false => no) (lset l d (.bool true))) ((match g.2 with | true => no | false => yes) (lset l d (.bool false)))
        | .tuple _ => False
        | _ => no l)
      | none => False)
    | none => False
abbrev Cw := FuncId → List Value → St → KV → Prop
noncomputable def call0 : Call := fun _ _ _ => none
noncomputable def opW (cw : Cw) (o : Oper) (l : Tmps) (s : St) (K : KV) : Prop :=
  match o.op with
  | .binOp op t x y _ => binW P op t x y (evalO l x) (evalO l y) s K
  | .load t a => loadW P s t (evalO l a) K
  | .store t a x => storeW P s t (evalO l a) (evalO l x) fun s => K und s
  | .pick c a b => (match evalO l c with | .bool t => bifW t (K (evalO l a) s) (K (evalO l b) s) | _ => False)
  | .indexAddr t x i => indexAddrW P t (evalO l x) (evalO l i) s K
  | .index t x i => indexW P t (evalO l x) (evalO l i) s K
  | .call c => (match c.callee with
    | .value f => (match evalO l f with
      | .func (.func g) first cap => cw g (first.toList ++ (evalL l c.args.toList ++ cap.toList)) s K
      | _ => False)
    | .builtin b => optW (builtinD P s b c.argTypes o.type (evalL l c.args.toList)) K
    | .invoke _ _ => False)
  | _ => optW (opD P call0 o l s) K
noncomputable def opsW (cw : Cw) (all : List Oper) : List Oper → Tmps → St → KT → Prop
  | [], l, s, K => K l s
  | o :: rest, l, s, K => wantW all l o (fun l => opW P cw o l s fun v s => opsW cw all rest (putD l o.dst v) s K) (fun l => opsW cw all rest (putD l o.dst skp) s K)
noncomputable def drawW (cw : Cw) (all : List Oper) : List Oper → List Foot → Tmps → St → KT → Prop
  | [], _, l, s, K => K l s
  | o :: rest, done, l, s, K => match edgesOk done.length o.after.toList with
    | true => wantW all l o
      (fun l => opW P cw o l (solo s) fun v x => match apartAll (footOf all o done x.rd x.wr) 0 done with
        | true => drawW cw all rest (done ++ [footOf all o done x.rd x.wr]) (putD l o.dst v) (merge s x) K
        | false => False)
      (fun l => match apartAll (footOf all o done 0 0) 0 done with
        | true => drawW cw all rest (done ++ [footOf all o done 0 0]) (putD l o.dst skp) (merge s (solo s)) K
        | false => False)
    | false => False
noncomputable def lknow (l : Tmps) (c : Operand) (b : Bool) : Tmps := match c with | .tmp t => lset l t (.bool b) | _ => l
noncomputable def stepW (R : KT) (K : KC) : KC := fun e l s => match e with | .normal => R l s | .exit i => K (.exit i) l s | .ret => K .ret l s
structure At (w0 : World) (φ0 : Ren) (n : Nat) (l : Tmps) (s : St) (a : Act) (w : World) (φ : Ren) : Prop where
  hr : HR φ s.h w0 w
  le : Le φ0 φ
  fr : Fr n φ l a
  fresh : ∀ id, s.next ≤ id → φ id = none
  none_ : ∀ id, s.next ≤ id → s.h.get id = none
  hi : s.next ≤ s.hi
noncomputable def Weaker (l : Tmps) (s : St) (l' : Tmps) (s' : St) : Prop :=
  ∀ w0 φ0 n a w φ, (∀ id, 64 ≤ id → φ0 id = none) → At w0 φ0 n l s a w φ → ∃ φ', At w0 φ0 n l' s' a w φ'
noncomputable def LoopW (body : Tmps → St → KC → Prop) (l : Tmps) (s : St) (K : KC) : Prop :=
  ∀ R : KT, (∀ l s, body l s (stepW R K) → R l s) → (∀ l s l' s', Weaker l s l' s' → R l' s' → R l s) → R l s
noncomputable def codeW (cw : Cw) : Code → Tmps → St → KC → Prop
  | .skip, l, s, K => K .normal l s
  | .region _ ops draw, l, s, K => (match draw with
    | true => drawW P cw ops.toList ops.toList [] l s (K .normal)
    | false => opsW P cw ops.toList ops.toList l s (K .normal))
  | .seq a b, l, s, K => codeW cw a l s fun e l s => match e with | .normal => codeW cw b l s K | .exit i => K (.exit i) l s | .ret => K .ret l s
  | .cond c a b, l, s, K => (match evalO l c with
    | .bool t => bifW t (codeW cw a (lknow l c true) s K) (codeW cw b (lknow l c false) s K)
    | _ => False)
  | .block id a, l, s, K => codeW cw a l s fun e l s => match e with
    | .exit i => (match Nat.beq i id with | true => K .normal l s | false => K (.exit i) l s)
    | .normal => K .normal l s
    | .ret => K .ret l s
  | .loop a, l, s, K => LoopW (fun l s K => codeW cw a l s K) l s K
  | .exit i, l, s, K => K (.exit i) l s
  | .ret, l, s, K => K .ret l s
  | _, _, _, _ => False
noncomputable def resW (l : Tmps) (s : St) : List ResultVar → (List Value → St → Prop) → Prop
  | [], K => K [] s
  | .tmp t :: rest, K => resW l s rest fun vs s => K (lget l t :: vs) s
  | .cell a t :: rest, K => loadW P s t (lget l a) fun v s => resW l s rest fun vs s => K (v :: vs) s
noncomputable def retW (fn : Func) (Q : KV) : KC := fun e l s => match e with
  | .exit _ => False
  | .normal => resW P l s fn.results.toList fun vs s => Q (valOf vs) s
  | .ret => resW P l s fn.results.toList fun vs s => Q (valOf vs) s
end Go.Det
end

section
/- A part of an evaluator of closed runs and of its soundness. -/
namespace Go.Det
variable {P : Program}
def LE (l l' : Tmps) : Prop := ∀ t, lget l t = lget l' t
theorem LE.refl (l : Tmps) : LE l l := fun _ => rfl
theorem LE.evalO {l l' : Tmps} (h : LE l l') (x : Operand) : evalO l x = evalO l' x := by cases x <;> first | rfl | exact h _
theorem LE.set {l l' : Tmps} (h : LE l l') (d : Nat) (v : Value) : LE (lset l d v) (lset l' d v) := fun t => by rw [lget_set, lget_set]; split; rfl; exact h t
theorem LE.put {l l' : Tmps} (h : LE l l') (d : Option Tmp) (v : Value) : LE (putD l d v) (putD l' d v) := by
  cases d with
  | none => exact h
  | some d => exact h.set d v
theorem LE.know {l l' : Tmps} (h : LE l l') {d : Nat} {v : Value} (e : lget l' d = v) : LE l (lset l' d v) := fun t => by
  rw [lget_set]
  split
  · rename_i q; subst q; rw [h, e]
  · exact h t
theorem LE.op {call : Call} {o : Oper} {l l' : Tmps} (h : LE l l') : opD P call o l = opD P call o l' := by
  exact opD_congr fun x _ => LE.evalO h x
structure CwOk (call : Call) (cw : Cw) : Prop where
  some_ : ∀ g args s K, cw g args s K → ∃ v s', call g args s = some (v, s') ∧ K v s' ∧ ∀ K' : KV, K' v s' → cw g args s K'
  mono : ∀ g args s (K K' : KV), (∀ v s, K v s → K' v s) → cw g args s K → cw g args s K'
def CwMono (cw : Cw) : Prop := ∀ g args s (K K' : KV), (∀ v s, K v s → K' v s) → cw g args s K → cw g args s K'
theorem opCall_call0 {call : Call} {c : Go.Call} {t : TypeId} {l : Tmps} {s : St} {r : Value × St} (h : opCall P call0 c t l s = some r) : opCall P call c t l s = some r := by
  unfold opCall at h ⊢
  cases hc : c.callee with
  | builtin b => rw [hc] at h; exact h
  | invoke a b => rw [hc] at h; exact h
  | value f =>
    rw [hc] at h
    simp only [opCallV] at h
    split at h
    · split at h
      · cases h
      · cases h
    · cases h
theorem opD_call0 {call : Call} {o : Oper} {l : Tmps} {s : St} {r : Value × St} (h : opD P call0 o l s = some r) : opD P call o l s = some r := by
  unfold opD at h ⊢
  cases hop : o.op <;> rw [hop] at h <;> first
    | exact h
    | exact opCall_call0 h
theorem optW_some {r : Option (Value × St)} {K : KV} (h : optW r K) : ∃ v s', r = some (v, s') ∧ K v s' := by
  cases r with
  | none => exact h.elim
  | some x => exact ⟨x.1, x.2, rfl, h⟩
theorem optW_mono {r : Option (Value × St)} {K K' : KV} (k : ∀ v s, K v s → K' v s) (h : optW r K) : optW r K' := by
  cases r with
  | none => exact h
  | some x => exact k _ _ h
theorem aggEqW_eq {t : TypeId} {a b : List Value} : aggEq P t a b = aggEqW P t a b := by
  unfold aggEq aggEqW
  simp only [eqCellsW_eq]
  try rfl
theorem binW_some {op : BinOp} {t : TypeId} {x y : Operand} {a b : Value} {s : St} {K : KV} (h : binW P op t x y a b s K) : ∃ v s', ofV (binD P op t x y a b) s = some (v, s') ∧ K v s' := by
  unfold binW at h
  split at h
  · rename_i k m k' n
    split at h
    · refine ⟨_, _, ?_, h.2⟩
      have : decide (n < 0) = false := decide_eq_false (by omega)
      simp only [binD, shiftBin, this, ofV]
    · refine ⟨_, _, ?_, h.2⟩
      have : decide (n < 0) = false := decide_eq_false (by omega)
      simp only [binD, shiftBin, this, ofV]
    · rename_i hs1 hs2
      split at h
      · exact h.elim
      rename_i hk
      have hsh : shiftBin op k m n = none := by
        cases op <;> first | rfl | exact (hs1 rfl).elim | exact (hs2 rfl).elim
      have e : binD P op t x y (.int k m) (.int k' n) = intBin op k m n := by simp only [binD, hsh, hk]
      rw [e]
      split at h
      · refine ⟨_, _, ?_, h.2⟩
        have : decide (n = 0) = false := decide_eq_false h.1
        simp only [intBin, this, ofV]
      · refine ⟨_, _, ?_, h.2⟩
        have : decide (n = 0) = false := decide_eq_false h.1
        simp only [intBin, this, ofV]
      · exact ⟨_, _, by simp only [intBin, cdec_beq, ofV], h⟩
      · exact ⟨_, _, by simp only [intBin, cdec_bne, ofV], h⟩
      · exact ⟨_, _, by simp only [intBin, cdec_eq, ofV], h⟩
      · exact ⟨_, _, by simp only [intBin, cdec_eq, ofV], h⟩
      · exact ⟨_, _, by simp only [intBin, cdec_eq, ofV], h⟩
      · exact ⟨_, _, by simp only [intBin, cdec_eq, ofV], h⟩
      · exact optW_some h
  · rename_i p q
    split at h
    · refine ⟨_, _, ?_, h.2⟩
      have : Nat.ble (p.size + q.size) 9223372036854775807 = true := Nat.ble_eq_true_of_le h.1
      simp only [binD, strBin, this, ofV]
    · exact ⟨_, _, by simp only [binD, strBin, cdec_str, ofV], h⟩
    · exact ⟨_, _, by simp only [binD, strBin, cdec_str, ofV], h⟩
    · exact optW_some h
  · rename_i p q
    split at h
    · split at h
      · rename_i r hr
        exact ⟨_, _, by simp only [binD, aggBin, aggEqW_eq, hr, ofV], h⟩
      · exact h.elim
    · split at h
      · rename_i r hr
        exact ⟨_, _, by simp only [binD, aggBin, aggEqW_eq, hr, ofV], h⟩
      · exact h.elim
    · exact h.elim
  · exact optW_some h
theorem binW_mono {op : BinOp} {t : TypeId} {x y : Operand} {a b : Value} {s : St} {K K' : KV} (k : ∀ v s, K v s → K' v s) (h : binW P op t x y a b s K) : binW P op t x y a b s K' := by
  unfold binW at h ⊢
  split at h
  · split at h
    · exact ⟨h.1, k _ _ h.2⟩
    · exact ⟨h.1, k _ _ h.2⟩
    · split at h
      · exact h.elim
      · split at h <;> first
          | exact ⟨h.1, k _ _ h.2⟩
          | exact k _ _ h
          | exact optW_mono k h
  · split at h
    · exact ⟨h.1, k _ _ h.2⟩
    · exact k _ _ h
    · exact k _ _ h
    · exact optW_mono k h
  · split at h
    · split at h
      · exact k _ _ h
      · exact h.elim
    · split at h
      · exact k _ _ h
      · exact h.elim
    · exact h.elim
  · exact optW_mono k h
theorem natOf_int {k : IntKind} {i : Int} (h : 0 ≤ i) : natOf (.int k i) = some i.toNat := by simp only [natOf, if_pos h]
theorem ble_lt {n : Nat} {i : Int} (h0 : 0 ≤ i) (h : i < (n : Int)) : Nat.ble n i.toNat = false := by
  cases hb : Nat.ble n i.toNat with
  | false => rfl
  | true => have := Nat.le_of_ble_eq_true hb; omega
theorem indexAddrW_some {t : TypeId} {x ix : Value} {s : St} {K : KV} (h : indexAddrW P t x ix s K) : ∃ v s', ofV (indexAddrD P t x ix) s = some (v, s') ∧ K v s' := by
  unfold indexAddrW at h
  split at h
  · rename_i elem id off n c k i ht
    split at h
    case h_2 => exact h.elim
    rename_i size hs
    obtain ⟨⟨h0, h1⟩, h⟩ := h
    refine ⟨_, _, ?_, h⟩
    simp only [indexAddrD, ht, natOf_int h0, hs, ble_lt h0 h1]
    rfl
  · rename_i n elem id off k i ht
    split at h
    case h_2 => exact h.elim
    rename_i size hs
    obtain ⟨⟨h0, h1⟩, h⟩ := h
    refine ⟨_, _, ?_, h⟩
    simp only [indexAddrD, ht, natOf_int h0, hs, ble_lt h0 h1]
    rfl
  · exact h.elim
theorem indexAddrW_mono {t : TypeId} {x ix : Value} {s : St} {K K' : KV} (k : ∀ v s, K v s → K' v s) (h : indexAddrW P t x ix s K) : indexAddrW P t x ix s K' := by
  unfold indexAddrW at h ⊢
  split at h
  · split at h
    · exact ⟨h.1, k _ _ h.2⟩
    · exact h.elim
  · split at h
    · exact ⟨h.1, k _ _ h.2⟩
    · exact h.elim
  · exact h.elim
theorem indexW_some {t : TypeId} {x ix : Value} {s : St} {K : KV} (h : indexW P t x ix s K) : ∃ v s', ofV (indexD P t x ix) s = some (v, s') ∧ K v s' := by
  unfold indexW at h
  split at h
  · rename_i b k i ht
    obtain ⟨⟨h0, h1⟩, h⟩ := h
    refine ⟨_, _, ?_, h⟩
    have hlt : i.toNat < (b.data.toList.map fun x => Value.int .u8 x.toNat).length := by rw [List.length_map]; omega
    have hlt2 : i.toNat < b.data.toList.length := by omega
    simp only [indexD, ht, natOf_int h0, ldrop_eq]
    rw [List.drop_eq_getElem_cons hlt, List.getElem_map, List.getD_eq_getElem?_getD, List.getElem?_eq_getElem hlt2]
    rfl
  · exact optW_some h
theorem indexW_mono {t : TypeId} {x ix : Value} {s : St} {K K' : KV} (k : ∀ v s, K v s → K' v s) (h : indexW P t x ix s K) : indexW P t x ix s K' := by
  unfold indexW at h ⊢
  split at h
  · exact ⟨h.1, k _ _ h.2⟩
  · exact optW_mono k h
theorem opW_some {call : Call} {cw : Cw} (ho : CwOk call cw) {o : Oper} {l : Tmps} {s : St} {K : KV} (h : opW P cw o l s K) : ∃ v s', opD P call o l s = some (v, s') ∧ K v s' := by
  unfold opW at h
  split at h
  · rename_i op t x y yt hop
    unfold opD; rw [hop]
    exact binW_some h
  · rename_i t a hop
    unfold opD; rw [hop]
    exact loadW_some h
  · rename_i t a x hop
    unfold opD; rw [hop]
    obtain ⟨s', e, k⟩ := storeW_some h
    exact ⟨und, s', by simp only [opStore, e], k⟩
  · rename_i c a b hop
    unfold opD; rw [hop]
    split at h
    · rename_i t ht
      cases t with
      | true => exact ⟨_, _, by simp only [opPick, ht], h⟩
      | false => exact ⟨_, _, by simp only [opPick, ht], h⟩
    · exact h.elim
  · rename_i t x i hop
    unfold opD; rw [hop]
    exact indexAddrW_some h
  · rename_i t x i hop
    unfold opD; rw [hop]
    exact indexW_some h
  · rename_i c hop
    unfold opD; rw [hop]
    unfold opCall
    simp only
    split at h
    · rename_i f hc
      simp only [hc, opCallV]
      split at h
      · rename_i g first cap hv
        obtain ⟨v, s', e, k, _⟩ := ho.some_ _ _ _ _ h
        exact ⟨v, s', by simp only [hv]; exact e, k⟩
      · exact h.elim
    · rename_i b hc
      simp only [hc, opBuiltin]
      exact optW_some h
    · exact h.elim
  · obtain ⟨v, s', e, k⟩ := optW_some h
    exact ⟨v, s', opD_call0 e, k⟩
theorem opW_mono {cw : Cw} (hm : CwMono cw) {o : Oper} {l : Tmps} {s : St} {K K' : KV} (k : ∀ v s, K v s → K' v s) (h : opW P cw o l s K) : opW P cw o l s K' := by
  unfold opW at h ⊢
  split at h
  · exact binW_mono k h
  · exact loadW_mono k h
  · exact storeW_mono (fun s => k _ s) h
  · split at h
    · exact bifW_mono (k _ _) (k _ _) h
    · exact h.elim
  · exact indexAddrW_mono k h
  · exact indexW_mono k h
  · split at h
    · split at h
      · exact hm _ _ _ _ _ k h
      · exact h.elim
    · exact optW_mono k h
    · exact h.elim
  · exact optW_mono k h
theorem wantW_some {all : List Oper} {l : Tmps} {o : Oper} {yes no : Tmps → Prop} (h : wantW all l o yes no) : ∃ l', LE l l' ∧ ((wantedD all l o = some true ∧ yes l') ∨ (wantedD all l o = some false ∧ no l')) := by
  unfold wantW at h
  unfold wantedD
  split at h
  · rename_i hg; exact ⟨l, LE.refl l, .inl ⟨by simp only [hg], h⟩⟩
  · rename_i g hg
    split at h
    case h_2 => exact h.elim
    rename_i q hq
    split at h
    case h_2 => exact h.elim
    rename_i d hd
    simp only [hg, hq, hd]
    split at h
    · rename_i b hb
      cases b with
      | true =>
        refine ⟨_, (LE.refl l).know hb, ?_⟩
        cases h2 : g.2 with
        | true => left; simp only [hb]; exact ⟨rfl, by simpa only [bifW, h2] using h⟩
        | false => right; simp only [hb]; exact ⟨rfl, by simpa only [bifW, h2] using h⟩
      | false =>
        refine ⟨_, (LE.refl l).know hb, ?_⟩
        cases h2 : g.2 with
        | true => right; simp only [hb]; exact ⟨rfl, by simpa only [bifW, h2] using h⟩
        | false => left; simp only [hb]; exact ⟨rfl, by simpa only [bifW, h2] using h⟩
    · exact h.elim
    · rename_i h1 h2
      refine ⟨l, LE.refl l, .inr ⟨?_, h⟩⟩
      split
      · rename_i b hb; exact absurd hb (h1 b)
      · rename_i vs hv; exact absurd hv (h2 vs)
      · rfl
theorem wantW_mono {all : List Oper} {l : Tmps} {o : Oper} {yes no yes' no' : Tmps → Prop} (k1 : ∀ l, yes l → yes' l) (k2 : ∀ l, no l → no' l) (h : wantW all l o yes no) : wantW all l o yes' no' := by
  unfold wantW at h ⊢
  split at h
  · exact k1 _ h
  · rename_i g hg
    split at h
    case h_2 => exact h.elim
    split at h
    case h_2 => exact h.elim
    split at h
    · cases h2 : g.2 with
      | true => simp only [h2] at h ⊢; exact bifW_mono (k1 _) (k2 _) h
      | false => simp only [h2] at h ⊢; exact bifW_mono (k2 _) (k1 _) h
    · exact h.elim
    · exact k2 _ h
theorem wantedD_congr {all : List Oper} {l l' : Tmps} {o : Oper} (h : LE l l') : wantedD all l o = wantedD all l' o := by
  unfold wantedD
  cases o.guard with
  | none => rfl
  | some g =>
    simp only
    cases nth all g.1 with
    | none => rfl
    | some q =>
      simp only
      cases q.dst with
      | none => rfl
      | some d => simp only [h d]
theorem LE.trans {a b c : Tmps} (h : LE a b) (k : LE b c) : LE a c := fun t => (h t).trans (k t)
theorem opsW_some {call : Call} {cw : Cw} (ho : CwOk call cw) {all : List Oper} : ∀ {ops : List Oper} {l : Tmps} {s : St} {K : KT}, opsW P cw all ops l s K → ∀ l0, LE l0 l → ∃ l1 s1 l', opsD P call all ops l0 s = some (l1, s1) ∧ LE l1 l' ∧ K l' s1
  | [], l, s, K, h, l0, hl => ⟨l0, s, l, rfl, hl, h⟩
  | o :: rest, l, s, K, h, l0, hl => by
    rw [opsD_cons]
    unfold opsStep
    rw [hl.op (P := P)]
    simp only [wantedD_congr hl]
    obtain ⟨l1, h1, ⟨hw, h⟩ | ⟨hw, h⟩⟩ := wantW_some h
    · simp only [hw]
      obtain ⟨v, s1, e, k⟩ := opW_some ho h
      rw [← h1.op (P := P)] at e
      obtain ⟨l2, s2, l3, e2, q1, q2⟩ := opsW_some ho k (putD l0 o.dst v) ((hl.trans h1).put _ _)
      exact ⟨l2, s2, l3, by simp only [e, nextOp]; exact e2, q1, q2⟩
    · simp only [hw]
      obtain ⟨l2, s2, l3, e2, q1, q2⟩ := opsW_some ho h (putD l0 o.dst skp) ((hl.trans h1).put _ _)
      exact ⟨l2, s2, l3, e2, q1, q2⟩
theorem opsW_mono {cw : Cw} (hm : CwMono cw) {all : List Oper} : ∀ {ops : List Oper} {l : Tmps} {s : St} {K K' : KT}, (∀ l s, K l s → K' l s) → opsW P cw all ops l s K → opsW P cw all ops l s K'
  | [], _, _, _, _, k, h => k _ _ h
  | _ :: _, _, _, _, _, k, h => wantW_mono (fun _ h => opW_mono hm (fun _ _ h => opsW_mono hm k h) h) (fun _ h => opsW_mono hm k h) h
theorem drawW_some {call : Call} {cw : Cw} (ho : CwOk call cw) {all : List Oper} : ∀ {ops : List Oper} {done : List Foot} {l : Tmps} {s : St} {K : KT}, drawW P cw all ops done l s K → ∀ l0, LE l0 l → ∀ sl, ∃ l1 s1 l', drawD P call all ops done sl l0 s = some (l1, s1) ∧ LE l1 l' ∧ K l' s1
  | [], done, l, s, K, h, l0, hl, sl => ⟨l0, s, l, rfl, hl, h⟩
  | o :: rest, done, l, s, K, h, l0, hl, sl => by
    rw [drawD_cons]
    unfold drawW at h
    split at h
    case h_2 => exact h.elim
    rename_i he
    rw [he]
    simp only
    unfold wantRun
    rw [hl.op (P := P)]
    simp only [wantedD_congr hl]
    obtain ⟨l1, h1, ⟨hw, h⟩ | ⟨hw, h⟩⟩ := wantW_some h
    · simp only [hw]
      obtain ⟨v, x, e, k⟩ := opW_some ho h
      rw [← h1.op (P := P)] at e
      split at k
      case h_2 => exact k.elim
      rename_i ha
      obtain ⟨l2, s2, l3, e2, q1, q2⟩ := drawW_some ho k (putD l0 o.dst v) ((hl.trans h1).put _ _) (sl ++ [softOf all o l0 v])
      refine ⟨l2, s2, l3, ?_, q1, q2⟩
      rw [e]
      unfold drawStep drawGo
      simp only
      unfold footOf at ha e2
      rw [softGo_apart ha]
      exact e2
    · simp only [hw]
      split at h
      case h_2 => exact h.elim
      rename_i ha
      obtain ⟨l2, s2, l3, e2, q1, q2⟩ := drawW_some ho h (putD l0 o.dst skp) ((hl.trans h1).put _ _) (sl ++ [softOf all o l0 skp])
      refine ⟨l2, s2, l3, ?_, q1, q2⟩
      unfold drawStep drawGo
      simp only
      unfold footOf at ha e2
      simp only [solo] at e2 ⊢
      rw [softGo_apart ha]
      exact e2
theorem drawW_mono {cw : Cw} (hm : CwMono cw) {all : List Oper} : ∀ {ops : List Oper} {done : List Foot} {l : Tmps} {s : St} {K K' : KT}, (∀ l s, K l s → K' l s) → drawW P cw all ops done l s K → drawW P cw all ops done l s K'
  | [], _, _, _, _, _, k, h => k _ _ h
  | o :: rest, done, l, s, K, K', k, h => by
    unfold drawW at h ⊢
    split at h
    case h_2 => exact h.elim
    refine wantW_mono (fun l h => opW_mono hm (fun v x h => ?_) h) (fun l h => ?_) h
    · split at h
      · exact drawW_mono hm k h
      · exact h.elim
    · split at h
      · exact drawW_mono hm k h
      · exact h.elim
theorem stepW_mono {R R' : KT} {K K' : KC} (h : ∀ l s, R l s → R' l s) (k : ∀ e l s, K e l s → K' e l s) (e : Ex) (l : Tmps) (s : St) (q : stepW R K e l s) : stepW R' K' e l s := by
  cases e with
  | normal => exact h _ _ q
  | exit i => exact k _ _ _ q
  | ret => exact k _ _ _ q
theorem codeW_mono {cw : Cw} (hm : CwMono cw) : ∀ (c : Code) {l : Tmps} {s : St} {K K' : KC}, (∀ e l s, K e l s → K' e l s) → codeW P cw c l s K → codeW P cw c l s K'
  | .skip, _, _, _, _, k, h => k _ _ _ h
  | .region _ ops draw, _, _, _, _, k, h => by
    cases draw with
    | true => exact drawW_mono hm (k .normal) h
    | false => exact opsW_mono hm (k .normal) h
  | .seq a b, _, _, _, _, k, h => codeW_mono hm a (fun e l s h => by
      cases e with
      | normal => exact codeW_mono hm b k h
      | exit i => exact k _ _ _ h
      | ret => exact k _ _ _ h) h
  | .cond c a b, l, s, K, K', k, h => by
    unfold codeW at h ⊢
    split at h
    · exact bifW_mono (codeW_mono hm a k) (codeW_mono hm b k) h
    · exact h.elim
  | .block id a, _, _, _, _, k, h => codeW_mono hm a (fun e l s h => by
      cases e with
      | normal => exact k _ _ _ h
      | exit i =>
        simp only at h ⊢
        split at h
        · exact k _ _ _ h
        · exact k _ _ _ h
      | ret => exact k _ _ _ h) h
  | .loop a, l, s, K, K', k, h => by
    intro R h1 h2
    exact h R (fun l s q => h1 l s (codeW_mono hm a (stepW_mono (fun _ _ h => h) k) q)) h2
  | .exit i, _, _, _, _, k, h => k _ _ _ h
  | .ret, _, _, _, _, k, h => k _ _ _ h
  | .rangeFunc .., _, _, _, _, _, h => h.elim
  | .scope .., _, _, _, _, _, h => h.elim
  | .label .., _, _, _, _, _, h => h.elim
  | .goto .., _, _, _, _, _, h => h.elim
  | .refuse .., _, _, _, _, _, h => h.elim
end Go.Det
end

section
/- A part of an evaluator of closed runs and of its soundness. -/
namespace Go.Det
variable {P : Program}
theorem resW_some {l : Tmps} : ∀ {rs : List ResultVar} {s : St} {K : List Value → St → Prop}, resW P l s rs K → ∃ vs s', resD P l s rs = some (vs, s') ∧ K vs s'
  | [], s, K, h => ⟨[], s, rfl, h⟩
  | .tmp t :: rest, s, K, h => by
    obtain ⟨vs, s', e, k⟩ := resW_some (rs := rest) h
    exact ⟨lget l t :: vs, s', by rw [resD_tmp, e], k⟩
  | .cell a t :: rest, s, K, h => by
    obtain ⟨v, s1, e1, h⟩ := loadW_some h
    obtain ⟨vs, s', e, k⟩ := resW_some (rs := rest) h
    exact ⟨v :: vs, s', by rw [resD_cell, e1]; simp only [e], k⟩
theorem Fr.le {n : Nat} {φ : Ren} {l l' : Tmps} {a : Act} (h : Fr n φ l a) (k : LE l l') : Fr n φ l' a := ⟨h.size, fun t => by rw [← k t]; exact h.tmp t, h.defers⟩
section
variable {w0 : World} {φ0 : Ren} {n G : Nat} {call : Call} {cw : Cw}
theorem At.le' {l l' : Tmps} {s : St} {a : Act} {w : World} {φ : Ren} (h : At w0 φ0 n l s a w φ) (k : LE l l') : At w0 φ0 n l' s a w φ := ⟨h.hr, h.le, h.fr.le k, h.fresh, h.none_, h.hi⟩
theorem At.next {l l1 : Tmps} {s s1 : St} {a a1 : Act} {w w1 : World} {φ φ1 : Ren} (h : At w0 φ0 n l s a w φ) (g : G1 s s1) (e : Ext φ φ1 s.next s1.next) (H : HR φ1 s1.h w0 w1) (F : Fr n φ1 l1 a1) :
    At w0 φ0 n l1 s1 a1 w1 φ1 := by
  refine ⟨H, h.le.trans e.le, F, fun id q => ?_, fun id q => ?_, g.inv h.hi⟩
  · cases hφ : φ1 id with
    | none => rfl
    | some y =>
      rcases e.new id (by rw [hφ]; simp) with r | r
      · exact absurd (h.fresh id (Nat.le_trans g.next q)) r
      · omega
  · cases hh : s1.h.get id with
    | none => rfl
    | some y =>
      rcases g.dom id (by rw [hh]; simp) with r | r
      · exact absurd (h.none_ id (Nat.le_trans g.next q)) r
      · omega
def PostW (w0 : World) (φ0 : Ren) (n : Nat) (K : KC) (e : Exit) (a : Act) (w : World) : Prop := ∃ ex l s φ, e = Ex.out ex ∧ K ex l s ∧ At w0 φ0 n l s a w φ
theorem region_soundW (ho : CwOk call cw) (hcall : CallOk P w0 G call) (hT : ∀ f args, Tr (call f args)) (hm : P.follows .mixedOrders = true) (hG : Glob G φ0) {id : Nat} {ops : Array Oper} {draw : Bool}
    (hok : okCode n G (.region id ops draw) = true) {l : Tmps} {s : St} {K : KC} {a : Act} {w : World} {φ : Ren} (h : codeW P cw (.region id ops draw) l s K) (A : At w0 φ0 n l s a w φ) :
    (Code.region id ops draw).wp P (PostW w0 φ0 n K) a w := by
  have hs := code_sound (P := P) (w0 := w0) hcall hT hm 0 (.region id ops draw) hok
  have key : ∃ l1 s1 l', codeD P call 0 (.region id ops draw) l s = some (.normal, l1, s1) ∧ LE l1 l' ∧ K .normal l' s1 ∧ G1 s s1 := by
    cases draw with
    | true =>
      obtain ⟨l1, s1, l', e, q1, q2⟩ := drawW_some (P := P) ho (K := K .normal) h l (LE.refl l) []
      refine ⟨l1, s1, l', ?_, q1, q2, (drawD_tr (P := P) hT _ _ _ _ _ _ _ _ e).1⟩
      show ofTS (drawD P call ops.toList ops.toList [] [] l s) = _
      rw [e]; rfl
    | false =>
      obtain ⟨l1, s1, l', e, q1, q2⟩ := opsW_some (P := P) ho (K := K .normal) h l (LE.refl l)
      refine ⟨l1, s1, l', ?_, q1, q2, (opsD_tr (P := P) hT _ _ _ _ _ _ e).1⟩
      show ofTS (opsD P call ops.toList ops.toList l s) = _
      rw [e]; rfl
  obtain ⟨l1, s1, l', e, q1, q2, g⟩ := key
  refine hs l s _ l1 s1 φ a w e ⟨A.hr, hG.mono A.le, A.fr, fun id p _ => A.fresh id p, ⟨A.hi, fun id p _ => A.none_ id p⟩⟩ _ fun φ' a' w' po => ?_
  obtain ⟨e1, H1, F1⟩ := po
  exact ⟨.normal, l', s1, φ', rfl, q2, (A.next g e1 H1 F1).le' q1⟩
theorem lknow_le {l : Tmps} {c : Operand} {b : Bool} (h : evalO l c = .bool b) : LE l (lknow l c b) := by
  cases c with
  | tmp t => exact (LE.refl l).know h
  | _ => exact LE.refl l
theorem codeW_sound (ho : CwOk call cw) (hcall : CallOk P w0 G call) (hT : ∀ f args, Tr (call f args)) (hm : P.follows .mixedOrders = true) (hG : Glob G φ0) (h64 : ∀ id, 64 ≤ id → φ0 id = none) (c : Code) (hok : okCode n G c = true) :
    ∀ (l : Tmps) (s : St) (K : KC) (a : Act) (w : World) (φ : Ren), codeW P cw c l s K → At w0 φ0 n l s a w φ → c.wp P (PostW w0 φ0 n K) a w := by
  induction c with
  | skip => exact fun l s K a w φ h A => wp_skip ⟨.normal, l, s, φ, rfl, h, A⟩
  | region id ops draw => exact fun l s K a w φ h A => region_soundW ho hcall hT hm hG hok h A
  | seq a b ha hb =>
    intro l s K ac w φ h A
    simp only [okCode, Bool.and_eq_true] at hok
    refine wp_seq (wp_mono (ha hok.1 l s _ ac w φ h A) ?_)
    rintro e a1 w1 ⟨ex, l1, s1, φ1, rfl, k, A1⟩
    cases ex with
    | normal => exact hb hok.2 l1 s1 K a1 w1 φ1 k A1
    | exit i => exact ⟨.exit i, l1, s1, φ1, rfl, k, A1⟩
    | ret => exact ⟨.ret, l1, s1, φ1, rfl, k, A1⟩
  | cond c a b ha hb =>
    intro l s K ac w φ h A
    simp only [okCode, Bool.and_eq_true] at hok
    have hv := evalO_ok (hG.mono A.le) A.fr hok.1
    unfold codeW at h
    split at h
    case h_2 => exact h.elim
    rename_i t ht
    rw [ht] at hv
    refine wp_cond (t := t) (bool_inv hv) ?_
    cases t with
    | true => exact ha hok.2.1 _ s K ac w φ h (A.le' (lknow_le ht))
    | false => exact hb hok.2.2 _ s K ac w φ h (A.le' (lknow_le ht))
  | block id c ih =>
    intro l s K ac w φ h A
    refine wp_block (wp_mono (ih hok l s _ ac w φ h A) ?_)
    rintro e a1 w1 ⟨ex, l1, s1, φ1, rfl, k, A1⟩
    cases ex with
    | normal => exact ⟨.normal, l1, s1, φ1, rfl, k, A1⟩
    | ret => exact ⟨.ret, l1, s1, φ1, rfl, k, A1⟩
    | exit i =>
      show (if i = id then PostW w0 φ0 n K .normal a1 w1 else PostW w0 φ0 n K (.exit i) a1 w1)
      simp only at k
      cases hb : Nat.beq i id with
      | true =>
        rw [hb] at k
        rw [if_pos (Nat.eq_of_beq_eq_true hb)]
        exact ⟨.normal, l1, s1, φ1, rfl, k, A1⟩
      | false =>
        rw [hb] at k
        rw [if_neg (Nat.ne_of_beq_eq_false hb)]
        exact ⟨.exit i, l1, s1, φ1, rfl, k, A1⟩
  | loop c ih =>
    intro l s K ac w φ h A
    have key : ∀ a w φ, At w0 φ0 n l s a w φ → ∀ (b : Frame) (t : List Item) (cs : List Frame), ∃ e a' w', PostW w0 φ0 n K e a' w' ∧ Arrives P (lone (b.at a (.code c :: .inLoop c :: t)) cs w) b t cs e a' w' := by
      refine h (fun l s => ∀ a w φ, At w0 φ0 n l s a w φ → ∀ (b : Frame) (t : List Item) (cs : List Frame), ∃ e a' w', PostW w0 φ0 n K e a' w' ∧ Arrives P (lone (b.at a (.code c :: .inLoop c :: t)) cs w) b t cs e a' w') ?_ ?_
      · intro l s hb a w φ A b t cs
        obtain ⟨e, a1, w1, ⟨ex, l1, s1, φ1, rfl, k, A1⟩, harr⟩ := ih hok l s _ a w φ hb A b (.inLoop c :: t) cs
        cases ex with
        | normal =>
          obtain ⟨e2, a2, w2, hq2, harr2⟩ := k a1 w1 φ1 A1 b t cs
          exact ⟨e2, a2, w2, hq2, .of_steps (Steps.trans harr (.one step_inLoop)) harr2⟩
        | exit i => exact ⟨_, a1, w1, ⟨.exit i, l1, s1, φ1, rfl, k, A1⟩, .pass (x := .inLoop c) rfl (fun _ _ => .inl (by simp [Ex.out])) harr⟩
        | ret => exact ⟨_, a1, w1, ⟨.ret, l1, s1, φ1, rfl, k, A1⟩, .pass (x := .inLoop c) rfl (fun _ _ => .inl (by simp [Ex.out])) harr⟩
      · intro l s l' s' hw hr a w φ A
        obtain ⟨φ', A'⟩ := hw w0 φ0 n a w φ h64 A
        exact hr a w φ' A'
    intro b t cs
    obtain ⟨e, a', w', hq, harr⟩ := key ac w φ A b t cs
    exact ⟨e, a', w', hq, .of_steps (.one step_loop) harr⟩
  | exit id => exact fun l s K a w φ h A => wp_exit ⟨.exit id, l, s, φ, rfl, h, A⟩
  | ret => exact fun l s K a w φ h A => wp_ret ⟨.ret, l, s, φ, rfl, h, A⟩
  | _ => intro l s K a w φ h; exact h.elim
theorem fnW_calls (ho : CwOk call cw) (hcall : CallOk P w0 G call) (hT : ∀ f args, Tr (call f args)) (hm : P.follows .mixedOrders = true) (hG : Glob G φ0) (h64 : ∀ id, 64 ≤ id → φ0 id = none)
    {f : FuncId} {fn : Func} {c : Code} (hf : P.funcs[f]? = some fn) (hb : fn.body = some c) (hok : okFunc G fn = true)
    {args args' : List Value} {s : St} {w : World} {Q : KV} (hle : Nat.ble args.length fn.ntmps = true)
    (H : HR φ0 s.h w0 w) (hA : VRL φ0 args args') (hfr : ∀ id, s.next ≤ id → φ0 id = none) (hno : ∀ id, s.next ≤ id → s.h.get id = none) (hhi : s.next ≤ s.hi)
    (h : codeW P cw c (inTab args 8) s (retW P fn Q)) :
    Calls P f ⟨args'⟩ w fun e w' => ∃ v v' s' φ', e = .returned v' ∧ Q v s' ∧ VR φ' v v' ∧ HR φ' s'.h w0 w' ∧ Le φ0 φ' ∧ (∀ id, s'.next ≤ id → φ' id = none) := by
  refine calls_of_wp hf hb ?_
  unfold okFunc at hok
  rw [hb] at hok
  simp only [Bool.and_eq_true] at hok
  have A : At w0 φ0 fn.ntmps (inTab args 8) s { tmps := (⟨args'⟩ : Array Value) ++ Array.replicate (fn.ntmps - (⟨args'⟩ : Array Value).size) undef, defers := [] } w φ0 :=
    ⟨H, Le.refl _, enter_frame hA (Nat.le_of_ble_eq_true hle), hfr, hno, hhi⟩
  refine wp_mono (codeW_sound ho hcall hT hm hG h64 c hok.1 _ _ _ _ _ _ h A) ?_
  rintro e a1 w1 ⟨ex, l1, s1, φ1, rfl, k, A1⟩
  have hend : resW P l1 s1 fn.results.toList (fun vs s => Q (valOf vs) s) → a1.defers = [] ∧ ∃ v2, (results fn a1.tmps).run P w1 = .ok v2 w1 ∧ ∃ v v' s' φ', Ending.returned v2 = .returned v' ∧ Q v s' ∧ VR φ' v v' ∧ HR φ' s'.h w0 w1 ∧ Le φ0 φ' ∧ (∀ id, s'.next ≤ id → φ' id = none) := by
    intro k
    obtain ⟨vs, s2, e2, q⟩ := resW_some k
    obtain ⟨vs', r1, r3, r4, r5⟩ := resD_ok fn.results.toList e2 A1.hr A1.fr.tmp
    exact ⟨A1.fr.defers, valOf vs', results_run r1, valOf vs, valOf vs', s2, φ1, rfl, q, valOf_ok r3, by rw [r4]; exact A1.hr, A1.le, fun id p => A1.fresh id (by rw [← r5]; exact p)⟩
  cases ex with
  | normal => exact hend k
  | ret => exact hend k
  | exit i => exact k.elim
end
structure Later (W w : World) : Prop where
  size : W.heap.size ≤ w.heap.size
  old : ∀ b, b < W.heap.size → w.heap[b]? = W.heap[b]?
theorem Later.refl (W : World) : Later W W := ⟨Nat.le_refl _, fun _ _ => rfl⟩
theorem Later.trans {A B C : World} (h : Later A B) (k : Later B C) : Later A C := ⟨Nat.le_trans h.size k.size, fun b q => (k.old b (Nat.lt_of_lt_of_le q h.size)).trans (h.old b q)⟩
theorem HR.later {φ : Ren} {h : Heap} {W w : World} (H : HR φ h W w) : Later W w := ⟨H.size, H.old⟩
def OwnAll (P : Program) (W : World) (G : Nat) (f : FuncId) (g : Own) : Prop := OwnTr g ∧ ∀ w, Later W w → OwnOk P w G f g
noncomputable def ownCall (l : List (Nat × Own)) : Call := fun f args s => match extL l f with | some g => g args s | none => none
def OwnsAll (P : Program) (W : World) (G : Nat) (l : List (Nat × Own)) : Prop := ∀ x ∈ l, OwnAll P W G x.1 x.2
theorem ownsAll_nil (W : World) (G : Nat) : OwnsAll P W G [] := fun _ h => by cases h
theorem OwnsAll.cons {W : World} {G : Nat} {l : List (Nat × Own)} {f : Nat} {g : Own} (h : OwnAll P W G f g) (k : OwnsAll P W G l) : OwnsAll P W G ((f, g) :: l) := by
  intro x hx
  rcases List.mem_cons.1 hx with rfl | hx
  · exact h
  · exact k x hx
theorem ownCall_tr {W : World} {G : Nat} {l : List (Nat × Own)} (h : OwnsAll P W G l) (f : FuncId) (args : List Value) : Tr (ownCall l f args) := by
  unfold ownCall
  cases he : extL l f with
  | none => exact none_tr fun _ => rfl
  | some g => exact (h _ (extL_mem he)).1 args
theorem ownCall_ok {W w : World} {G : Nat} {l : List (Nat × Own)} (h : OwnsAll P W G l) (k : Later W w) : CallOk P w G (ownCall l) := by
  intro f args s v s' e
  unfold ownCall at e
  split at e
  · rename_i g he
    exact (h _ (extL_mem he)).2 w k args s v s' e
  · cases e
theorem own_flat {cw : Cw} {W : World} {G : Nat} {l : List (Nat × Own)} {h : Heap} {f : FuncId} {fn : Func} {c : Code} {F : List Value → Option Value} (L : Laying G W h) (hGW : G ≤ W.heap.size) (hG64 : G ≤ 64)
    (hm : P.follows .mixedOrders = true) (hl : OwnsAll P W G l) (ho : CwOk (ownCall l) cw) (hf : P.funcs[f]? = some fn) (hb : fn.body = some c) (hok : okFunc G fn = true)
    (hF : ∀ args v, F args = some v → flat2L args = true ∧ flat v = true ∧ Nat.ble args.length fn.ntmps = true ∧ codeW P cw c (inTab args 8) (birth h 64) (retW P fn fun v' _ => v' = v)) : OwnAll P W G f (pureD F) := by
  refine ⟨pureD_tr F, fun W1 k1 args s v s' e φ w args' H _ hA _ _ => ?_⟩
  unfold pureD at e
  split at e
  case h_2 => cases e
  rename_i r hr
  cases e
  obtain ⟨h1, h2, h3, h4⟩ := hF args v hr
  have hn : (fn.name == "runtime.NumGoroutine") = false := by
    unfold okFunc at hok
    rw [hb] at hok
    simp only [Bool.and_eq_true, Bool.not_eq_true'] at hok
    exact hok.2
  rw [flat2L_inv h1 hA, callFunc_run hf hb hn]
  have kw : Later W w := k1.trans H.later
  have Lw := L.move kw.size kw.old hGW
  refine (fnW_calls (P := P) (w0 := w) (φ0 := glob G w) (G := G) ho (ownCall_ok hl kw) (ownCall_tr hl) hm (glob_glob G w) (fun id q => glob_top G w hG64 id q) hf hb hok h3 Lw.hr (flat2L_self h1 _) (fun id q => glob_top G w hG64 id q) (fun id q => Lw.top id (Nat.le_trans hG64 q)) (Nat.le_refl 64) h4).mono ?_
  rintro e W' ⟨v1, v', s1, φ', rfl, rfl, hv, H', _, _⟩
  exact ⟨v', φ, rfl, Ext.refl _ _ _, flat_any h2 hv, H.keep H'.kept H'.tape⟩
end Go.Det
end

section
/- A part of an evaluator of closed runs and of its soundness. -/
namespace Go.Det
variable {P : Program}
theorem loopW_unroll {cw : Cw} (hm : CwMono cw) {a : Code} {l : Tmps} {s : St} {K : KC} (h : codeW P cw a l s (stepW (fun l s => codeW P cw (.loop a) l s K) K)) : codeW P cw (.loop a) l s K := by
  intro R h1 h2
  exact h1 l s (codeW_mono hm a (stepW_mono (fun l s q => q R h1 h2) fun _ _ _ q => q) h)
end Go.Det
end

section
/- Contracts of functions: what they answer by themselves, and the same as a law. -/
namespace Go.Det
variable {P : Program}
structure Con where
  own : Own
  w : List Value → St → KV → Prop
  ok : ∀ args s (K : KV), w args s K → ∃ v s', own args s = some (v, s') ∧ K v s' ∧ ∀ K' : KV, K' v s' → w args s K'
  mono : ∀ args s (K K' : KV), (∀ v s, K v s → K' v s) → w args s K → w args s K'
noncomputable def cwC : List (Nat × Con) → Cw
  | [] => fun _ _ _ _ => False
  | x :: t => fun g args s K => match Nat.beq x.1 g with | true => x.2.w args s K | false => cwC t g args s K
noncomputable def extC : List (Nat × Con) → List (Nat × Own)
  | [] => []
  | x :: t => (x.1, x.2.own) :: extC t
theorem cwC_mono : ∀ l, CwMono (cwC l)
  | [] => fun _ _ _ _ _ _ h => h
  | x :: t => fun g args s K K' k h => by
    unfold cwC at h ⊢
    split at h
    · exact x.2.mono args s K K' k h
    · exact cwC_mono t g args s K K' k h
theorem cwC_ok (l : List (Nat × Con)) : CwOk (ownCall (extC l)) (cwC l) := by
  refine ⟨?_, cwC_mono l⟩
  induction l with
  | nil => exact fun _ _ _ _ h => h.elim
  | cons x t ih =>
    intro g args s K h
    unfold cwC at h ⊢
    unfold ownCall extC extL
    split at h
    · rename_i hb
      simp only [hb]
      exact x.2.ok args s K h
    · rename_i hb
      simp only [hb]
      exact ih g args s K h
noncomputable def Con.flat {α : Type} (dec : List Value → Option α) (dom : α → Bool) (res : α → Value) : Con where
  own := pureD fun args => match dec args with
    | some a => (match dom a with | true => some (res a) | false => none)
    | none => none
  w := fun args s K => match dec args with
    | some a => dom a = true ∧ K (res a) s
    | none => False
  ok := by
    intro args s K h
    unfold pureD
    split at h
    · rename_i a ha
      exact ⟨res a, s, by simp only [ha, h.1], h.2, fun K' k => ⟨h.1, k⟩⟩
    · exact h.elim
  mono := by
    intro args s K K' k h
    split at h
    · exact ⟨h.1, k _ _ h.2⟩
    · exact h.elim
theorem con_flat {W : World} {G : Nat} {l : List (Nat × Con)} {h : Heap} {f : FuncId} {fn : Func} {c : Code} {α : Type} {dec : List Value → Option α} {dom : α → Bool} {res : α → Value} (enc : α → List Value)
    (L : Laying G W h) (hGW : G ≤ W.heap.size) (hG64 : G ≤ 64)
    (hm : P.follows .mixedOrders = true) (hl : OwnsAll P W G (extC l)) (hf : P.funcs[f]? = some fn) (hb : fn.body = some c) (hok : okFunc G fn = true)
    (hdec : ∀ args a, dec args = some a → args = enc a) (hflat : ∀ a, flat2L (enc a) = true ∧ flat (res a) = true ∧ Nat.ble (enc a).length fn.ntmps = true)
    (hF : ∀ a, dom a = true → codeW P (cwC l) c (inTab (enc a) 8) (birth h 64) (retW P fn fun v' _ => v' = res a)) : OwnAll P W G f (Con.flat dec dom res).own := by
  refine own_flat L hGW hG64 hm hl (cwC_ok l) hf hb hok fun args v hv => ?_
  split at hv
  case h_2 => cases hv
  rename_i a ha
  split at hv
  case h_2 => cases hv
  rename_i hd
  cases hv
  obtain rfl := hdec _ _ ha
  exact ⟨(hflat a).1, (hflat a).2.1, (hflat a).2.2, hF a hd⟩
theorem OwnsAll.con {W : World} {G : Nat} {l : List (Nat × Con)} {f : Nat} {c : Con} (h : OwnAll P W G f c.own) (k : OwnsAll P W G (extC l)) : OwnsAll P W G (extC ((f, c) :: l)) := OwnsAll.cons h k
noncomputable def decQQ : List Value → Option (Int × Int × Int × Int)
  | [.agg ⟨[.int .u64 a, .int .u64 b]⟩, .agg ⟨[.int .u64 c, .int .u64 d]⟩] => some (a, b, c, d)
  | _ => none
noncomputable def encQQ (x : Int × Int × Int × Int) : List Value := [.agg ⟨[.int .u64 x.1, .int .u64 x.2.1]⟩, .agg ⟨[.int .u64 x.2.2.1, .int .u64 x.2.2.2]⟩]
noncomputable def encQ (x : Int × Int) : List Value := [.agg ⟨[.int .u64 x.1, .int .u64 x.2]⟩]
noncomputable def decI : List Value → Option Int
  | [.int .i64 a] => some a
  | _ => none
noncomputable def encI (x : Int) : List Value := [.int .i64 x]
end Go.Det
end

section
/- Contracts of functions that are told as plain functions with or without an answer: a call is met by the answer that there is. -/
namespace Go.Det
variable {P : Program}
noncomputable def Con.opt {α β : Type} (dec : List Value → Option α) (f : α → Option β) (enc : β → Value) : Con where
  own := pureD fun args => match dec args with
    | some a => (match f a with | some b => some (enc b) | none => none)
    | none => none
  w := fun args s K => match dec args with
    | some a => ∃ x, f a = some x ∧ K (enc x) s
    | none => False
  ok := by
    intro args s K h
    unfold pureD
    split at h
    · rename_i a ha
      obtain ⟨x, hx, hk⟩ := h
      exact ⟨enc x, s, by simp only [ha, hx], hk, fun K' k => ⟨x, hx, k⟩⟩
    · exact h.elim
  mono := by
    intro args s K K' k h
    split at h
    · obtain ⟨x, hx, hk⟩ := h
      exact ⟨x, hx, k _ _ hk⟩
    · exact h.elim
theorem opt_own {α β : Type} {dec : List Value → Option α} {f : α → Option β} {enc : β → Value} {args : List Value} {a : α} {b : β} (h1 : dec args = some a) (h2 : f a = some b) (s : St) : (Con.opt dec f enc).own args s = some (enc b, s) := by
  simp only [Con.opt, pureD, h1, h2]
theorem con_opt {W : World} {G : Nat} {l : List (Nat × Con)} {h : Heap} {f : FuncId} {fn : Func} {c : Code} {α β : Type} {dec : List Value → Option α} {F : α → Option β} {encR : β → Value} (enc : α → List Value)
    (L : Laying G W h) (hGW : G ≤ W.heap.size) (hG64 : G ≤ 64)
    (hm : P.follows .mixedOrders = true) (hl : OwnsAll P W G (extC l)) (hf : P.funcs[f]? = some fn) (hb : fn.body = some c) (hok : okFunc G fn = true)
    (hdec : ∀ args a, dec args = some a → args = enc a) (hflat : ∀ a, flat2L (enc a) = true ∧ Nat.ble (enc a).length fn.ntmps = true) (hres : ∀ b, flat (encR b) = true)
    (hF : ∀ a b, F a = some b → codeW P (cwC l) c (inTab (enc a) 8) (birth h 64) (retW P fn fun v' _ => v' = encR b)) : OwnAll P W G f (Con.opt dec F encR).own := by
  refine own_flat L hGW hG64 hm hl (cwC_ok l) hf hb hok fun args v hv => ?_
  split at hv
  case h_2 => cases hv
  rename_i a ha
  split at hv
  case h_2 => cases hv
  rename_i b hd
  cases hv
  obtain rfl := hdec _ _ ha
  exact ⟨(hflat a).1, hres b, (hflat a).2, hF a b hd⟩
end Go.Det
end

section
/- What the laws of this seat share: the listed tables, and a start that has them. -/
namespace Go.Proofs.YtfnacgojmdbjmaaDoor
open Go.ChangeShapes Go.WideShapes Go.ChangeAt Go.RowKit Go.Det
set_option maxRecDepth 100000
theorem dt_own : ownKnob Tryd.prog.godebug = none := by kernel_rfl
theorem dt_mixed : Tryd.prog.follows .mixedOrders = true := by kernel_rfl
def db64 : List Int := [0, 1, 56, 2, 57, 49, 28, 3, 61, 58, 42, 50, 38, 29, 17, 4, 62, 47, 59, 36, 45, 43, 51, 22, 53, 39, 33, 30, 24, 18, 12, 5, 63, 55, 48, 27, 60, 41, 37, 16, 46, 35, 44, 21, 52, 32, 23, 11, 54, 26, 40, 15, 34, 20, 31, 10, 25, 14, 19, 9, 13, 8, 7, 6]
theorem db64_flat : flatL (db64.map (Value.int .u8)) = true := by kernel_rfl
theorem g_db64 : Tryd.prog.globalNamed "math/bits.deBruijn64tab" = some 0 := by kernel_rfl
theorem t_db64 : (Tryd.prog.globals[0]?).map (·.type) = some 97 := by kernel_rfl
theorem u_db64 : Tryd.prog.underlying 97 = some (.array 64 5) := by kernel_rfl
theorem u_u8 : Tryd.prog.underlying 5 = some (.int .u8) := by kernel_rfl
theorem c_u8 : Tryd.prog.cellsOf 5 = 1 := by kernel_rfl
theorem c_db64 : Tryd.prog.cellsOf 97 = 64 := by kernel_rfl
end Go.Proofs.YtfnacgojmdbjmaaDoor
end

section
/- A part of an evaluator of closed runs and of its soundness. -/
namespace Go.Det
variable {P : Program}
noncomputable def idxB (c : Nat) : Nat → List UInt8 → Option Nat
  | _, [] => none
  | i, x :: t => match Nat.beq x.toNat c with | true => some i | false => idxB c (i + 1) t
noncomputable def cntB (c : Nat) : Nat → List UInt8 → Nat
  | n, [] => n
  | n, x :: t => match Nat.beq x.toNat c with | true => cntB c (n + 1) t | false => cntB c n t
noncomputable def preB : List UInt8 → List UInt8 → Bool
  | [], _ => true
  | _ :: _, [] => false
  | a :: s, b :: t => match Nat.beq a.toNat b.toNat with | true => preB s t | false => false
noncomputable def idxS (p : List UInt8) : Nat → List UInt8 → Option Nat
  | i, [] => match p with | [] => some i | _ :: _ => none
  | i, x :: t => match preB p (x :: t) with | true => some i | false => idxS p (i + 1) t
noncomputable def ofIdx : Option Nat → Value
  | some i => .int .i64 (i : Nat)
  | none => .int .i64 (-1)
theorem beq_u8 (x c : UInt8) : Nat.beq x.toNat c.toNat = (x == c) := by
  cases h : (x == c) with
  | true => have := eq_of_beq h; subst this; exact Nat.beq_refl _
  | false =>
    cases hb : Nat.beq x.toNat c.toNat with
    | false => rfl
    | true => have := UInt8.toNat_inj.1 (Nat.eq_of_beq_eq_true hb); subst this; simp at h
theorem idxB_eq (c : UInt8) : ∀ (i : Nat) (l : List UInt8), ofIdx (idxB c.toNat i l) = .int .i64 (if Lib.indexByte l c == -1 then -1 else Lib.indexByte l c + i)
  | i, [] => rfl
  | i, x :: t => by
    rw [idxB, beq_u8]
    unfold Lib.indexByte
    cases h : (x == c) with
    | true => simp [ofIdx]
    | false =>
      rw [idxB_eq c (i + 1) t]
      have := Lib.indexByte_ge t c
      by_cases e : Lib.indexByte t c = -1
      · simp [e]
      · have h1 : (Lib.indexByte t c == -1) = false := by simpa using e
        have h2 : ¬ (Lib.indexByte t c + 1 = -1) := by omega
        simp [h1, h2]
        omega
theorem cntB_eq (c : UInt8) : ∀ (n : Nat) (l : List UInt8), cntB c.toNat n l = n + l.count c
  | n, [] => by simp [cntB]
  | n, x :: t => by
    rw [cntB, beq_u8, List.count_cons]
    cases h : (x == c) with
    | true => simp only [cntB_eq c (n + 1) t]; simp; omega
    | false => simp only [cntB_eq c n t]; simp
theorem preB_eq : ∀ (p l : List UInt8), preB p l = p.isPrefixOf l
  | [], l => by simp [preB]
  | a :: s, [] => by simp [preB]
  | a :: s, b :: t => by
    rw [preB, beq_u8, List.isPrefixOf, preB_eq s t]
    cases (a == b) <;> rfl
theorem idxS_eq (p : List UInt8) : ∀ (i : Nat) (l : List UInt8), ofIdx (idxS p i l) = .int .i64 (if Lib.index l p == -1 then -1 else Lib.index l p + i)
  | i, [] => by
    cases p with
    | nil => simp [idxS, Lib.index, ofIdx]
    | cons a s => simp [idxS, Lib.index, ofIdx]
  | i, x :: t => by
    rw [idxS, preB_eq]
    unfold Lib.index
    cases h : p.isPrefixOf (x :: t) with
    | true => simp [ofIdx]
    | false =>
      rw [idxS_eq p (i + 1) t]
      have := Lib.index_ge t p
      by_cases e : Lib.index t p = -1
      · simp [e]
      · have h1 : (Lib.index t p == -1) = false := by simpa using e
        have h2 : ¬ (Lib.index t p + 1 = -1) := by omega
        simp [h1, h2]
        omega
noncomputable def indexByteH : List Value → Option Value
  | [.string b, .int .u8 c] => some (ofIdx (idxB (c.toNat % 256) 0 b.data.toList))
  | _ => none
noncomputable def countByteH : List Value → Option Value
  | [.string b, .int .u8 c] => some (.int .i64 (cntB (c.toNat % 256) 0 b.data.toList : Nat))
  | _ => none
noncomputable def indexH : List Value → Option Value
  | [.string b, .string c] => match Nat.ble (b.size + 1) 4294967281 with | true => some (ofIdx (idxS c.data.toList 0 b.data.toList)) | false => none
  | _ => none
theorem ofIdx_flat (r : Option Nat) : flat (ofIdx r) = true := by cases r <;> rfl
theorem toUInt8_mod (n : Nat) : n.toUInt8.toNat = n % 256 := by simp
theorem indexByte_ok {w0 : World} {G : Nat} {f : FuncId} (he : Entry P f Extern.BytealgIndexByte.indexByte) : OwnOk P w0 G f (pureD indexByteH) := by
  refine pureD_ok fun args v h => ?_
  unfold indexByteH at h
  split at h
  case h_2 => cases h
  rename_i b c
  cases h
  refine ⟨rfl, ofIdx_flat _, fun w => ?_⟩
  rw [he]
  have key := Lib.run_indexByteString (P := P) b c w
  have e := idxB_eq c.toNat.toUInt8 0 b.data.toList
  rw [toUInt8_mod] at e
  have e2 : (if Lib.indexByte b.data.toList c.toNat.toUInt8 == -1 then -1 else Lib.indexByte b.data.toList c.toNat.toUInt8 + ((0 : Nat) : Int)) = Lib.indexByte b.data.toList c.toNat.toUInt8 := by
    split
    · rename_i q; exact (eq_of_beq q).symm
    · simp
  rw [e2] at e
  rw [e]
  exact congrArg (fun r : Result Value => Result.andThen r fun v w' => Result.ok (Next.value v) w') key
theorem countByte_ok {w0 : World} {G : Nat} {f : FuncId} (he : Entry P f Extern.BytealgCount.count) : OwnOk P w0 G f (pureD countByteH) := by
  refine pureD_ok fun args v h => ?_
  unfold countByteH at h
  split at h
  case h_2 => cases h
  rename_i b c
  cases h
  refine ⟨rfl, rfl, fun w => ?_⟩
  rw [he]
  have key := Lib.run_countString (P := P) b c w
  have e := cntB_eq c.toNat.toUInt8 0 b.data.toList
  rw [toUInt8_mod, Nat.zero_add] at e
  rw [e]
  exact congrArg (fun r : Result Value => Result.andThen r fun v w' => Result.ok (Next.value v) w') key
theorem index_ok {w0 : World} {G : Nat} {f : FuncId} (he : ∀ (args : Array Value) (w : World), (callFunc f args).run P w = .ok (.enter f args) w) {g : Nat} (hold : g < w0.heap.size)
    (hc : ∀ (s sub : ByteArray) (w : World), w.heap[g]? = w0.heap[g]? → s.size < 4294967281 →
      Calls P f #[.string s, .string sub] w fun e w' => e = .returned (.int .i64 (Lib.index s.data.toList sub.data.toList)) ∧ w' = w) : OwnOk P w0 G f (pureD indexH) := by
  intro args s v s' e φ w args' H _ hA _ _
  unfold pureD indexH at e
  split at e
  case h_2 => cases e
  rename_i r hr
  cases e
  split at hr
  case h_2 => cases hr
  rename_i b c
  split at hr
  case h_2 => cases hr
  rename_i hs
  have hs := Nat.le_of_ble_eq_true hs
  cases hr
  have ha : flat2L [Value.string b, Value.string c] = true := rfl
  rw [flat2L_inv ha hA, he]
  refine (hc b c w (H.old g hold) hs).mono ?_
  rintro e w' ⟨rfl, rfl⟩
  have e := idxS_eq c.data.toList 0 b.data.toList
  have e2 : (if Lib.index b.data.toList c.data.toList == -1 then -1 else Lib.index b.data.toList c.data.toList + ((0 : Nat) : Int)) = Lib.index b.data.toList c.data.toList := by
    split
    · rename_i q; exact (eq_of_beq q).symm
    · simp
  rw [e2] at e
  exact ⟨_, φ, rfl, Ext.refl _ _ _, by rw [e]; exact .int _ _, H⟩
noncomputable def sameD : Own := fun args s => match args with | [x] => some (x, s) | _ => none
theorem sameD_tr : OwnTr sameD := fun args => by
  match args with
  | [] => exact none_tr fun _ => rfl
  | [x] => exact pure_tr (some x) fun _ => rfl
  | _ :: _ :: _ => exact none_tr fun _ => rfl
theorem same_ok {w0 : World} {G : Nat} {f : FuncId} (he : Entry P f Extern.AbiNoEscape.same) : OwnOk P w0 G f sameD := by
  intro args s v s' e φ w args' H _ hA _ _
  unfold sameD at e
  split at e
  case h_2 => cases e
  cases e
  obtain ⟨v', t', rfl, hv, ht⟩ := hA.head
  rw [ht.of_nil, he]
  exact ⟨φ, Ext.refl _ _ _, hv, H⟩
noncomputable def rawD (elem : TypeId) : Own := fun args s => match args with
  | [.int .i64 n] => match decide (0 ≤ n) && Nat.ble n.toNat 1048576 with
    | true => some (.slice (some ⟨s.next, 0, none⟩) n.toNat (capU + 1), s.new (.cells (repeatL [und] n.toNat) (2 * elem) false))
    | false => none
  | _ => none
theorem repeatU_length (n : Nat) : (repeatL [und] n).length = n := by
  induction n with
  | zero => rfl
  | succ n ih => rw [repeatL, List.length_append, ih]; simp; omega
theorem repeatL_get (n i : Nat) : (repeatL [und] n).getD i und = und := by
  induction n generalizing i with
  | zero => rfl
  | succ n ih =>
    cases i with
    | zero => rfl
    | succ i => exact ih i
theorem rawD_tr (elem : TypeId) : OwnTr (rawD elem) := fun args => by
  refine new_tr (match args with
    | [.int .i64 n] => match decide (0 ≤ n) && Nat.ble n.toNat 1048576 with
      | true => some (Blk.cells (repeatL [und] n.toNat) (2 * elem) false, fun k => Value.slice (some ⟨k, 0, none⟩) n.toNat (capU + 1))
      | false => none
    | _ => none) fun s => ?_
  unfold rawD
  split
  · split <;> rfl
  · rfl
theorem raw_ok {w0 : World} {G : Nat} {f : FuncId} {ps : Array TypeId} {t elem : TypeId} (he : Entry P f (Extern.BytealgMakeNoZero.makeNoZero ps #[t])) (hu : P.underlying t = some (.slice elem)) : OwnOk P w0 G f (rawD elem) := by
  intro args s v s' e φ w args' H _ hA hf hF
  unfold rawD at e
  split at e
  case h_2 => cases e
  rename_i n
  split at e
  case h_2 => cases e
  rename_i hc
  cases e
  rw [Bool.and_eq_true] at hc
  have h0 := of_decide_eq_true hc.1
  have h1 := Nat.le_of_ble_eq_true hc.2
  have ha : flat2L [Value.int .i64 n] = true := rfl
  rw [flat2L_inv ha hA, he]
  obtain ⟨m, rfl⟩ := Int.eq_ofNat_of_zero_le h0
  obtain ⟨cs, hrun, hcs, _⟩ := Lib.run_makeNoZero w ps t elem hu m (Nat.le_trans (show m ≤ 1048576 from h1) (by decide))
  have hrun2 : ((Extern.BytealgMakeNoZero.makeNoZero ps #[t] ⟨[.int .i64 m]⟩).run P w) = _ := hrun
  rw [hrun2]
  have hnew : φ s.next = none := hf s.next (Nat.le_refl _) (by show s.next < Nat.max s.hi (s.next + 1); exact Nat.lt_of_lt_of_le (Nat.lt_succ_self _) (Nat.le_max_right _ _))
  refine ⟨upd φ s.next (w.heap.size, 0, cs.size), Ext.upd hnew _, ?_, ?_⟩
  · exact VR.sliceU (φ := upd φ s.next (w.heap.size, 0, cs.size)) s.next 0 w.heap.size 0 cs.size m cs.size 1 (upd_same _ _ _) (by decide) (by omega) hcs
  · refine H.adopt (w' := w.drew.drew.alloc (.cells cs elem)) hnew rfl rfl rfl (by show w.heap.size ≤ (w.heap.push _).size; rw [Array.size_push]; omega) (fun j hj hj2 => ?_) H.size (fz := (0, 0)) (c := cs) ?_ (fun _ => rfl) ?_ rfl ?_ (fun i hi => ?_) (fun _ o _ => by simp) (fun O q => by rw [Array.getElem?_eq_none (Nat.le_refl _)] at q; cases q)
    · show (w.heap.push _)[j]? = w.heap[j]?
      rw [Array.getElem?_push, if_neg (by omega)]
    · show (w.heap.push _)[w.heap.size]? = _
      rw [Array.getElem?_push, if_pos rfl, half0]
    · intro j cj ej rj bj sj zj g a
      have := H.dom _ _ _ _ a
      omega
    · rw [repeatU_length]; show 0 + m ≤ cs.size; omega
    · rw [repeatL_get]; exact .any _
end Go.Det
end

section
/-
  DERIVED: THE SHELF's CONTRACTS AT THIS DUMP, IN PLAIN WORDS (tools/lay-plain.mjs out of 'TrydShelf.lean', which tools/lay-shelf.mjs wrote): THE SAME DECLARATIONS UNDER THE SAME NAMES: 'import', 'namespace', 'open', 'def', 'theorem' AND NOTHING ELSE: no command of the shelf's: FOR A HAND-IN. Each laying: the table of numbers ('.._ren') and one theorem, a field a fact of the dump's own or the kernel's comparison; each contract: ONE APPLICATION.
-/
namespace Go.Proofs
open Go.Shelf
def Tryd.lays219_ren : Go.Shelf.Ren := ⟨fun | 219 => 82 | 217 => 88 | 225 => 89 | 224 => 90 | 267 => 91 | 266 => 101 | 314 => 102 | n => n, fun | 9 => 9 | 3 => 3 | 4 => 4 | 5 => 5 | 46 => 89 | 146 => 126 | 51 => 125 | n => n, fun | 1 => 1 | n => n⟩
theorem Tryd.lays219 : Go.Proofs.Lays.n219 Tryd.prog Tryd.lays219_ren := {
  mixed := by kernel_rfl
  f217 := Tryd.func88.trans (congrArg some (by kernel_rfl))
  f219 := Tryd.func82.trans (congrArg some (by kernel_rfl))
  f224 := Tryd.func90.trans (congrArg some (by kernel_rfl))
  f225 := Tryd.func89.trans (congrArg some (by kernel_rfl))
  f266 := Tryd.func101.trans (congrArg some (by kernel_rfl))
  f267 := Tryd.func91.trans (congrArg some (by kernel_rfl))
  f314 := Tryd.func102.trans (congrArg some (by kernel_rfl))
  t3 := Tryd.underlying3
  a3 := Tryd.isAgg3
  z3 := Tryd.sizeOf3
  v3 := Tryd.zeroValue3
  t4 := Tryd.underlying4
  a4 := Tryd.isAgg4
  z4 := Tryd.sizeOf4
  v4 := Tryd.zeroValue4
  t5 := Tryd.underlying5
  a5 := Tryd.isAgg5
  z5 := Tryd.sizeOf5
  v5 := Tryd.zeroValue5
  t9 := Tryd.underlying9
  a9 := Tryd.isAgg9
  z9 := Tryd.sizeOf9
  v9 := Tryd.zeroValue9
  t46 := Tryd.underlying89
  a46 := Tryd.isAgg89
  z46 := Tryd.sizeOf89
  v46 := Tryd.zeroValue89
  t51 := Tryd.underlying125
  a51 := Tryd.isAgg125
  z51 := Tryd.sizeOf125
  v51 := Tryd.zeroValue125
  t146 := Tryd.underlying126
  a146 := Tryd.isAgg126
  z146 := Tryd.sizeOf126
  v146 := Tryd.zeroValue126
  g1 := by kernel_rfl }
open Go.RowKit Go.Lib in
theorem Tryd.stringslite_Index (s sub : ByteArray) (m : Int) (w : World) (hs : s.size < 4294967281) (hm : w.cell? ⟨1, 0, none⟩ = some (.int .i64 m)) :
    Calls Tryd.prog 82 #[.string s, .string sub] w fun e w' => e = .returned (.int .i64 (Lib.index s.data.toList sub.data.toList)) ∧ w' = w := Any.stringslite_Index Tryd.lays219 s sub m w hs hm
def Tryd.laysM219_ren : Go.Shelf.Ren := ⟨fun | 219 => 82 | 217 => 88 | 225 => 89 | 224 => 90 | 267 => 91 | 266 => 101 | 314 => 102 | n => n, fun | 9 => 9 | 3 => 3 | 4 => 4 | 5 => 5 | 46 => 89 | 146 => 126 | 51 => 125 | n => n, fun | 1 => 1 | n => n⟩
theorem Tryd.laysM219 : Go.Proofs.LaysM.n219 Tryd.prog Tryd.laysM219_ren := {
  mixed := by kernel_rfl
  f217 := Tryd.func88.trans (congrArg some (by kernel_rfl))
  f219 := Tryd.func82.trans (congrArg some (by kernel_rfl))
  f224 := Tryd.func90.trans (congrArg some (by kernel_rfl))
  f225 := Tryd.func89.trans (congrArg some (by kernel_rfl))
  f266 := Tryd.func101.trans (congrArg some (by kernel_rfl))
  f267 := Tryd.func91.trans (congrArg some (by kernel_rfl))
  f314 := Tryd.func102.trans (congrArg some (by kernel_rfl))
  t3 := Tryd.underlying3
  a3 := Tryd.isAgg3
  z3 := Tryd.sizeOf3
  v3 := Tryd.zeroValue3
  t4 := Tryd.underlying4
  a4 := Tryd.isAgg4
  z4 := Tryd.sizeOf4
  v4 := Tryd.zeroValue4
  t5 := Tryd.underlying5
  a5 := Tryd.isAgg5
  z5 := Tryd.sizeOf5
  v5 := Tryd.zeroValue5
  t9 := Tryd.underlying9
  a9 := Tryd.isAgg9
  z9 := Tryd.sizeOf9
  v9 := Tryd.zeroValue9
  t46 := Tryd.underlying89
  a46 := Tryd.isAgg89
  z46 := Tryd.sizeOf89
  v46 := Tryd.zeroValue89
  t51 := Tryd.underlying125
  a51 := Tryd.isAgg125
  z51 := Tryd.sizeOf125
  v51 := Tryd.zeroValue125
  t146 := Tryd.underlying126
  a146 := Tryd.isAgg126
  z146 := Tryd.sizeOf126
  v146 := Tryd.zeroValue126
  g1 := by kernel_rfl
  i3 := by kernel_rfl
  i4 := by kernel_rfl
  i5 := by kernel_rfl
  i9 := by kernel_rfl
  i46 := by kernel_rfl
  i51 := by kernel_rfl
  i146 := by kernel_rfl
  m1 := by kernel_rfl
  s1_3 := fun w h => Go.Proofs.cell_of_shapedOpen_int (zero := #[.int .i64 0]) (t := 3) h (of_decide_eq_true (by kernel_rfl)) (by kernel_rfl) rfl (by kernel_rfl) (by kernel_rfl) Tryd.underlying3 }
end Go.Proofs
end

section
/- What the laws of addresses share: the listed tables, the library's entries, the closed run of their waking. -/
namespace Go.Proofs.YtfnacgojmdbjmaaDoor
open Go.ChangeShapes Go.WideShapes Go.ChangeAt Go.RowKit Go.Det
set_option maxRecDepth 100000
def p10 : List Int := [1, 10, 100, 1000, 10000, 100000, 1000000, 10000000, 100000000, 1000000000, 10000000000, 100000000000, 1000000000000, 10000000000000, 100000000000000, 1000000000000000, 10000000000000000, 100000000000000000, 1000000000000000000, 10000000000000000000]
def db32 : List Int := [0, 1, 28, 2, 29, 14, 24, 3, 30, 22, 20, 15, 25, 17, 4, 8, 31, 27, 13, 23, 21, 19, 16, 7, 26, 12, 18, 6, 11, 5, 10, 9]
theorem p10_flat : flatL (p10.map (Value.int .u64)) = true := by kernel_rfl
theorem db32_flat : flatL (db32.map (Value.int .u8)) = true := by kernel_rfl
theorem g_p10 : Tryd.prog.globalNamed "internal/strconv.uint64pow10" = some 2 := by kernel_rfl
theorem g_db32 : Tryd.prog.globalNamed "math/bits.deBruijn32tab" = some 5 := by kernel_rfl
theorem t_p10 : (Tryd.prog.globals[2]?).map (·.type) = some 132 := by kernel_rfl
theorem t_db32 : (Tryd.prog.globals[5]?).map (·.type) = some 140 := by kernel_rfl
theorem u_p10 : Tryd.prog.underlying 132 = some (.array 20 27) := by kernel_rfl
theorem u_db32 : Tryd.prog.underlying 140 = some (.array 32 5) := by kernel_rfl
theorem u_u64 : Tryd.prog.underlying 27 = some (.int .u64) := by kernel_rfl
theorem c_u64 : Tryd.prog.cellsOf 27 = 1 := by kernel_rfl
theorem c_p10 : Tryd.prog.cellsOf 132 = 20 := by kernel_rfl
theorem c_db32 : Tryd.prog.cellsOf 140 = 32 := by kernel_rfl
abbrev laidA : List (String × DataW Unit) := [("math/bits.deBruijn32tab", Rows.laid_math_bits_deBruijn32tab), ("math/bits.deBruijn64tab", Rows.laid_math_bits_deBruijn64tab), ("internal/strconv.uint64pow10", Rows.laid_internal_strconv_uint64pow10), ("unicode/utf8.acceptRanges", Rows.laid_unicode_utf8_acceptRanges), ("unicode/utf8.first", Rows.laid_unicode_utf8_first)]
noncomputable def heapA (t0 t2 t5 : TypeId) : Heap := Heap.set (Heap.set (Heap.set [] 5 (.cells (db32.map (Value.int .u8)) (2 * t5) true)) 0 (.cells (db64.map (Value.int .u8)) (2 * t0) true)) 2 (.cells (p10.map (Value.int .u64)) (2 * t2) true)
theorem laidA_at {W : World} (h : laidMetH Tryd.prog laidA W) : ∃ t0 t2 t5, Laying 6 W (heapA t0 t2 t5) ∧ 6 ≤ W.heap.size := by
  rw [MakeChecks.laidMetH_plain _ _ _ (by kernel_rfl)] at h
  obtain ⟨ps, ⟨g5, y5, cs5, fuel5, p5, q5, hg5, ht5, hv5, hd5, ⟨g0, y0, cs0, fuel0, p0, q0, hg0, ht0, hv0, hd0, ⟨g2, y2, cs2, fuel2, p2, q2, hg2, ht2, hv2, hd2, _, _⟩, _⟩, _⟩, _, _⟩ := h
  obtain rfl := Option.some.inj (g_db32.symm.trans hg5)
  obtain rfl := Option.some.inj (t_db32.symm.trans ht5)
  obtain rfl := Option.some.inj (g_db64.symm.trans hg0)
  obtain rfl := Option.some.inj (t_db64.symm.trans ht0)
  obtain rfl := Option.some.inj (g_p10.symm.trans hg2)
  obtain rfl := Option.some.inj (t_p10.symm.trans ht2)
  obtain ⟨t5, fz5, hb5⟩ := block_of_var g_db32 hv5
  obtain ⟨t0, fz0, hb0⟩ := block_of_var g_db64 hv0
  obtain ⟨t2, fz2, hb2⟩ := block_of_var g_p10 hv2
  have hs : 6 ≤ W.heap.size := block_lt hb5
  have L5 := (Laying.empty (G := 6) hs).lay (by decide) hb5 (ints_of_trod u_db32 u_u8 c_u8 c_db32 hd5) db32_flat
  have L0 := L5.lay (by decide) hb0 (ints_of_trod u_db64 u_u8 c_u8 c_db64 hd0) db64_flat
  have L2 := L0.lay (by decide) hb2 (ints_of_trod u_p10 u_u64 c_u64 c_p10 hd2) p10_flat
  exact ⟨t0, t2, t5, L2, hs⟩
theorem door_metA (os : Os) (args : Array Value) : laidMetH Tryd.prog laidA ((World.laidAll Tryd.prog os laidA).forCall (fun _ _ => 0) ⟨#[], args, []⟩).memory := by
  rw [MakeChecks.laidMetH_plain _ _ _ (by kernel_rfl)]
  exact laidMet_laidAll _ (by kernel_rfl) (by kernel_rfl)
theorem ea48 : Entry Tryd.prog 48 add64Entry := Entry.mk (fn := Tryd.f48) Tryd.func48 (by kernel_rfl) (by kernel_rfl) (by kernel_rfl) (by kernel_rfl)
theorem ea49 : Entry Tryd.prog 49 sub64Entry := Entry.mk (fn := Tryd.f49) Tryd.func49 (by kernel_rfl) (by kernel_rfl) (by kernel_rfl) (by kernel_rfl)
theorem e99 : Entry Tryd.prog 99 Extern.AbiNoEscape.same := Entry.mk (fn := Tryd.f99) Tryd.func99 (by kernel_rfl) (by kernel_rfl) (by kernel_rfl) (by kernel_rfl)
theorem e101 : Entry Tryd.prog 101 Extern.BytealgIndexByte.indexByte := Entry.mk (fn := Tryd.f101) Tryd.func101 (by kernel_rfl) (by kernel_rfl) (by kernel_rfl) (by kernel_rfl)
theorem e105 : Entry Tryd.prog 105 Extern.BytealgCount.count := Entry.mk (fn := Tryd.f105) Tryd.func105 (by kernel_rfl) (by kernel_rfl) (by kernel_rfl) (by kernel_rfl)
theorem e100 : Entry Tryd.prog 100 (Extern.BytealgMakeNoZero.makeNoZero Tryd.f100.params #[104]) := Entry.mk (fn := Tryd.f100) Tryd.func100 (by kernel_rfl) (by kernel_rfl) (by kernel_rfl) (by kernel_rfl)
theorem u_104 : Tryd.prog.underlying 104 = some (.slice 5) := by kernel_rfl
theorem enter82 (args : Array Value) (w : World) : (callFunc 82 args).run Tryd.prog w = .ok (.enter 82 args) w :=
  callFunc_run (fn := Tryd.f82) (c := match Tryd.f82.body with | some c => c | none => .skip) Tryd.func82 (by kernel_rfl) (by kernel_rfl) args w
def Len (W : World) : Prop := 1 < W.heap.size ∧ ∃ m, W.cell? ⟨1, 0, none⟩ = some (.int .i64 m)
noncomputable def extsA : List (Nat × Own) := [(48, pureD addH), (49, pureD subH), (82, pureD indexH), (99, sameD), (100, rawD 5), (101, pureD indexByteH), (105, pureD countByteH)]
theorem extsA_tr : IntrTr (extL extsA) := extL_tr fun x hx => by
  simp only [extsA, List.mem_cons, List.not_mem_nil, or_false] at hx
  rcases hx with rfl | rfl | rfl | rfl | rfl | rfl | rfl
  · exact pureD_tr _
  · exact pureD_tr _
  · exact pureD_tr _
  · exact sameD_tr
  · exact rawD_tr 5
  · exact pureD_tr _
  · exact pureD_tr _
theorem oa48 (W : World) (G : Nat) : OwnOk Tryd.prog W G 48 (pureD addH) := add64_ok ea48
theorem oa49 (W : World) (G : Nat) : OwnOk Tryd.prog W G 49 (pureD subH) := sub64_ok ea49
theorem oa99 (W : World) (G : Nat) : OwnOk Tryd.prog W G 99 sameD := same_ok e99
theorem oa100 (W : World) (G : Nat) : OwnOk Tryd.prog W G 100 (rawD 5) := raw_ok e100 u_104
theorem oa101 (W : World) (G : Nat) : OwnOk Tryd.prog W G 101 (pureD indexByteH) := indexByte_ok e101
theorem oa105 (W : World) (G : Nat) : OwnOk Tryd.prog W G 105 (pureD countByteH) := countByte_ok e105
theorem oa82 {W : World} (hW : Len W) (G : Nat) : OwnOk Tryd.prog W G 82 (pureD indexH) := by
  refine index_ok enter82 hW.1 fun s sub w hw hs => ?_
  obtain ⟨_, m, hm⟩ := hW
  refine Tryd.stringslite_Index s sub m w hs ?_
  rw [← hm]
  unfold World.cell?
  rw [hw]
theorem extsA_ok {W : World} (hW : Len W) (G : Nat) : IntrOk Tryd.prog W G (extL extsA) := extL_ok fun x hx => by
  simp only [extsA, List.mem_cons, List.not_mem_nil, or_false] at hx
  rcases hx with rfl | rfl | rfl | rfl | rfl | rfl | rfl
  · exact oa48 W G
  · exact oa49 W G
  · exact oa82 hW G
  · exact oa99 W G
  · exact oa100 W G
  · exact oa101 W G
  · exact oa105 W G
noncomputable def maskA : Nat := 10339592115925849834004918065692671
theorem okA : (Nat.ble (maskA + 1) (Nat.shiftLeft 1 113) && okMask Tryd.prog 6 maskA 113) = true := by kernel_rfl
theorem wrap_shaped {H : Type} {enc : TypeId × Value → H} {C : Checked} {os : Os} {f : FuncId} {fn : Func} {s : ChangeSpec} {X : World → Array Value → Prop}
    (hX : ∀ (w w' : World) (args : Array Value), w.heap = w'.heap → X w args → X w' args)
    (own : ownKnob C.prog.godebug = none) (started : os.Started) (noInit : C.prog.inits.idxOf? f = none) (hfn : C.prog.funcs[f]? = some fn)
    (witness : ∃ (w : World) (tape : Tape) (i : Input), w.os = os ∧ (w.forCall tape i).Shaped C.prog ∧ i.vars = [] ∧ Input.okWide C.prog (w.forCall tape i) .any w.heap.size f i ∧
      ((s.pre enc C.prog fn [] false (w.forCall tape i).memory i.args ∧ X (w.forCall tape i).memory i.args) ∧ sizedMet enc C.prog fn (OpenSpec.ofChange s) false (w.forCall tape i).memory i.args) ∧ ({} : Assume).holds C.prog (lone (Frame.enter C.prog f i.args .normal) [] (w.forCall tape i)))
    (contract : ∀ (W : World) (base : Nat) (args : Array Value) (ds gs : List (DataW H)) (before : List MemPlace),
      (∀ (j : Nat) t v, fn.params[j]? = some t → args[j]? = some v → Value.okWide C.prog W .any base t v) →
      DataW.Whole enc C.prog fn.params.toList s.vars false W args.toList ds gs before → X W args → W.ShapedOpen C.prog →
      Calls C.prog f args W fun e W' => ∃ v, e = .returned v ∧ s.post enc C.prog fn false true false false W args v W') :
    ReturnsInHanded {} C os f .any (fun w args => (s.pre enc C.prog fn [] false w args ∧ X w args) ∧ sizedMet enc C.prog fn (OpenSpec.ofChange s) false w args) (s.post enc C.prog fn false true false false) := by
  refine returnsInHanded_of_calls own started noInit witness ?_
  intro w tape i _ hsh _ hok hpre _
  obtain ⟨_, _, _, fn', hfn', _, _, _, _, hval⟩ := hok
  have e : fn' = fn := Option.some.inj (hfn'.symm.trans hfn)
  subst e
  obtain ⟨⟨⟨ds, gs, before, hw, _⟩, hx⟩, _⟩ := hpre
  have hw' := DataW.Whole.of_heap (w' := w.forCall tape i) (by rfl) hw
  refine (contract (w.forCall tape i) w.heap.size i.args ds gs before hval hw' (hX _ _ _ (by rfl) hx) hsh).mono fun e W' ⟨v, he, hp⟩ => ?_
  subst he
  exact ChangeSpec.post_blind hp
theorem Len.of_shape {W : World} (h : W.ShapedOpen Tryd.prog) (hs : 6 ≤ W.heap.size) : Len W := ⟨by omega, Tryd.laysM219.s1_3 W h⟩
theorem Len.later {W w : World} (h : Len W) (h1 : W.heap.size ≤ w.heap.size) (h2 : ∀ b, b < W.heap.size → w.heap[b]? = W.heap[b]?) : Len w := by
  obtain ⟨h0, m, hm⟩ := h
  refine ⟨by omega, m, ?_⟩
  rw [← hm]
  unfold World.cell?
  rw [h2 1 h0]
theorem wakeA_run (t0 t2 t5 : TypeId) : isTrue (callD Tryd.prog (mkIntr maskA (extL extsA)) 1000 60 27 [] (birth (heapA t0 t2 t5) 64)) = true := by kernel_rfl
theorem wakeA_ok {W : World} {t0 t2 t5 : TypeId} (L : Laying 6 W (heapA t0 t2 t5)) (hs : 6 ≤ W.heap.size) (hW : Len W) : OwnOk Tryd.prog W 6 27 doneD :=
  done_ok (fn := Tryd.f27) (c := match Tryd.f27.body with | some c => c | none => .skip) L hs (by decide : 6 ≤ 64) dt_mixed okA extsA_tr (fun w h1 h2 => extsA_ok (hW.later h1 h2) 6) Tryd.func27 (by kernel_rfl) (by kernel_rfl) (wakeA_run t0 t2 t5)
end Go.Proofs.YtfnacgojmdbjmaaDoor
end

section
/- Worlds in which the listed tables lie as the program lays them: what contracts of the library need. And: an entry of the evaluator as a contract of a call. -/
namespace Go.Det
open Go.RowKit
variable {P : Program}
theorem own_calls {G : Nat} {f : FuncId} {fn : Func} {c : Code} {g : Own} {w : World} {args : List Value} {v : Value} {s' : St} (h : OwnOk P w G f g) (hG : G ≤ 64) (hs : G ≤ w.heap.size)
    (hf : P.funcs[f]? = some fn) (hb : fn.body = some c) (hn : (fn.name == "runtime.NumGoroutine") = false) (e : g args (birth [] 64) = some (v, s')) (h1 : flat2L args = true) (h2 : flat v = true) (h3 : v ≠ und) :
    Calls P f ⟨args⟩ w fun e w' => e = .returned v ∧ Below w.heap.size w w' := by
  have L := Laying.empty (G := G) hs
  have k := h args (birth [] 64) v s' e (glob G w) w args L.hr (glob_glob G w) (flat2L_self h1 _) (fun id q _ => glob_top G w hG id q) ⟨Nat.le_refl _, fun id q _ => L.top id (Nat.le_trans hG q)⟩
  rw [callFunc_run hf hb hn] at k
  refine Calls.mono k ?_
  rintro e w' ⟨v', φ', rfl, _, hv, H⟩
  rw [flat_inv h2 hv h3]
  exact ⟨rfl, H.os, H.tape, H.output, H.size, fun j hj => H.old j hj⟩
end Go.Det
namespace Go.Proofs.YtfnacgojmdbjmaaDoor
open Go.Det Go.RowKit
set_option maxRecDepth 100000
structure GoodW (w : World) : Prop where
  lay : ∃ t0 t2 t5, Laying 6 w (heapA t0 t2 t5)
  size : 6 ≤ w.heap.size
  len : Len w
theorem GoodW.later {W w : World} (h : GoodW W) (h1 : W.heap.size ≤ w.heap.size) (h2 : ∀ b, b < W.heap.size → w.heap[b]? = W.heap[b]?) : GoodW w := by
  obtain ⟨t0, t2, t5, L⟩ := h.lay
  exact ⟨⟨t0, t2, t5, L.move h1 h2 h.size⟩, Nat.le_trans h.size h1, h.len.later h1 h2⟩
theorem GoodW.below {w w' : World} (h : GoodW w) (k : Below w.heap.size w w') : GoodW w' := h.later k.size k.block
theorem GoodW.drew {w : World} (h : GoodW w) : GoodW w.drew := h.later (Nat.le_refl _) (fun _ _ => rfl)
theorem GoodW.drewN {w : World} (h : GoodW w) (n : Nat) : GoodW (w.drewN n) := h.later (Nat.le_refl _) (fun _ _ => rfl)
theorem st_awake27 (w : World) (hG : GoodW w) : Calls Tryd.prog 27 #[] w fun e w' => e = .returned (.bool true) ∧ Below w.heap.size w w' := by
  obtain ⟨t0, t2, t5, L⟩ := hG.lay
  exact own_calls (fn := Tryd.f27) (c := match Tryd.f27.body with | some c => c | none => .skip) (wakeA_ok L hG.size hG.len) (by decide) hG.size Tryd.func27 (by kernel_rfl) (by kernel_rfl) (s' := birth [] 64) rfl rfl rfl (by intro h; cases h)
end Go.Proofs.YtfnacgojmdbjmaaDoor
end

section
/-
  DERIVED: THE SHELF's CONTRACTS AT THIS DUMP, IN PLAIN WORDS (tools/lay-plain.mjs out of 'TrydShelfT.lean', which tools/lay-shelf.mjs wrote): THE SAME DECLARATIONS UNDER THE SAME NAMES: 'import', 'namespace', 'open', 'def', 'theorem' AND NOTHING ELSE: no command of the shelf's: FOR A HAND-IN. Each laying: the table of numbers ('.._ren') and one theorem, a field a fact of the dump's own or the kernel's comparison; each contract: ONE APPLICATION.
-/
namespace Go.Proofs
open Go.Shelf
def Tryd.lays156_ren : Go.Shelf.Ren := ⟨fun | 156 => 55 | 165 => 78 | 166 => 79 | 169 => 80 | 240 => 86 | 241 => 87 | 276 => 99 | 277 => 100 | n => n, fun | 31 => 80 | 9 => 9 | 3 => 3 | 4 => 4 | 0 => 0 | 20 => 20 | 72 => 106 | 76 => 110 | 70 => 103 | 37 => 104 | 75 => 109 | 127 => 114 | 164 => 122 | 5 => 5 | 80 => 112 | n => n, fun | n => n⟩
theorem Tryd.lays156 : Go.Proofs.Lays.n156 Tryd.prog Tryd.lays156_ren := {
  mixed := by kernel_rfl
  f156 := Tryd.func55.trans (congrArg some (by kernel_rfl))
  f165 := Tryd.func78.trans (congrArg some (by kernel_rfl))
  f166 := Tryd.func79.trans (congrArg some (by kernel_rfl))
  f169 := Tryd.func80.trans (congrArg some (by kernel_rfl))
  f240 := Tryd.func86.trans (congrArg some (by kernel_rfl))
  f241 := Tryd.func87.trans (congrArg some (by kernel_rfl))
  f276 := Tryd.func99.trans (congrArg some (by kernel_rfl))
  f277 := Tryd.func100.trans (congrArg some (by kernel_rfl))
  t0 := Tryd.underlying0
  a0 := Tryd.isAgg0
  z0 := Tryd.sizeOf0
  v0 := Tryd.zeroValue0
  t3 := Tryd.underlying3
  a3 := Tryd.isAgg3
  z3 := Tryd.sizeOf3
  v3 := Tryd.zeroValue3
  t4 := Tryd.underlying4
  a4 := Tryd.isAgg4
  z4 := Tryd.sizeOf4
  v4 := Tryd.zeroValue4
  t9 := Tryd.underlying9
  a9 := Tryd.isAgg9
  z9 := Tryd.sizeOf9
  v9 := Tryd.zeroValue9
  t20 := Tryd.underlying20
  a20 := Tryd.isAgg20
  z20 := Tryd.sizeOf20
  v20 := Tryd.zeroValue20
  t31 := Tryd.underlying80
  a31 := Tryd.isAgg80
  z31 := Tryd.sizeOf80
  v31 := Tryd.zeroValue80
  t37 := Tryd.underlying104
  a37 := Tryd.isAgg104
  z37 := Tryd.sizeOf104
  v37 := Tryd.zeroValue104
  t70 := Tryd.underlying103
  a70 := Tryd.isAgg103
  z70 := Tryd.sizeOf103
  v70 := Tryd.zeroValue103
  t72 := Tryd.underlying106
  a72 := Tryd.isAgg106
  z72 := Tryd.sizeOf106
  v72 := Tryd.zeroValue106
  t75 := Tryd.underlying109
  a75 := Tryd.isAgg109
  z75 := Tryd.sizeOf109
  v75 := Tryd.zeroValue109
  t76 := Tryd.underlying110
  a76 := Tryd.isAgg110
  z76 := Tryd.sizeOf110
  v76 := Tryd.zeroValue110
  t127 := Tryd.underlying114
  a127 := Tryd.isAgg114
  z127 := Tryd.sizeOf114
  v127 := Tryd.zeroValue114
  t164 := Tryd.underlying122
  a164 := Tryd.isAgg122
  z164 := Tryd.sizeOf122
  v164 := Tryd.zeroValue122 }
theorem Tryd.Builder_Extra_156 : Builder.Extra Tryd.prog Tryd.lays156_ren := {
  sizeBuilder := by kernel_rfl
  liesBuilder := by kernel_rfl
  t5 := Tryd.underlying5
  a5 := Tryd.isAgg5
  z5 := Tryd.sizeOf5
  v5 := Tryd.zeroValue5
  infoByte := by kernel_rfl
  cellsByte := by kernel_rfl
  sizeByte := by kernel_rfl
  neB5 := by decide }
open Go.RowKit in
theorem Tryd.strings_Join_none (a : Option Addr) (c : Nat) (sep : ByteArray) (w : World) :
    Calls Tryd.prog 55 #[.slice a 0 c, .string sep] w fun e w' => e = .returned (.string ⟨#[]⟩) ∧ w' = w := Any.strings_Join_none Tryd.lays156 Tryd.Builder_Extra_156 a c sep w
open Go.RowKit in
theorem Tryd.strings_Join (bk o c : Nat) (xs : List ByteArray) (sep : ByteArray) (w : World) (hcells : ∀ (j : Nat) x, xs[j]? = some x → w.cell? ⟨bk, o + j, none⟩ = some (.string x)) (hbk : bk < w.heap.size) (hN : xs.length ≤ 140737488355328) (hcap : xs.length ≤ c) (hlen : (Lib.join (xs.map (·.data.toList)) sep.data.toList).length ≤ 140737488355328) :
    Calls Tryd.prog 55 #[.slice (some ⟨bk, o, none⟩) xs.length c, .string sep] w fun e w' => e = .returned (.string ⟨(Lib.join (xs.map (·.data.toList)) sep.data.toList).toArray⟩) ∧ Below w.heap.size w w' := Any.strings_Join Tryd.lays156 Tryd.Builder_Extra_156 bk o c xs sep w hcells hbk hN hcap hlen
def Tryd.lays137_ren : Go.Shelf.Ren := ⟨fun | 137 => 92 | 217 => 88 | 266 => 101 | n => n, fun | 9 => 9 | 5 => 5 | 3 => 3 | n => n, fun | n => n⟩
theorem Tryd.lays137 : Go.Proofs.Lays.n137 Tryd.prog Tryd.lays137_ren := {
  mixed := by kernel_rfl
  f137 := Tryd.func92.trans (congrArg some (by kernel_rfl))
  f217 := Tryd.func88.trans (congrArg some (by kernel_rfl))
  f266 := Tryd.func101.trans (congrArg some (by kernel_rfl))
  t3 := Tryd.underlying3
  a3 := Tryd.isAgg3
  z3 := Tryd.sizeOf3
  v3 := Tryd.zeroValue3
  t5 := Tryd.underlying5
  a5 := Tryd.isAgg5
  z5 := Tryd.sizeOf5
  v5 := Tryd.zeroValue5
  t9 := Tryd.underlying9
  a9 := Tryd.isAgg9
  z9 := Tryd.sizeOf9
  v9 := Tryd.zeroValue9 }
open Go.RowKit in
theorem Tryd.strings_IndexByte (s : ByteArray) (c : Int) (w : World) :
    Calls Tryd.prog 92 #[.string s, .int .u8 c] w fun e w' => e = .returned (.int .i64 (Lib.indexByte s.data.toList c.toNat.toUInt8)) ∧ w' = w := Any.strings_IndexByte Tryd.lays137 s c w
def Tryd.lays144_ren : Go.Shelf.Ren := ⟨fun | 144 => 51 | 143 => 74 | 219 => 82 | 217 => 88 | 225 => 89 | 224 => 90 | 267 => 91 | 266 => 101 | 314 => 102 | n => n, fun | 9 => 9 | 4 => 4 | 3 => 3 | 5 => 5 | 46 => 89 | 146 => 126 | 51 => 125 | n => n, fun | 1 => 1 | n => n⟩
theorem Tryd.lays144 : Go.Proofs.Lays.n144 Tryd.prog Tryd.lays144_ren := {
  mixed := by kernel_rfl
  f143 := Tryd.func74.trans (congrArg some (by kernel_rfl))
  f144 := Tryd.func51.trans (congrArg some (by kernel_rfl))
  f217 := Tryd.func88.trans (congrArg some (by kernel_rfl))
  f219 := Tryd.func82.trans (congrArg some (by kernel_rfl))
  f224 := Tryd.func90.trans (congrArg some (by kernel_rfl))
  f225 := Tryd.func89.trans (congrArg some (by kernel_rfl))
  f266 := Tryd.func101.trans (congrArg some (by kernel_rfl))
  f267 := Tryd.func91.trans (congrArg some (by kernel_rfl))
  f314 := Tryd.func102.trans (congrArg some (by kernel_rfl))
  t3 := Tryd.underlying3
  a3 := Tryd.isAgg3
  z3 := Tryd.sizeOf3
  v3 := Tryd.zeroValue3
  t4 := Tryd.underlying4
  a4 := Tryd.isAgg4
  z4 := Tryd.sizeOf4
  v4 := Tryd.zeroValue4
  t5 := Tryd.underlying5
  a5 := Tryd.isAgg5
  z5 := Tryd.sizeOf5
  v5 := Tryd.zeroValue5
  t9 := Tryd.underlying9
  a9 := Tryd.isAgg9
  z9 := Tryd.sizeOf9
  v9 := Tryd.zeroValue9
  t46 := Tryd.underlying89
  a46 := Tryd.isAgg89
  z46 := Tryd.sizeOf89
  v46 := Tryd.zeroValue89
  t51 := Tryd.underlying125
  a51 := Tryd.isAgg125
  z51 := Tryd.sizeOf125
  v51 := Tryd.zeroValue125
  t146 := Tryd.underlying126
  a146 := Tryd.isAgg126
  z146 := Tryd.sizeOf126
  v146 := Tryd.zeroValue126
  g1 := by kernel_rfl }
open Go.RowKit Go.Lib in
open Go.RowKit Go.Lib in
theorem Tryd.strings_Contains (s sub : ByteArray) (m : Int) (w : World) (hs : s.size < 4294967281) (hm : w.cell? ⟨1, 0, none⟩ = some (.int .i64 m)) :
    Calls Tryd.prog 51 #[.string s, .string sub] w fun e w' => e = .returned (.bool (Lib.contains s.data.toList sub.data.toList)) ∧ w' = w := Any.strings_Contains Tryd.lays144 s sub m w hs hm
def Tryd.lays145_ren : Go.Shelf.Ren := ⟨fun | 145 => 60 | 220 => 81 | 219 => 82 | 217 => 88 | 225 => 89 | 224 => 90 | 267 => 91 | 266 => 101 | 314 => 102 | n => n, fun | 9 => 9 | 4 => 4 | 59 => 90 | 3 => 3 | 5 => 5 | 46 => 89 | 146 => 126 | 51 => 125 | n => n, fun | 1 => 1 | n => n⟩
theorem Tryd.lays145 : Go.Proofs.Lays.n145 Tryd.prog Tryd.lays145_ren := {
  mixed := by kernel_rfl
  f145 := Tryd.func60.trans (congrArg some (by kernel_rfl))
  f217 := Tryd.func88.trans (congrArg some (by kernel_rfl))
  f219 := Tryd.func82.trans (congrArg some (by kernel_rfl))
  f220 := Tryd.func81.trans (congrArg some (by kernel_rfl))
  f224 := Tryd.func90.trans (congrArg some (by kernel_rfl))
  f225 := Tryd.func89.trans (congrArg some (by kernel_rfl))
  f266 := Tryd.func101.trans (congrArg some (by kernel_rfl))
  f267 := Tryd.func91.trans (congrArg some (by kernel_rfl))
  f314 := Tryd.func102.trans (congrArg some (by kernel_rfl))
  t3 := Tryd.underlying3
  a3 := Tryd.isAgg3
  z3 := Tryd.sizeOf3
  v3 := Tryd.zeroValue3
  t4 := Tryd.underlying4
  a4 := Tryd.isAgg4
  z4 := Tryd.sizeOf4
  v4 := Tryd.zeroValue4
  t5 := Tryd.underlying5
  a5 := Tryd.isAgg5
  z5 := Tryd.sizeOf5
  v5 := Tryd.zeroValue5
  t9 := Tryd.underlying9
  a9 := Tryd.isAgg9
  z9 := Tryd.sizeOf9
  v9 := Tryd.zeroValue9
  t46 := Tryd.underlying89
  a46 := Tryd.isAgg89
  z46 := Tryd.sizeOf89
  v46 := Tryd.zeroValue89
  t51 := Tryd.underlying125
  a51 := Tryd.isAgg125
  z51 := Tryd.sizeOf125
  v51 := Tryd.zeroValue125
  t59 := Tryd.underlying90
  a59 := Tryd.isAgg90
  z59 := Tryd.sizeOf90
  v59 := Tryd.zeroValue90
  t146 := Tryd.underlying126
  a146 := Tryd.isAgg126
  z146 := Tryd.sizeOf126
  v146 := Tryd.zeroValue126
  g1 := by kernel_rfl }
open Go.RowKit Go.Lib in
theorem Tryd.strings_Cut (s sep : ByteArray) (m : Int) (w : World) (hs : s.size < 4294967281) (hm : w.cell? ⟨1, 0, none⟩ = some (.int .i64 m)) :
    Calls Tryd.prog 60 #[.string s, .string sep] w fun e w' => e = .returned (.tuple #[.string ⟨(Lib.cut s.data.toList sep.data.toList).1.toArray⟩, .string ⟨(Lib.cut s.data.toList sep.data.toList).2.1.toArray⟩, .bool (Lib.cut s.data.toList sep.data.toList).2.2]) ∧ ∃ n, w' = w.drewN n := Any.strings_Cut Tryd.lays145 s sep m w hs hm
def Tryd.lays146_ren : Go.Shelf.Ren := ⟨fun | 146 => 76 | 221 => 84 | 268 => 93 | 138 => 94 | 143 => 74 | 195 => 103 | 197 => 104 | 218 => 105 | 219 => 82 | 260 => 111 | 217 => 88 | 225 => 89 | 224 => 90 | 267 => 91 | 266 => 101 | 314 => 102 | n => n, fun | 9 => 9 | 31 => 80 | 3 => 3 | 4 => 4 | 0 => 0 | 105 => 129 | 21 => 21 | 5 => 5 | 46 => 89 | 119 => 136 | 139 => 139 | 138 => 138 | 146 => 126 | 51 => 125 | n => n, fun | 1 => 1 | 3 => 3 | 4 => 4 | n => n⟩
theorem Tryd.lays146 : Go.Proofs.Lays.n146 Tryd.prog Tryd.lays146_ren := {
  mixed := by kernel_rfl
  f138 := Tryd.func94.trans (congrArg some (by kernel_rfl))
  f143 := Tryd.func74.trans (congrArg some (by kernel_rfl))
  f146 := Tryd.func76.trans (congrArg some (by kernel_rfl))
  f195 := Tryd.func103.trans (congrArg some (by kernel_rfl))
  f197 := Tryd.func104.trans (congrArg some (by kernel_rfl))
  f217 := Tryd.func88.trans (congrArg some (by kernel_rfl))
  f218 := Tryd.func105.trans (congrArg some (by kernel_rfl))
  f219 := Tryd.func82.trans (congrArg some (by kernel_rfl))
  f221 := Tryd.func84.trans (congrArg some (by kernel_rfl))
  f224 := Tryd.func90.trans (congrArg some (by kernel_rfl))
  f225 := Tryd.func89.trans (congrArg some (by kernel_rfl))
  f260 := Tryd.func111.trans (congrArg some (by kernel_rfl))
  f266 := Tryd.func101.trans (congrArg some (by kernel_rfl))
  f267 := Tryd.func91.trans (congrArg some (by kernel_rfl))
  f268 := Tryd.func93.trans (congrArg some (by kernel_rfl))
  f314 := Tryd.func102.trans (congrArg some (by kernel_rfl))
  t0 := Tryd.underlying0
  a0 := Tryd.isAgg0
  z0 := Tryd.sizeOf0
  v0 := Tryd.zeroValue0
  t3 := Tryd.underlying3
  a3 := Tryd.isAgg3
  z3 := Tryd.sizeOf3
  v3 := Tryd.zeroValue3
  t4 := Tryd.underlying4
  a4 := Tryd.isAgg4
  z4 := Tryd.sizeOf4
  v4 := Tryd.zeroValue4
  t5 := Tryd.underlying5
  a5 := Tryd.isAgg5
  z5 := Tryd.sizeOf5
  v5 := Tryd.zeroValue5
  t9 := Tryd.underlying9
  a9 := Tryd.isAgg9
  z9 := Tryd.sizeOf9
  v9 := Tryd.zeroValue9
  t21 := Tryd.underlying21
  a21 := Tryd.isAgg21
  z21 := Tryd.sizeOf21
  v21 := Tryd.zeroValue21
  t31 := Tryd.underlying80
  a31 := Tryd.isAgg80
  z31 := Tryd.sizeOf80
  v31 := Tryd.zeroValue80
  t46 := Tryd.underlying89
  a46 := Tryd.isAgg89
  z46 := Tryd.sizeOf89
  v46 := Tryd.zeroValue89
  t51 := Tryd.underlying125
  a51 := Tryd.isAgg125
  z51 := Tryd.sizeOf125
  v51 := Tryd.zeroValue125
  t105 := Tryd.underlying129
  a105 := Tryd.isAgg129
  z105 := Tryd.sizeOf129
  v105 := Tryd.zeroValue129
  t119 := Tryd.underlying136
  a119 := Tryd.isAgg136
  z119 := Tryd.sizeOf136
  t138 := Tryd.underlying138
  a138 := Tryd.isAgg138
  z138 := Tryd.sizeOf138
  v138 := Tryd.zeroValue138
  t139 := Tryd.underlying139
  a139 := Tryd.isAgg139
  z139 := Tryd.sizeOf139
  v139 := Tryd.zeroValue139
  t146 := Tryd.underlying126
  a146 := Tryd.isAgg126
  z146 := Tryd.sizeOf126
  v146 := Tryd.zeroValue126
  g1 := by kernel_rfl
  g3 := by kernel_rfl
  g4 := by kernel_rfl }
open Go.RowKit Go.Lib in
theorem Tryd.strings_Split (s sep : ByteArray) (m : Int) (w : World) (hs : s.size < 4294967281) (hm : w.cell? ⟨1, 0, none⟩ = some (.int .i64 m)) (h1 : 1 ≤ sep.size) :
    Calls Tryd.prog 76 #[.string s, .string sep] w fun e w' =>
      e = .returned (.slice (some ⟨w.heap.size, 0, none⟩) (Lib.countB s sep + 1) (Lib.countB s sep + 1)) ∧ w' = w.alloc (.cells ((Lib.splitB sep 0 (Lib.countB s sep) s).map Value.string).toArray 9) := Any.strings_Split Tryd.lays146 (by kernel_rfl) s sep m w hs hm h1
end Go.Proofs
end

section
/- Numbers of 128 bits in two halves, as natural numbers: sums, differences, bits. Plain. -/
namespace Go.Det
abbrev M64 : Nat := 18446744073709551616
abbrev M128 : Nat := 340282366920938463463374607431768211456
def qn (h l : Int) : Nat := h.toNat * M64 + l.toNat
def inU (n : Int) : Bool := decide (0 ≤ n ∧ n < 18446744073709551616)
def inQ (h l : Int) : Bool := inU h && inU l
def quadV (n : Nat) : Value := .agg #[.int .u64 ((n / M64 : Nat) : Int), .int .u64 ((n % M64 : Nat) : Int)]
theorem inU_iff {n : Int} : inU n = true ↔ 0 ≤ n ∧ n < 18446744073709551616 := by simp [inU]
theorem inQ_iff {h l : Int} : inQ h l = true ↔ (0 ≤ h ∧ h < 18446744073709551616) ∧ (0 ≤ l ∧ l < 18446744073709551616) := by
  simp [inQ, inU_iff]
theorem inQ_quad {n : Nat} (h : n < M128) : inQ ((n / M64 : Nat) : Int) ((n % M64 : Nat) : Int) = true := by
  rw [inQ_iff]
  unfold M64 M128 at *
  omega
theorem qn_quad (n : Nat) : qn ((n / M64 : Nat) : Int) ((n % M64 : Nat) : Int) = n := by
  unfold qn
  rw [Int.toNat_natCast, Int.toNat_natCast]
  exact Nat.div_add_mod' n M64
theorem testBit_halves {h l : Nat} (k : l < M64) (j : Nat) : (h * M64 + l).testBit j = if j < 64 then l.testBit j else h.testBit (j - 64) := by
  have := Nat.testBit_two_pow_mul_add h (b := l) (i := 64) (by unfold M64 at k; omega) j
  rw [← this, Nat.mul_comm]
theorem land_split {h1 l1 h2 l2 : Nat} (a : l1 < M64) (b : l2 < M64) : (h1 * M64 + l1) &&& (h2 * M64 + l2) = (h1 &&& h2) * M64 + (l1 &&& l2) := by
  apply Nat.eq_of_testBit_eq
  intro j
  have c : l1 &&& l2 < M64 := Nat.lt_of_le_of_lt Nat.and_le_left a
  rw [Nat.testBit_and, testBit_halves a, testBit_halves b, testBit_halves c]
  split <;> rw [Nat.testBit_and]
theorem lor_lt64 {a b : Nat} (h : a < M64) (k : b < M64) : a ||| b < M64 := Nat.or_lt_two_pow (n := 64) h k
theorem lor_split {h1 l1 h2 l2 : Nat} (a : l1 < M64) (b : l2 < M64) : (h1 * M64 + l1) ||| (h2 * M64 + l2) = (h1 ||| h2) * M64 + (l1 ||| l2) := by
  apply Nat.eq_of_testBit_eq
  intro j
  rw [Nat.testBit_or, testBit_halves a, testBit_halves b, testBit_halves (lor_lt64 a b)]
  split <;> rw [Nat.testBit_or]
theorem ofInt_toNat {n : Int} (h : 0 ≤ n) (k : n < 18446744073709551616) : (BitVec.ofInt 64 n).toNat = n.toNat := by
  rw [BitVec.toNat_ofInt]
  omega
theorem wrap_u64 {n : Nat} (h : n < M64) : IntKind.u64.wrap (n : Int) = (n : Int) := by
  unfold M64 at h
  unfold IntKind.wrap
  simp [IntKind.signed, IntKind.bits]
  omega
theorem andI_u64 {a b : Int} (ha : inU a = true) (hb : inU b = true) : andI .u64 a b = ((a.toNat &&& b.toNat : Nat) : Int) := by
  rw [inU_iff] at ha hb
  unfold andI
  show IntKind.u64.wrap ((BitVec.ofInt 64 a &&& BitVec.ofInt 64 b).toNat : Int) = _
  rw [BitVec.toNat_and, ofInt_toNat ha.1 ha.2, ofInt_toNat hb.1 hb.2]
  exact wrap_u64 (Nat.lt_of_le_of_lt Nat.and_le_left (by unfold M64; omega))
theorem orI_u64 {a b : Int} (ha : inU a = true) (hb : inU b = true) : orI .u64 a b = ((a.toNat ||| b.toNat : Nat) : Int) := by
  rw [inU_iff] at ha hb
  unfold orI
  show IntKind.u64.wrap ((BitVec.ofInt 64 a ||| BitVec.ofInt 64 b).toNat : Int) = _
  rw [BitVec.toNat_or, ofInt_toNat ha.1 ha.2, ofInt_toNat hb.1 hb.2]
  exact wrap_u64 (lor_lt64 (by unfold M64; omega) (by unfold M64; omega))
theorem notI_u64 {a : Int} (ha : inU a = true) : IntKind.u64.wrap ((BitVec.ofInt 64 18446744073709551615 ^^^ BitVec.ofInt 64 a).toNat : Int) = 18446744073709551615 - a := by
  rw [inU_iff] at ha
  have e : BitVec.ofInt 64 18446744073709551615 = BitVec.allOnes 64 := by decide
  rw [e, BitVec.allOnes_xor, BitVec.toNat_not, ofInt_toNat ha.1 ha.2]
  rw [wrap_u64 (by unfold M64; omega)]
  omega
end Go.Det
end

section
/- The contracts of the numbers of 128 bits. -/
namespace Go.Det
noncomputable def con48 : Con where
  own := pureD addH
  w := fun args s K => match args with
    | [.int .u64 x, .int .u64 y, .int .u64 c] => Nat.ble c.toNat 1 = true ∧ K (.tuple #[.int .u64 (((x.toNat + y.toNat + c.toNat) % 18446744073709551616 : Nat) : Int), .int .u64 (((x.toNat + y.toNat + c.toNat) / 18446744073709551616 : Nat) : Int)]) s
    | _ => False
  ok := by
    intro args s K h
    split at h
    · obtain ⟨h1, h2⟩ := h
      exact ⟨_, _, by simp only [pureD, addH, h1], h2, fun K' k => ⟨h1, k⟩⟩
    · exact h.elim
  mono := by
    intro args s K K' k h
    split at h
    · exact ⟨h.1, k _ _ h.2⟩
    · exact h.elim
def borrowN (x y c : Int) : Nat := match Nat.ble (y.toNat + c.toNat) x.toNat with | true => 0 | false => 1
noncomputable def con49 : Con where
  own := pureD subH
  w := fun args s K => match args with
    | [.int .u64 x, .int .u64 y, .int .u64 c] => Nat.ble c.toNat 1 = true ∧ K (.tuple #[.int .u64 (((x.toNat + 18446744073709551616 - y.toNat - c.toNat) % 18446744073709551616 : Nat) : Int), .int .u64 (borrowN x y c : Nat)]) s
    | _ => False
  ok := by
    intro args s K h
    split at h
    · obtain ⟨h1, h2⟩ := h
      refine ⟨_, _, ?_, h2, fun K' k => ⟨h1, k⟩⟩
      simp only [pureD, subH, h1, borrowN] <;> rfl
    · exact h.elim
  mono := by
    intro args s K K' k h
    split at h
    · exact ⟨h.1, k _ _ h.2⟩
    · exact h.elim
def domQQ (x : Int × Int × Int × Int) : Bool := inQ x.1 x.2.1 && inQ x.2.2.1 x.2.2.2
def domQ (x : Int × Int) : Bool := inQ x.1 x.2
noncomputable def conLess : Con := Con.flat decQQ domQQ fun x => .bool (cdec (qn x.1 x.2.1 < qn x.2.2.1 x.2.2.2))
def clampN (n : Int) (hi : Nat) : Nat := min n.toNat hi
def highN (n : Nat) : Nat := M64 - 2 ^ (64 - n)
def maskN (n : Nat) : Nat := M128 - 2 ^ (128 - n)
noncomputable def conHigh : Con := Con.flat decI (fun _ => true) fun n => .int .u64 (highN (clampN n 64) : Nat)
def domMask (n : Int) : Bool := decide (-1000 ≤ n ∧ n ≤ 1000)
def addN (a b : Nat) : Nat := if a + b < M128 then a + b else 0
def subN (a b : Nat) : Nat := if a < b then 0 else a - b
end Go.Det
end

section
/- The conditions of the functions of 128 bits, printed by a tool of one's own and checked by the kernel. -/
namespace Go.Proofs.YtfnacgojmdbjmaaDoor
open Go.Det
set_option maxRecDepth 100000
noncomputable def bodyOf (f : Func) : Code := match f.body with | some c => c | none => .skip
noncomputable def L0 : List (Nat × Con) := [(48, con48), (49, con49)]
noncomputable def L1 : List (Nat × Con) := (22, conLess) :: L0
noncomputable def L2 : List (Nat × Con) := (50, conHigh) :: L1
theorem vc22 (ah al bh bl : Int) (Q : Value → Prop) : codeW Tryd.prog (cwC []) (bodyOf Tryd.f22) (inTab (encQQ (ah, al, bh, bl)) 8) (birth [] 64) (retW Tryd.prog Tryd.f22 fun v _ => Q v) = (bifW (cdec (ah < bh)) (Q (Value.bool Bool.true)) (bifW (cdec (ah = bh)) (Q (Value.bool (cdec (al < bl)))) (Q (Value.bool Bool.false)))) := by kernel_rfl
theorem vc20 (ah al bh bl : Int) (Q : Value → Prop) : codeW Tryd.prog (cwC []) (bodyOf Tryd.f20) (inTab (encQQ (ah, al, bh, bl)) 8) (birth [] 64) (retW Tryd.prog Tryd.f20 fun v _ => Q v) = (Q (Value.agg #[Value.int IntKind.u64 (andI IntKind.u64 ah bh), Value.int IntKind.u64 (andI IntKind.u64 al bl)])) := by kernel_rfl
theorem vc21 (ah al bh bl : Int) (Q : Value → Prop) : codeW Tryd.prog (cwC []) (bodyOf Tryd.f21) (inTab (encQQ (ah, al, bh, bl)) 8) (birth [] 64) (retW Tryd.prog Tryd.f21 fun v _ => Q v) = (Q (Value.agg #[Value.int IntKind.u64 (orI IntKind.u64 ah bh), Value.int IntKind.u64 (orI IntKind.u64 al bl)])) := by kernel_rfl
theorem vc24 (ah al : Int) (Q : Value → Prop) : codeW Tryd.prog (cwC []) (bodyOf Tryd.f24) (inTab (encQ (ah, al)) 8) (birth [] 64) (retW Tryd.prog Tryd.f24 fun v _ => Q v) = (Q (Value.agg #[Value.int IntKind.u64 (IntKind.wrap IntKind.u64 (↑(BitVec.toNat (BitVec.ofInt 64 (if Bool.false = Bool.true then -1 else if Bool.false = Bool.true then 2 ^ (64 - 1) - 1 else 2 ^ 64 - 1) ^^^ BitVec.ofInt 64 ah)) : Int)), Value.int IntKind.u64 (IntKind.wrap IntKind.u64 (↑(BitVec.toNat (BitVec.ofInt 64 (if Bool.false = Bool.true then -1 else if Bool.false = Bool.true then 2 ^ (64 - 1) - 1 else 2 ^ 64 - 1) ^^^ BitVec.ofInt 64 al)) : Int))])) := by kernel_rfl
theorem vc50 (n : Int) (Q : Value → Prop) : codeW Tryd.prog (cwC []) (bodyOf Tryd.f50) (inTab (encI n) 8) (birth [] 64) (retW Tryd.prog Tryd.f50 fun v _ => Q v) = (((0 ≤ if 64 < if n < 0 then 0 else n then 64 else if n < 0 then 0 else n) ∧ Q (Value.int IntKind.u64 (IntKind.wrap IntKind.u64 (↑(BitVec.toNat (BitVec.ofInt 64 (if Bool.false = Bool.true then -1 else if Bool.false = Bool.true then 2 ^ (64 - 1) - 1 else 2 ^ 64 - 1) ^^^ BitVec.ofInt 64 (shrI IntKind.u64 18446744073709551615 (if 64 < if n < 0 then 0 else n then 64 else if n < 0 then 0 else n)))) : Int))))) := by kernel_rfl
theorem vc19 (n : Int) (Q : Value → Prop) : codeW Tryd.prog (cwC L2) (bodyOf Tryd.f19) (inTab (encI n) 8) (birth [] 64) (retW Tryd.prog Tryd.f19 fun v _ => Q v) = (((Bool.true = Bool.true) ∧ ((Bool.true = Bool.true) ∧ Q (Value.agg #[Value.int IntKind.u64 (↑(highN (clampN n 64)) : Int), Value.int IntKind.u64 (↑(highN (clampN (IntKind.wrap IntKind.i64 ((if 128 < n then 128 else n) - 64)) 64)) : Int)])))) := by kernel_rfl
theorem vc17 (ah al bh bl : Int) (Q : Value → Prop) : codeW Tryd.prog (cwC L1) (bodyOf Tryd.f17) (inTab (encQQ (ah, al, bh, bl)) 8) (birth [] 64) (retW Tryd.prog Tryd.f17 fun v _ => Q v) = (((domQQ (ah, al, bh, bl) = Bool.true) ∧ bifW (cdec (qn ah al < qn bh bl)) (Q (Value.tuple #[Value.agg #[Value.int IntKind.u64 0, Value.int IntKind.u64 0], Value.bool Bool.false])) (((Bool.true = Bool.true) ∧ Q (Value.tuple #[Value.agg #[Value.int IntKind.u64 (IntKind.wrap IntKind.u64 (IntKind.wrap IntKind.u64 (ah - bh) - (↑(borrowN al bl 0) : Int))), Value.int IntKind.u64 (↑((Int.toNat al + 18446744073709551616 - Int.toNat bl - Int.toNat 0) % 18446744073709551616) : Int)], Value.bool Bool.true]))))) := by kernel_rfl
end Go.Proofs.YtfnacgojmdbjmaaDoor
end

section
/- The contracts of the functions of 128 bits, kept by their bodies. -/
namespace Go.Proofs.YtfnacgojmdbjmaaDoor
open Go.ChangeShapes Go.WideShapes Go.ChangeAt Go.RowKit Go.Det
set_option maxRecDepth 100000
theorem v_true {p : Prop} (h : p) : Value.bool true = .bool (cdec p) := congrArg _ (cdec_true.2 h).symm
theorem v_false {p : Prop} (h : ¬ p) : Value.bool false = .bool (cdec p) := congrArg _ (cdec_false.2 h).symm
theorem v_iff {p q : Prop} (h : p ↔ q) : Value.bool (cdec p) = .bool (cdec q) := congrArg (fun p => Value.bool (cdec p)) (propext h)
theorem domQQ_iff {a b c d : Int} : domQQ (a, b, c, d) = true ↔ ((0 ≤ a ∧ a < 18446744073709551616) ∧ (0 ≤ b ∧ b < 18446744073709551616)) ∧ ((0 ≤ c ∧ c < 18446744073709551616) ∧ (0 ≤ d ∧ d < 18446744073709551616)) := by
  unfold domQQ
  rw [Bool.and_eq_true, inQ_iff, inQ_iff]
theorem domQ_iff {a b : Int} : domQ (a, b) = true ↔ ((0 ≤ a ∧ a < 18446744073709551616) ∧ (0 ≤ b ∧ b < 18446744073709551616)) := by
  unfold domQ
  rw [inQ_iff]
theorem w22 (a : Int × Int × Int × Int) (h : domQQ a = true) : codeW Tryd.prog (cwC []) (bodyOf Tryd.f22) (inTab (encQQ a) 8) (birth [] 64) (retW Tryd.prog Tryd.f22 fun v _ => v = .bool (cdec (qn a.1 a.2.1 < qn a.2.2.1 a.2.2.2))) := by
  obtain ⟨ah, al, bh, bl⟩ := a
  refine (vc22 ah al bh bl _).mpr ?_
  have h := domQQ_iff.1 h
  simp only [qn, M64]
  refine bifW_intro (fun h1 => ?_) (fun h1 => ?_)
  · rw [cdec_true] at h1
    exact v_true (by omega)
  · rw [cdec_false] at h1
    refine bifW_intro (fun h2 => ?_) (fun h2 => ?_)
    · rw [cdec_true] at h2
      exact v_iff (by omega)
    · rw [cdec_false] at h2
      exact v_false (by omega)
theorem quad_of {h l : Int} {n : Nat} (h1 : h = ((n / M64 : Nat) : Int)) (h2 : l = ((n % M64 : Nat) : Int)) : Value.agg #[.int .u64 h, .int .u64 l] = quadV n := by
  rw [h1, h2]; rfl
theorem inU_of {n : Int} (h : 0 ≤ n ∧ n < 18446744073709551616) : inU n = true := inU_iff.2 h
theorem w20 (a : Int × Int × Int × Int) (h : domQQ a = true) : codeW Tryd.prog (cwC []) (bodyOf Tryd.f20) (inTab (encQQ a) 8) (birth [] 64) (retW Tryd.prog Tryd.f20 fun v _ => v = quadV (qn a.1 a.2.1 &&& qn a.2.2.1 a.2.2.2)) := by
  obtain ⟨ah, al, bh, bl⟩ := a
  refine (vc20 ah al bh bl _).mpr ?_
  have h := domQQ_iff.1 h
  rw [andI_u64 (inU_of h.1.1) (inU_of h.2.1), andI_u64 (inU_of h.1.2) (inU_of h.2.2)]
  have h1 : al.toNat < M64 := by simp only [M64]; omega
  have h2 : bl.toNat < M64 := by simp only [M64]; omega
  have h3 : al.toNat &&& bl.toNat < M64 := Nat.lt_of_le_of_lt Nat.and_le_left h1
  show _ = quadV ((ah.toNat * M64 + al.toNat) &&& (bh.toNat * M64 + bl.toNat))
  rw [land_split h1 h2]
  simp only [M64] at *
  refine quad_of ?_ ?_ <;> (simp only [M64]; omega)
theorem w21 (a : Int × Int × Int × Int) (h : domQQ a = true) : codeW Tryd.prog (cwC []) (bodyOf Tryd.f21) (inTab (encQQ a) 8) (birth [] 64) (retW Tryd.prog Tryd.f21 fun v _ => v = quadV (qn a.1 a.2.1 ||| qn a.2.2.1 a.2.2.2)) := by
  obtain ⟨ah, al, bh, bl⟩ := a
  refine (vc21 ah al bh bl _).mpr ?_
  have h := domQQ_iff.1 h
  rw [orI_u64 (inU_of h.1.1) (inU_of h.2.1), orI_u64 (inU_of h.1.2) (inU_of h.2.2)]
  have h1 : al.toNat < M64 := by simp only [M64]; omega
  have h2 : bl.toNat < M64 := by simp only [M64]; omega
  have h3 : al.toNat ||| bl.toNat < M64 := lor_lt64 h1 h2
  show _ = quadV ((ah.toNat * M64 + al.toNat) ||| (bh.toNat * M64 + bl.toNat))
  rw [lor_split h1 h2]
  simp only [M64] at *
  refine quad_of ?_ ?_ <;> (simp only [M64]; omega)
theorem maxU : (if false = true then (-1 : Int) else if false = true then 2 ^ (64 - 1) - 1 else 2 ^ 64 - 1) = 18446744073709551615 := by decide
theorem w24 (a : Int × Int) (h : domQ a = true) : codeW Tryd.prog (cwC []) (bodyOf Tryd.f24) (inTab (encQ a) 8) (birth [] 64) (retW Tryd.prog Tryd.f24 fun v _ => v = quadV (M128 - 1 - qn a.1 a.2)) := by
  obtain ⟨ah, al⟩ := a
  refine (vc24 ah al _).mpr ?_
  have h := domQ_iff.1 h
  rw [maxU, notI_u64 (inU_of h.1), notI_u64 (inU_of h.2)]
  refine quad_of ?_ ?_ <;> (simp only [qn, M64, M128]; omega)
theorem wrapU (x : Int) : IntKind.u64.wrap x = x % 18446744073709551616 := by
  unfold IntKind.wrap
  simp [IntKind.signed, IntKind.bits]
theorem w17 (a : Int × Int × Int × Int) (h : domQQ a = true) : codeW Tryd.prog (cwC L1) (bodyOf Tryd.f17) (inTab (encQQ a) 8) (birth [] 64) (retW Tryd.prog Tryd.f17 fun v _ => v = .tuple #[quadV (subN (qn a.1 a.2.1) (qn a.2.2.1 a.2.2.2)), .bool (cdec (qn a.2.2.1 a.2.2.2 ≤ qn a.1 a.2.1))]) := by
  obtain ⟨ah, al, bh, bl⟩ := a
  refine (vc17 ah al bh bl _).mpr ?_
  refine ⟨h, ?_⟩
  have h := domQQ_iff.1 h
  show bifW _ (_ = Value.tuple #[quadV (subN (qn ah al) (qn bh bl)), .bool (cdec (qn bh bl ≤ qn ah al))]) (true = true ∧ _ = Value.tuple #[quadV (subN (qn ah al) (qn bh bl)), .bool (cdec (qn bh bl ≤ qn ah al))])
  refine bifW_intro (fun h1 => ?_) (fun h1 => ⟨rfl, ?_⟩)
  · rw [cdec_true] at h1
    have e : subN (qn ah al) (qn bh bl) = 0 := if_pos h1
    rw [e, ← v_false (by omega)]; rfl
  · rw [cdec_false] at h1
    have e : subN (qn ah al) (qn bh bl) = qn ah al - qn bh bl := if_neg h1
    rw [e, ← v_true (by omega)]
    have hb : (borrowN al bl 0 : Int) = if bl.toNat ≤ al.toNat then 0 else 1 := by
      unfold borrowN
      show ((match Nat.ble (bl.toNat + 0) al.toNat with | true => 0 | false => 1 : Nat) : Int) = _
      cases hq : Nat.ble (bl.toNat + 0) al.toNat with
      | true => rw [if_pos (by have := Nat.le_of_ble_eq_true hq; omega)]; rfl
      | false => rw [if_neg (by intro q; have := Nat.ble_eq_true_of_le (show bl.toNat + 0 ≤ al.toNat by omega); rw [this] at hq; cases hq)]; rfl
    rw [hb, wrapU, wrapU]
    have hh : quadV (qn ah al - qn bh bl) = Value.agg #[.int .u64 (((ah - bh) % 18446744073709551616 - (if bl.toNat ≤ al.toNat then 0 else 1)) % 18446744073709551616), .int .u64 (((al.toNat + 18446744073709551616 - bl.toNat - Int.toNat 0) % 18446744073709551616 : Nat) : Int)] := by
      refine (quad_of ?_ ?_).symm
      · simp only [qn, M64] at *
        split <;> omega
      · simp only [qn, M64] at *
        omega
    rw [hh]
theorem fin_high : (List.range 65).all (fun k => decide (Int.fdiv 18446744073709551615 (2 ^ k) = 18446744073709551615 - ((highN k : Nat) : Int))) = true := by decide +kernel
theorem fin_mask : (List.range 129).all (fun k => decide (maskN k / M64 = highN (min k 64) ∧ maskN k % M64 = highN (k - 64))) = true := by decide +kernel
theorem fin_at {p : Nat → Bool} {n : Nat} (h : (List.range n).all p = true) (k : Nat) (hk : k < n) : p k = true := List.all_eq_true.1 h k (List.mem_range.2 hk)
theorem w50 (n : Int) (_ : true = true) : codeW Tryd.prog (cwC []) (bodyOf Tryd.f50) (inTab (encI n) 8) (birth [] 64) (retW Tryd.prog Tryd.f50 fun v _ => v = .int .u64 (highN (clampN n 64) : Nat)) := by
  refine (vc50 n _).mpr ?_
  generalize hm : (if 64 < if 0 > n then 0 else n then (64 : Int) else if 0 > n then 0 else n) = m
  have h0 : 0 ≤ m ∧ m ≤ 64 ∧ m.toNat = clampN n 64 := by
    rw [← hm]
    unfold clampN
    split <;> split at * <;> omega
  refine ⟨h0.1, ?_⟩
  rw [maxU]
  have e : shrI IntKind.u64 18446744073709551615 m = 18446744073709551615 - ((highN (clampN n 64) : Nat) : Int) := by
    have := of_decide_eq_true (fin_at fin_high m.toNat (by omega))
    rw [← h0.2.2, ← this]
    unfold shrI
    rw [show min m.toNat IntKind.u64.bits = m.toNat by simp [IntKind.bits]; omega]
  have hr : highN (clampN n 64) ≤ 18446744073709551615 := by
    unfold highN
    have : 0 < 2 ^ (64 - clampN n 64) := Nat.pow_pos (by decide)
    simp only [M64]; omega
  rw [e, notI_u64 (inU_of (by omega))]
  congr 1
  omega
theorem w19 (n : Int) (h : domMask n = true) : codeW Tryd.prog (cwC L2) (bodyOf Tryd.f19) (inTab (encI n) 8) (birth [] 64) (retW Tryd.prog Tryd.f19 fun v _ => v = quadV (maskN (clampN n 128))) := by
  refine (vc19 n _).mpr ⟨rfl, rfl, ?_⟩
  have h := of_decide_eq_true h
  have hk : clampN n 128 ≤ 128 := by unfold clampN; omega
  have := of_decide_eq_true (fin_at fin_mask (clampN n 128) (by omega))
  refine quad_of ?_ ?_
  · rw [this.1]
    congr 2
    unfold clampN; omega
  · rw [this.2]
    congr 2
    have e : IntKind.i64.wrap ((if 128 < n then 128 else n) - 64) = (if 128 < n then 128 else n) - 64 := by
      rw [IntKind.wrap_i64]; split <;> omega
    rw [e]
    unfold clampN
    split <;> omega
end Go.Proofs.YtfnacgojmdbjmaaDoor
end

section
/- The contracts of the functions of 128 bits, at every world. -/
namespace Go.Proofs.YtfnacgojmdbjmaaDoor
open Go.ChangeShapes Go.WideShapes Go.ChangeAt Go.RowKit Go.Det
set_option maxRecDepth 100000
section
variable {H : Type} {enc : TypeId × Value → H} {w : World} {base : Nat} {spare : Nat → Bool} {held : Bool}
end
end Go.Proofs.YtfnacgojmdbjmaaDoor
end
