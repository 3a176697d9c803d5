/- What a piece of code must come to, said as a law: branches over a bool that is not known are kept, bounds are said. -/
import Derived.Test.YtfnacgojmdbjmaaGreatDoorRo2
namespace Go.Det
variable (P : Program)

noncomputable def bifW (b : Bool) (A B : Prop) : Prop := match b with | true => A | false => B
theorem bifW_intro {b : Bool} {A B : Prop} (h1 : b = true → A) (h2 : b = false → B) : bifW b A B := by
  cases b
  · exact h2 rfl
  · exact h1 rfl
theorem bifW_mono {b : Bool} {A B A' B' : Prop} (h1 : A → A') (h2 : B → B') (h : bifW b A B) : bifW b A' B' := by
  cases b
  · exact h2 h
  · exact h1 h

abbrev KV := Value → St → Prop
abbrev KT := Tmps → St → Prop
abbrev KC := Ex → Tmps → St → Prop

noncomputable def optW (r : Option (Value × St)) (K : KV) : Prop := match r with | some x => K x.1 x.2 | none => False

/-- the n-th, which there is -/
noncomputable def nthW : List Value → Nat → (Value → Prop) → Prop
  | [], _, _ => False
  | v :: _, 0, K => K v
  | _ :: t, n + 1, K => nthW t n K
noncomputable def dropW : Nat → List Value → (List Value → Prop) → Prop
  | 0, cs, K => K cs
  | _ + 1, [], _ => False
  | n + 1, _ :: t, K => dropW n t K
noncomputable def takeW : Nat → List Value → (List Value → Prop) → Prop
  | 0, _, K => K []
  | _ + 1, [], _ => False
  | n + 1, v :: t, K => takeW n t fun r => K (v :: r)
noncomputable def putW : Nat → List Value → List Value → (List Value → Prop) → Prop
  | 0, l, ws, K => takeW ws.length l fun _ => K (ws ++ l.drop ws.length)
  | _ + 1, [], _, _ => False
  | n + 1, x :: t, ws, K => putW n t ws fun r => K (x :: r)

theorem nthW_intro {K : Value → Prop} : ∀ {l : List Value} {n : Nat} {v : Value}, l[n]? = some v → K v → nthW l n K
  | [], n, v, h, _ => by simp at h
  | x :: t, 0, v, h, k => by simp only [List.getElem?_cons_zero, Option.some.injEq] at h; subst h; exact k
  | x :: t, n + 1, v, h, k => by rw [List.getElem?_cons_succ] at h; exact nthW_intro (l := t) h k
theorem nthW_some {K : Value → Prop} : ∀ {l : List Value} {n : Nat}, nthW l n K → ∃ v, l[n]? = some v ∧ K v
  | [], _, h => h.elim
  | v :: _, 0, h => ⟨v, rfl, h⟩
  | _ :: t, n + 1, h => by obtain ⟨v, e, k⟩ := nthW_some (l := t) h; exact ⟨v, by rw [List.getElem?_cons_succ]; exact e, k⟩
theorem dropW_intro {K : List Value → Prop} : ∀ {n : Nat} {l : List Value}, n ≤ l.length → K (l.drop n) → dropW n l K
  | 0, l, _, k => k
  | n + 1, [], h, _ => by simp at h
  | n + 1, x :: t, h, k => dropW_intro (l := t) (by simpa using h) k
theorem dropW_some {K : List Value → Prop} : ∀ {n : Nat} {l : List Value}, dropW n l K → n ≤ l.length ∧ K (l.drop n)
  | 0, l, k => ⟨Nat.zero_le _, k⟩
  | n + 1, [], h => h.elim
  | n + 1, x :: t, h => by obtain ⟨a, b⟩ := dropW_some (l := t) h; exact ⟨by simpa using a, b⟩
theorem takeW_intro {K : List Value → Prop} : ∀ {n : Nat} {l : List Value}, n ≤ l.length → K (l.take n) → takeW n l K
  | 0, l, _, k => k
  | n + 1, [], h, _ => by simp at h
  | n + 1, x :: t, h, k => takeW_intro (l := t) (by simpa using h) k
theorem takeW_some {K : List Value → Prop} : ∀ {n : Nat} {l : List Value}, takeW n l K → n ≤ l.length ∧ K (l.take n)
  | 0, l, k => ⟨Nat.zero_le _, k⟩
  | n + 1, [], h => h.elim
  | n + 1, x :: t, h => by obtain ⟨a, b⟩ := takeW_some (l := t) h; exact ⟨by simpa using a, b⟩
theorem putW_intro {K : List Value → Prop} : ∀ {n : Nat} {l ws : List Value}, n + ws.length ≤ l.length → K (l.take n ++ ws ++ l.drop (n + ws.length)) → putW n l ws K
  | 0, l, ws, h, k => takeW_intro (by omega) (by simpa using k)
  | n + 1, [], ws, h, _ => by simp at h
  | n + 1, x :: t, ws, h, k => putW_intro (l := t) (by simp at h; omega) (by rw [show n + 1 + ws.length = (n + ws.length) + 1 by omega] at k; exact k)
theorem putW_some {K : List Value → Prop} : ∀ {n : Nat} {l ws : List Value}, putW n l ws K → n + ws.length ≤ l.length ∧ K (l.take n ++ ws ++ l.drop (n + ws.length))
  | 0, l, ws, h => by obtain ⟨a, b⟩ := takeW_some h; exact ⟨by omega, by simpa using b⟩
  | n + 1, [], ws, h => h.elim
  | n + 1, x :: t, ws, h => by
    obtain ⟨a, b⟩ := putW_some (l := t) h
    refine ⟨by simp; omega, ?_⟩
    rw [show n + 1 + ws.length = (n + ws.length) + 1 by omega]
    exact b

theorem ltake_of_le : ∀ {n : Nat} {l : List Value}, n ≤ l.length → ltake n l = some (l.take n)
  | 0, l, _ => rfl
  | n + 1, [], h => by simp at h
  | n + 1, v :: t, h => by rw [ltake_succ_cons, ltake_of_le (l := t) (by simpa using h)]; rfl
theorem lput0_of_le : ∀ {l ws : List Value}, ws.length ≤ l.length → lput0 l ws = some (ws ++ l.drop ws.length)
  | l, [], _ => by rw [lput0_nil]; simp
  | [], w :: ws, h => by simp at h
  | x :: t, w :: ws, h => by rw [lput0_cons, lput0_of_le (l := t) (by simpa using h)]; simp
theorem lput_of_le : ∀ {n : Nat} {l ws : List Value}, n + ws.length ≤ l.length → lput l n ws = some (l.take n ++ ws ++ l.drop (n + ws.length))
  | 0, l, ws, h => by rw [lput_zero, lput0_of_le (by omega)]; simp
  | n + 1, [], ws, h => by simp at h
  | n + 1, x :: t, ws, h => by
    rw [lput_succ_cons, lput_of_le (l := t) (by simp at h; omega), show n + 1 + ws.length = (n + ws.length) + 1 by omega]; simp

noncomputable def loadW (s : St) (t : TypeId) (a : Value) (K : KV) : Prop :=
  match a with
  | .pointer (some ⟨id, off, none⟩) =>
    match s.h.get id with
    | some (.cells cs _ _) =>
      match isAggB P t with
      | some true => match szOf P t with
        | some 0 => K (.agg ([] : List Value).toArray) (s.read id)
        | some (n + 1) => dropW off cs fun r => takeW (n + 1) r fun r => K (.agg r.toArray) (s.read id)
        | none => False
      | some false => nthW cs off fun v => K v (s.read id)
      | none => False
    | _ => False
  | _ => False

theorem loadW_some {P : Program} {s : St} {t : TypeId} {a : Value} {K : KV} (h : loadW P s t a K) : ∃ v s', loadD P s t a = some (v, s') ∧ K v s' := by
  unfold loadW at h
  split at h
  case h_2 => exact h.elim
  rename_i id off
  split at h
  case h_2 => exact h.elim
  rename_i cs e ro hg
  split at h
  · rename_i hb
    split at h
    · rename_i hn
      exact ⟨_, _, by simp only [loadD, hg, hb, hn, ltake_zero], h⟩
    · rename_i n hn
      obtain ⟨h1, h⟩ := dropW_some h
      obtain ⟨h2, h⟩ := takeW_some h
      exact ⟨_, _, by simp only [loadD, hg, hb, hn, ldrop_eq, ltake_of_le h2], h⟩
    · exact h.elim
  · rename_i hb
    obtain ⟨v, e, h⟩ := nthW_some h
    refine ⟨_, _, ?_, h⟩
    have hd : cs.drop off = v :: cs.drop (off + 1) := by
      obtain ⟨hlt, rfl⟩ := List.getElem?_eq_some_iff.1 e
      rw [List.drop_eq_getElem_cons hlt]
    simp only [loadD, hg, hb, ldrop_eq, hd]
  · exact h.elim
theorem loadW_mono {P : Program} {s : St} {t : TypeId} {a : Value} {K K' : KV} (k : ∀ v s, K v s → K' v s) (h : loadW P s t a K) : loadW P s t a K' := by
  unfold loadW at h ⊢
  split at h
  case h_2 => exact h.elim
  split at h
  case h_2 => exact h.elim
  split at h
  · split at h
    · exact k _ _ h
    · obtain ⟨h1, h⟩ := dropW_some h
      obtain ⟨h2, h⟩ := takeW_some h
      exact dropW_intro h1 (takeW_intro h2 (k _ _ h))
    · exact h.elim
  · obtain ⟨v, e, h⟩ := nthW_some h
    exact nthW_intro e (k _ _ h)
  · exact h.elim

noncomputable def storeW (s : St) (t : TypeId) (a v : Value) (K : St → Prop) : Prop :=
  match a with
  | .pointer (some ⟨id, off, none⟩) =>
    match s.h.get id with
    | some (.cells cs e false) =>
      match szOf P t with
      | some n => match Nat.beq (cellsOfV v).length n && oneL (cellsOfV v) with
        | true => putW off cs (cellsOfV v) fun cs' => K (s.write id (.cells cs' e false))
        | false => False
      | none => False
    | _ => False
  | _ => False
theorem storeW_some {P : Program} {s : St} {t : TypeId} {a v : Value} {K : St → Prop} (h : storeW P s t a v K) : ∃ s', storeD P s t a v = some s' ∧ K s' := by
  unfold storeW at h
  split at h
  case h_2 => exact h.elim
  rename_i id off
  split at h
  case h_2 => exact h.elim
  rename_i cs e hg
  split at h
  case h_2 => exact h.elim
  rename_i n hn
  split at h
  case h_2 => exact h.elim
  rename_i hc
  obtain ⟨h1, h⟩ := putW_some h
  exact ⟨_, by simp only [storeD, hg, hn, hc, if_true, lput_of_le h1], h⟩
theorem storeW_mono {P : Program} {s : St} {t : TypeId} {a v : Value} {K K' : St → Prop} (k : ∀ s, K s → K' s) (h : storeW P s t a v K) : storeW P s t a v K' := by
  unfold storeW at h ⊢
  split at h
  case h_2 => exact h.elim
  split at h
  case h_2 => exact h.elim
  split at h
  case h_2 => exact h.elim
  split at h
  case h_2 => exact h.elim
  obtain ⟨h1, h⟩ := putW_some h
  exact putW_intro h1 (k _ h)

/-- a bool that no reckoning takes apart -/
noncomputable def cdec (p : Prop) : Bool := @decide p (Classical.propDecidable p)
theorem cdec_eq (p : Prop) [d : Decidable p] : decide p = cdec p := by
  unfold cdec
  congr
theorem cdec_true {p : Prop} : cdec p = true ↔ p := by unfold cdec; simp
theorem cdec_false {p : Prop} : cdec p = false ↔ ¬ p := by unfold cdec; simp
theorem cdec_beq (a b : Int) : (a == b) = cdec (a = b) := cdec_eq (a = b)
theorem cdec_bne (a b : Int) : (a != b) = cdec (a ≠ b) := by
  rw [← cdec_eq (a ≠ b)]
  show (!(decide (a = b))) = decide (a ≠ b)
  simp
theorem cdec_beqB (a b : Bool) : (a == b) = cdec (a = b) := by rw [← cdec_eq (a = b)]; cases a <;> cases b <;> rfl
theorem cdec_str (a b : ByteArray) : strEq a b = cdec (a.data.toList = b.data.toList) := by
  rw [← cdec_eq (a.data.toList = b.data.toList)]
  unfold strEq
  rw [Bool.eq_iff_iff]; simp

/-- the cells of two structs held against each other -/
noncomputable def eqCellsW : List Nat → List Value → List Value → Option Bool
  | [], [], [] => some true
  | 0 :: ks, .int k a :: s, .int k' b :: t => match kindEq k k' with
    | true => (match eqCellsW ks s t with | some r => some (cdec (a = b) && r) | none => none)
    | false => none
  | 1 :: ks, .bool a :: s, .bool b :: t => match eqCellsW ks s t with | some r => some (cdec (a = b) && r) | none => none
  | 2 :: ks, .string a :: s, .string b :: t => match eqCellsW ks s t with | some r => some (cdec (a.data.toList = b.data.toList) && r) | none => none
  | _, _, _ => none
theorem eqCellsW_eq (ks : List Nat) : ∀ (a b : List Value), eqCells ks a b = eqCellsW ks a b := by
  induction ks with
  | nil => intro a b; cases a <;> cases b <;> rfl
  | cons k ks ih =>
    intro a b
    rcases k with _ | _ | _ | k
    · cases a with
      | nil => cases b <;> rfl
      | cons v s => cases b with
        | nil => cases v <;> rfl
        | cons u t =>
          cases v with
          | int q x => cases u with
            | int q' y =>
              show (match kindEq q q' with | true => (match eqCells ks s t with | some r => some ((x == y) && r) | none => none) | false => none) = (match kindEq q q' with | true => (match eqCellsW ks s t with | some r => some (cdec (x = y) && r) | none => none) | false => none)
              rw [ih, cdec_beq]
            | _ => rfl
          | _ => rfl
    · cases a with
      | nil => cases b <;> rfl
      | cons v s => cases b with
        | nil => cases v <;> rfl
        | cons u t =>
          cases v with
          | bool x => cases u with
            | bool y =>
              show (match eqCells ks s t with | some r => some ((x == y) && r) | none => none) = (match eqCellsW ks s t with | some r => some (cdec (x = y) && r) | none => none)
              rw [ih, cdec_beqB]
            | _ => rfl
          | _ => rfl
    · cases a with
      | nil => cases b <;> rfl
      | cons v s => cases b with
        | nil => cases v <;> rfl
        | cons u t =>
          cases v with
          | string x => cases u with
            | string y =>
              show (match eqCells ks s t with | some r => some (strEq x y && r) | none => none) = (match eqCellsW ks s t with | some r => some (cdec (x.data.toList = y.data.toList) && r) | none => none)
              rw [ih, cdec_str]
            | _ => rfl
          | _ => rfl
    · cases a <;> cases b <;> rfl
noncomputable def aggEqW (t : TypeId) (a b : List Value) : Option Bool :=
  match P.underlying t with
  | some (.struct fs) => (match P.stoodInHeld t || P.eqGuardType P.depth t with
    | true => none
    | false => (match plainFs P (plainSh P 11) 0 fs.toList with
      | some ks => eqCellsW ks a b
      | none => none))
  | _ => none

noncomputable def binW (op : BinOp) (t : TypeId) (x y : Operand) (a b : Value) (s : St) (K : KV) : Prop :=
  match a, b with
  | .int k m, .int k' n => (match op with
    | .shl => 0 ≤ n ∧ K (.int k (shlI k m n)) s
    | .shr => 0 ≤ n ∧ K (.int k (shrI k m n)) s
    | op => (match kindEq k k' with
      | false => False
      | true => (match op with
        | .quo => n ≠ 0 ∧ K (.int k (k.wrap (m.tdiv n))) s
        | .rem => n ≠ 0 ∧ K (.int k (m.tmod n)) s
        | .eql => K (.bool (cdec (m = n))) s
        | .neq => K (.bool (cdec (m ≠ n))) s
        | .lss => K (.bool (cdec (m < n))) s
        | .leq => K (.bool (cdec (m ≤ n))) s
        | .gtr => K (.bool (cdec (n < m))) s
        | .geq => K (.bool (cdec (n ≤ m))) s
        | op => optW (ofV (intBin op k m n) s) K)))
  | .string p, .string q => (match op with
    | .add => p.size + q.size ≤ 9223372036854775807 ∧ K (.string (p ++ q)) s
    | .eql => K (.bool (cdec (p.data.toList = q.data.toList))) s
    | .neq => K (.bool (!cdec (p.data.toList = q.data.toList))) s
    | op => optW (ofV (binD P op t x y (.string p) (.string q)) s) K)
  | .agg p, .agg q => (match op with
    | .eql => (match aggEqW P t p.toList q.toList with | some r => K (.bool r) s | none => False)
    | .neq => (match aggEqW P t p.toList q.toList with | some r => K (.bool (!r)) s | none => False)
    | _ => False)
  | a, b => optW (ofV (binD P op t x y a b) s) K

noncomputable def indexAddrW (t : TypeId) (x ix : Value) (s : St) (K : KV) : Prop :=
  match typ P t, x, ix with
  | some (.slice elem), .slice (some ⟨id, off, none⟩) n _, .int _ i => (match szOf P elem with
    | some size => (0 ≤ i ∧ i < (n : Int)) ∧ K (.pointer (some ⟨id, off + i.toNat * size, none⟩)) s
    | none => False)
  | some (.array n elem), .pointer (some ⟨id, off, none⟩), .int _ i => (match szOf P elem with
    | some size => (0 ≤ i ∧ i < (n : Int)) ∧ K (.pointer (some ⟨id, off + i.toNat * size, none⟩)) s
    | none => False)
  | _, _, _ => False

noncomputable def indexW (t : TypeId) (x ix : Value) (s : St) (K : KV) : Prop :=
  match typ P t, x, ix with
  | some .string, .string b, .int _ i => (0 ≤ i ∧ i < (b.data.toList.length : Int)) ∧ K (.int .u8 (b.data.toList.getD i.toNat 0).toNat) s
  | _, x, ix => optW (ofV (indexD P t x ix) s) K

/-- is the operation to be carried out? -/
noncomputable def wantW (all : List Oper) (l : Tmps) (o : Oper) (yes no : Tmps → Prop) : Prop :=
  match o.guard with
  | none => yes l
  | some g =>
    match nth all g.1 with
    | some q => (match q.dst with
      | some d => (match lget l d with
        | .bool b => bifW b ((match g.2 with | true => yes | false => no) (lset l d (.bool true))) ((match g.2 with | true => no | false => yes) (lset l d (.bool false)))
        | .tuple _ => False
        | _ => no l)
      | none => False)
    | none => False

/-- what calls come to, said by contracts -/
abbrev Cw := FuncId → List Value → St → KV → Prop
noncomputable def call0 : Call := fun _ _ _ => none

noncomputable def opW (cw : Cw) (o : Oper) (l : Tmps) (s : St) (K : KV) : Prop :=
  match o.op with
  | .binOp op t x y _ => binW P op t x y (evalO l x) (evalO l y) s K
  | .load t a => loadW P s t (evalO l a) K
  | .store t a x => storeW P s t (evalO l a) (evalO l x) fun s => K und s
  | .pick c a b => (match evalO l c with | .bool t => bifW t (K (evalO l a) s) (K (evalO l b) s) | _ => False)
  | .indexAddr t x i => indexAddrW P t (evalO l x) (evalO l i) s K
  | .index t x i => indexW P t (evalO l x) (evalO l i) s K
  | .call c => (match c.callee with
    | .value f => (match evalO l f with
      | .func (.func g) first cap => cw g (first.toList ++ (evalL l c.args.toList ++ cap.toList)) s K
      | _ => False)
    | .builtin b => optW (builtinD P s b c.argTypes o.type (evalL l c.args.toList)) K
    | .invoke _ _ => False)
  | _ => optW (opD P call0 o l s) K

noncomputable def opsW (cw : Cw) (all : List Oper) : List Oper → Tmps → St → KT → Prop
  | [], l, s, K => K l s
  | o :: rest, l, s, K => wantW all l o (fun l => opW P cw o l s fun v s => opsW cw all rest (putD l o.dst v) s K) (fun l => opsW cw all rest (putD l o.dst skp) s K)

noncomputable def drawW (cw : Cw) (all : List Oper) : List Oper → List Foot → Tmps → St → KT → Prop
  | [], _, l, s, K => K l s
  | o :: rest, done, l, s, K => match edgesOk done.length o.after.toList with
    | true => wantW all l o
      (fun l => opW P cw o l (solo s) fun v x => match apartAll (footOf all o done x.rd x.wr) 0 done with
        | true => drawW cw all rest (done ++ [footOf all o done x.rd x.wr]) (putD l o.dst v) (merge s x) K
        | false => False)
      (fun l => match apartAll (footOf all o done 0 0) 0 done with
        | true => drawW cw all rest (done ++ [footOf all o done 0 0]) (putD l o.dst skp) (merge s (solo s)) K
        | false => False)
    | false => False

noncomputable def lknow (l : Tmps) (c : Operand) (b : Bool) : Tmps := match c with | .tmp t => lset l t (.bool b) | _ => l

/-- a round behind a round -/
noncomputable def stepW (R : KT) (K : KC) : KC := fun e l s => match e with | .normal => R l s | .exit i => K (.exit i) l s | .ret => K .ret l s

noncomputable def Weak (l : Tmps) (s : St) (l' : Tmps) (s' : St) (A : Tmps → St → Act → World → Prop) : Prop := ∀ a w, A l s a w → A l' s' a w

structure At (w0 : World) (φ0 : Ren) (n : Nat) (l : Tmps) (s : St) (a : Act) (w : World) (φ : Ren) : Prop where
  hr : HR φ s.h w0 w
  le : Le φ0 φ
  fr : Fr n φ l a
  fresh : ∀ id, s.next ≤ id → φ id = none
  none_ : ∀ id, s.next ≤ id → s.h.get id = none
  hi : s.next ≤ s.hi

/-- whatever stands as the one says stands as the other says -/
noncomputable def Weaker (l : Tmps) (s : St) (l' : Tmps) (s' : St) : Prop :=
  ∀ w0 φ0 n a w φ, (∀ id, 64 ≤ id → φ0 id = none) → At w0 φ0 n l s a w φ → ∃ φ', At w0 φ0 n l' s' a w φ'

noncomputable def LoopW (body : Tmps → St → KC → Prop) (l : Tmps) (s : St) (K : KC) : Prop :=
  ∀ R : KT, (∀ l s, body l s (stepW R K) → R l s) → (∀ l s l' s', Weaker l s l' s' → R l' s' → R l s) → R l s

noncomputable def codeW (cw : Cw) : Code → Tmps → St → KC → Prop
  | .skip, l, s, K => K .normal l s
  | .region _ ops draw, l, s, K => (match draw with
    | true => drawW P cw ops.toList ops.toList [] l s (K .normal)
    | false => opsW P cw ops.toList ops.toList l s (K .normal))
  | .seq a b, l, s, K => codeW cw a l s fun e l s => match e with | .normal => codeW cw b l s K | .exit i => K (.exit i) l s | .ret => K .ret l s
  | .cond c a b, l, s, K => (match evalO l c with
    | .bool t => bifW t (codeW cw a (lknow l c true) s K) (codeW cw b (lknow l c false) s K)
    | _ => False)
  | .block id a, l, s, K => codeW cw a l s fun e l s => match e with
    | .exit i => (match Nat.beq i id with | true => K .normal l s | false => K (.exit i) l s)
    | .normal => K .normal l s
    | .ret => K .ret l s
  | .loop a, l, s, K => LoopW (fun l s K => codeW cw a l s K) l s K
  | .exit i, l, s, K => K (.exit i) l s
  | .ret, l, s, K => K .ret l s
  | _, _, _, _ => False

noncomputable def resW (l : Tmps) (s : St) : List ResultVar → (List Value → St → Prop) → Prop
  | [], K => K [] s
  | .tmp t :: rest, K => resW l s rest fun vs s => K (lget l t :: vs) s
  | .cell a t :: rest, K => loadW P s t (lget l a) fun v s => resW l s rest fun vs s => K (v :: vs) s

noncomputable def retW (fn : Func) (Q : KV) : KC := fun e l s => match e with
  | .exit _ => False
  | .normal => resW P l s fn.results.toList fun vs s => Q (valOf vs) s
  | .ret => resW P l s fn.results.toList fun vs s => Q (valOf vs) s

end Go.Det
