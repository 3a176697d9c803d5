/- W with other words for single operations and for loops: a load at an unknown place of a row, a loop by its rounds. -/
import Derived.Test.YtfnacgojmdbjmaaGreatDoorRo19
namespace Go.Det
variable {P : Program}

abbrev OpX := Oper → Tmps → St → KV → Prop
abbrev LpX := Tmps → St → KC → Prop
noncomputable def dstN (o : Oper) : Nat := match o.dst with | some d => d | none => 1000000

noncomputable def opX (P : Program) (cw : Cw) (ox : Nat → Option OpX) (o : Oper) (l : Tmps) (s : St) (K : KV) : Prop :=
  match ox (dstN o) with
  | some X => X o l s K
  | none => opW P cw o l s K
noncomputable def opsX (P : Program) (cw : Cw) (ox : Nat → Option OpX) (all : List Oper) : List Oper → Tmps → St → KT → Prop
  | [], l, s, K => K l s
  | o :: rest, l, s, K => wantW all l o (fun l => opX P cw ox o l s fun v s => opsX P cw ox all rest (putD l o.dst v) s K) (fun l => opsX P cw ox all rest (putD l o.dst skp) s K)
noncomputable def drawX (P : Program) (cw : Cw) (ox : Nat → Option OpX) (all : List Oper) : List Oper → List Foot → Tmps → St → KT → Prop
  | [], _, l, s, K => K l s
  | o :: rest, done, l, s, K => match edgesOk done.length o.after.toList with
    | true => wantW all l o
      (fun l => opX P cw ox o l (solo s) fun v x => match apartAll (footOf all o done x.rd x.wr) 0 done with
        | true => drawX P cw ox all rest (done ++ [footOf all o done x.rd x.wr]) (putD l o.dst v) (merge s x) K
        | false => False)
      (fun l => match apartAll (footOf all o done 0 0) 0 done with
        | true => drawX P cw ox all rest (done ++ [footOf all o done 0 0]) (putD l o.dst skp) (merge s (solo s)) K
        | false => False)
    | false => False
/-- the number of a code's first region -/
noncomputable def frst : Code → Nat
  | .region id _ _ => id
  | .seq a _ => frst a
  | .cond _ a _ => frst a
  | .block _ a => frst a
  | .loop a => frst a
  | _ => 1000000
noncomputable def codeX (P : Program) (cw : Cw) (ox : Nat → Option OpX) (lx : Nat → Option LpX) : Code → Tmps → St → KC → Prop
  | .skip, l, s, K => K .normal l s
  | .region _ ops draw, l, s, K => (match draw with
    | true => drawX P cw ox ops.toList ops.toList [] l s (K .normal)
    | false => opsX P cw ox ops.toList ops.toList l s (K .normal))
  | .seq a b, l, s, K => codeX P cw ox lx a l s fun e l s => match e with | .normal => codeX P cw ox lx b l s K | .exit i => K (.exit i) l s | .ret => K .ret l s
  | .cond c a b, l, s, K => (match evalO l c with
    | .bool t => bifW t (codeX P cw ox lx a (lknow l c true) s K) (codeX P cw ox lx b (lknow l c false) s K)
    | _ => False)
  | .block id a, l, s, K => codeX P cw ox lx a l s fun e l s => match e with
    | .exit i => (match Nat.beq i id with | true => K .normal l s | false => K (.exit i) l s)
    | .normal => K .normal l s
    | .ret => K .ret l s
  | .loop a, l, s, K => (match lx (frst a) with | some X => X l s K | none => False)
  | .exit i, l, s, K => K (.exit i) l s
  | .ret, l, s, K => K .ret l s
  | _, _, _, _ => False
/-- the bodies of the loops that stand in no other loop -/
noncomputable def loopsOf : Code → List Code
  | .seq a b => loopsOf a ++ loopsOf b
  | .cond _ a b => loopsOf a ++ loopsOf b
  | .block _ a => loopsOf a
  | .loop a => [a]
  | _ => []

def OxOk (P : Program) (cw : Cw) (ox : Nat → Option OpX) : Prop := ∀ n X, ox n = some X → ∀ o l s K, X o l s K → opW P cw o l s K
def LxOk (P : Program) (cw : Cw) (lx : Nat → Option LpX) (l : List Code) : Prop := ∀ a ∈ l, ∀ X, lx (frst a) = some X → ∀ l s K, X l s K → codeW P cw (.loop a) l s K

section
variable {cw : Cw} {ox : Nat → Option OpX} {lx : Nat → Option LpX}
theorem opX_opW (ho : OxOk P cw ox) {o : Oper} {l : Tmps} {s : St} {K : KV} (h : opX P cw ox o l s K) : opW P cw o l s K := by
  unfold opX at h
  split at h
  · rename_i X e; exact ho _ _ e _ _ _ _ h
  · exact h
theorem opsX_opsW (hm : CwMono cw) (ho : OxOk P cw ox) {all : List Oper} : ∀ {ops : List Oper} {l : Tmps} {s : St} {K : KT}, opsX P cw ox all ops l s K → opsW P cw all ops l s K
  | [], _, _, _, h => h
  | _ :: _, _, _, _, h => wantW_mono (fun _ h => opW_mono hm (fun _ _ h => opsX_opsW hm ho h) (opX_opW ho h)) (fun _ h => opsX_opsW hm ho h) h
theorem drawX_drawW (hm : CwMono cw) (ho : OxOk P cw ox) {all : List Oper} : ∀ {ops : List Oper} {done : List Foot} {l : Tmps} {s : St} {K : KT}, drawX P cw ox all ops done l s K → drawW P cw all ops done l s K
  | [], _, _, _, _, h => h
  | o :: rest, done, l, s, K, h => by
    unfold drawX at h
    unfold drawW
    split at h
    · rename_i he
      simp only [he]
      refine wantW_mono (fun l h => ?_) (fun l h => ?_) h
      · refine opW_mono hm (fun v x h => ?_) (opX_opW ho h)
        split at h
        · rename_i hc; simp only [hc]; exact drawX_drawW hm ho h
        · exact h.elim
      · split at h
        · rename_i hc; simp only [hc]; exact drawX_drawW hm ho h
        · exact h.elim
    · exact h.elim
/-- What the other words say, the law says. -/
theorem codeX_codeW (hm : CwMono cw) (ho : OxOk P cw ox) : ∀ (c : Code) {l : Tmps} {s : St} {K : KC}, LxOk P cw lx (loopsOf c) → codeX P cw ox lx c l s K → codeW P cw c l s K
  | .skip, _, _, _, _, h => h
  | .region _ ops draw, _, _, _, _, h => by
    cases draw with
    | true => exact drawX_drawW hm ho h
    | false => exact opsX_opsW hm ho h
  | .seq a b, _, _, _, hl, h => by
    have h1 := codeX_codeW hm ho a (fun x hx => hl x (List.mem_append_left _ hx)) h
    refine codeW_mono hm a (fun e l s q => ?_) h1
    cases e with
    | normal => exact codeX_codeW hm ho b (fun x hx => hl x (List.mem_append_right _ hx)) q
    | exit i => exact q
    | ret => exact q
  | .cond c a b, l, s, K, hl, h => by
    unfold codeX at h
    unfold codeW
    split at h
    · rename_i hc
      simp only [hc]
      exact bifW_mono (codeX_codeW hm ho a (fun x hx => hl x (List.mem_append_left _ hx))) (codeX_codeW hm ho b (fun x hx => hl x (List.mem_append_right _ hx))) h
    · exact h.elim
  | .block id a, _, _, _, hl, h => codeX_codeW hm ho a hl h
  | .loop a, l, s, K, hl, h => by
    unfold codeX at h
    split at h
    · rename_i X e; exact hl a (List.mem_singleton.2 rfl) X e l s K h
    · exact h.elim
  | .exit i, _, _, _, _, h => h
  | .ret, _, _, _, _, h => h
end

/-! loops by their rounds -/
inductive Star {V : Type} (R : V → V → Prop) : V → V → Prop
  | refl (v : V) : Star R v v
  | step {a b c : V} : R a b → Star R b c → Star R a c
theorem loop_star {cw : Cw} (hm : CwMono cw) {a : Code} {V : Type} (L : V → Tmps) (S : V → St) {Step : V → V → Prop}
    (hstep : ∀ v v1, Step v v1 → codeW P cw a (L v) (S v) (stepW (fun l s => Weaker l s (L v1) (S v1)) (fun _ _ _ => False)))
    {v v' : V} (hs : Star Step v v') {K : KC} : ∀ {l : Tmps} {s : St}, Weaker l s (L v) (S v) → codeW P cw a (L v') (S v') (stepW (fun _ _ => False) K) → codeW P cw (.loop a) l s K := by
  induction hs with
  | refl v =>
    intro l s hw hend
    exact loopW_weak hw (loopW_unroll hm (codeW_mono hm a (stepW_mono (fun _ _ h => h.elim) (fun _ _ _ h => h)) hend))
  | @step x y z h1 h2 ih =>
    intro l s hw hend
    exact loopW_weak hw (loopW_unroll hm (codeW_mono hm a (stepW_mono (fun _ _ q => ih q hend) (fun _ _ _ h => h.elim)) (hstep x y h1)))

/-! what is kept at a loop's head: some slots, some blocks -/
abbrev Slots := List (Nat × Value)
abbrev Blks := List (Nat × List Value × TypeId × Bool)
noncomputable def tabOf : Slots → Tmps
  | [] => []
  | x :: t => lset (tabOf t) x.1 x.2
noncomputable def heapOf : Blks → Heap
  | [] => []
  | x :: t => (heapOf t).set x.1 (.cells x.2.1 x.2.2.1 x.2.2.2)
noncomputable def stOf (b : Blks) (N : Nat) : St := { h := heapOf b, next := N, hi := N, rd := 0, wr := 0 }
def eqL : List Value → List Value → Prop
  | [], [] => True
  | x :: s, y :: t => x = y ∧ eqL s t
  | _, _ => False
theorem eqL_eq : ∀ {a b : List Value}, eqL a b → a = b
  | [], [], _ => rfl
  | x :: s, y :: t, h => by rw [h.1, eqL_eq h.2]
  | [], _ :: _, h => h.elim
  | _ :: _, [], h => h.elim
noncomputable def slotsW (l : Tmps) : Slots → Prop
  | [] => True
  | x :: t => lget l x.1 = x.2 ∧ slotsW l t
/-- a block holds these cells, one by one -/
noncomputable def blkW (s : St) (id : Nat) (cs : List Value) (e : TypeId) (ro : Bool) : Prop := match s.h.get id with
  | some (.cells cs' e' ro') => eqL cs' cs ∧ (e' = e ∧ ro' = ro)
  | _ => False
/-- a block holds these cells, as a row -/
noncomputable def rowW (s : St) (id : Nat) (cs : List Value) (e : TypeId) (ro : Bool) : Prop := match s.h.get id with
  | some (.cells cs' e' ro') => cs' = cs ∧ (e' = e ∧ ro' = ro)
  | _ => False
theorem blkW_get {s : St} {id : Nat} {cs : List Value} {e : TypeId} {ro : Bool} (h : blkW s id cs e ro) : s.h.get id = some (.cells cs e ro) := by
  unfold blkW at h
  split at h
  · rename_i cs' e' ro' hg; obtain ⟨h1, rfl, rfl⟩ := h; rw [hg, eqL_eq h1]
  · exact h.elim
theorem rowW_get {s : St} {id : Nat} {cs : List Value} {e : TypeId} {ro : Bool} (h : rowW s id cs e ro) : s.h.get id = some (.cells cs e ro) := by
  unfold rowW at h
  split at h
  · rename_i cs' e' ro' hg; obtain ⟨rfl, rfl, rfl⟩ := h; exact hg
  · exact h.elim
noncomputable def blksW (s : St) : Blks → Prop
  | [] => True
  | x :: t => s.h.get x.1 = some (.cells x.2.1 x.2.2.1 x.2.2.2) ∧ blksW s t

/-- a value that may be kept: flat, or a place in one of the numbers from 64 to N -/
noncomputable def goodV (N : Nat) (v : Value) : Bool := match v with
  | .pointer (some ⟨i, _, none⟩) => decide (64 ≤ i ∧ i < N)
  | .slice (some ⟨i, _, none⟩) _ _ => decide (64 ≤ i ∧ i < N)
  | v => flat v
noncomputable def goodL (N : Nat) (l : List Value) : Bool := l.all (goodV N)
noncomputable def keepρ (N : Nat) : Nat → Option Nat := fun id => if 64 ≤ id ∧ id < N then some id else none
theorem Wk.good {N : Nat} {v : Value} (h : goodV N v = true) : Wk (keepρ N) v v := by
  unfold goodV at h
  split at h
  · rename_i i off
    have h := of_decide_eq_true h
    exact Wk.ptr h.1 (by unfold keepρ; rw [if_pos h])
  · rename_i i off n c
    have h := of_decide_eq_true h
    exact Wk.slice h.1 (by unfold keepρ; rw [if_pos h])
  · exact Wk.flat h
theorem tabOf_get : ∀ (sl : Slots) (t : Nat), lget (tabOf sl) t = und ∨ ∃ x ∈ sl, x.1 = t ∧ lget (tabOf sl) t = x.2
  | [], t => .inl (lget_nil t)
  | x :: r, t => by
    unfold tabOf
    rw [lget_set]
    by_cases e : t = x.1
    · rw [if_pos e]; exact .inr ⟨x, List.mem_cons_self, e.symm, rfl⟩
    · rw [if_neg e]
      rcases tabOf_get r t with h | ⟨y, h1, h2, h3⟩
      · exact .inl h
      · exact .inr ⟨y, List.mem_cons_of_mem _ h1, h2, h3⟩
theorem heapOf_get : ∀ (b : Blks) (id : Nat) (B : Blk), (heapOf b).get id = some B → ∃ x ∈ b, x.1 = id ∧ B = .cells x.2.1 x.2.2.1 x.2.2.2
  | [], id, B, h => by
    exfalso
    have : Heap.get ([] : Heap) id = none := by
      unfold Heap.get Tab.get
      cases hd : Nat.div id 8 <;> cases hm : Nat.mod id 8 <;> rfl
    unfold heapOf at h
    rw [this] at h; cases h
  | x :: r, id, B, h => by
    unfold heapOf at h
    rw [Heap.get_set] at h
    by_cases e : id = x.1
    · rw [if_pos e] at h; cases h; exact ⟨x, List.mem_cons_self, e.symm, rfl⟩
    · rw [if_neg e] at h
      obtain ⟨y, h1, h2, h3⟩ := heapOf_get r id B h
      exact ⟨y, List.mem_cons_of_mem _ h1, h2, h3⟩
theorem slotsW_mem {l : Tmps} : ∀ {sl : Slots}, slotsW l sl → ∀ x ∈ sl, lget l x.1 = x.2
  | [], _, x, hx => by cases hx
  | y :: r, h, x, hx => by
    rcases List.mem_cons.1 hx with rfl | hx
    · exact h.1
    · exact slotsW_mem h.2 x hx
theorem blksW_mem {s : St} : ∀ {b : Blks}, blksW s b → ∀ x ∈ b, s.h.get x.1 = some (.cells x.2.1 x.2.2.1 x.2.2.2)
  | [], _, x, hx => by cases hx
  | y :: r, h, x, hx => by
    rcases List.mem_cons.1 hx with rfl | hx
    · exact h.1
    · exact blksW_mem h.2 x hx
/-- A state may be known by some of its slots and blocks alone. -/
theorem weak_pick {sl : Slots} {b : Blks} {N : Nat} {l : Tmps} {s : St} (h64 : 64 ≤ N) (hg : ∀ x ∈ sl, goodV N x.2 = true) (hb : ∀ x ∈ b, (64 ≤ x.1 ∧ x.1 < N) ∧ goodL N x.2.1 = true)
    (h1 : slotsW l sl) (h2 : blksW s b) : Weaker l s (tabOf sl) (stOf b N) := by
  refine weaker_of (keepρ N) (fun t => ?_) (fun id cs e ro q g => ?_) (fun id cs e ro q g => ?_) (fun i j o hi hj => ?_) (fun i o hi => ?_) (fun id es g => ?_) (fun id q => ⟨?_, ?_⟩) h64 (Nat.le_refl _)
  · rcases tabOf_get sl t with e | ⟨x, hx, rfl, e⟩
    · rw [e]; exact Wk.und _ _
    · rw [e, slotsW_mem h1 x hx]; exact Wk.good (hg x hx)
  · obtain ⟨x, hx, rfl, e⟩ := heapOf_get b id _ g
    have := (hb x hx).1.1; omega
  · obtain ⟨x, hx, rfl, e⟩ := heapOf_get b id _ g
    cases e
    refine ⟨x.1, x.2.1, by unfold keepρ; rw [if_pos (hb x hx).1], blksW_mem h2 x hx, rfl, fun i => ?_⟩
    rcases Nat.lt_or_ge i x.2.1.length with c | c
    · have := List.all_eq_true.1 (hb x hx).2 (x.2.1.getD i und) (by rw [List.getD_eq_getElem?_getD, List.getElem?_eq_getElem c]; exact List.getElem_mem c)
      exact Wk.good this
    · rw [List.getD_eq_getElem?_getD, List.getElem?_eq_none c]; exact Wk.und _ _
  · unfold keepρ at hi hj
    split at hi
    · split at hj
      · cases hi; cases hj; rfl
      · cases hj
    · cases hi
  · unfold keepρ at hi
    split at hi
    · rename_i c; cases hi; exact c.1
    · cases hi
  · obtain ⟨x, hx, rfl, e⟩ := heapOf_get b id _ g
    cases e
  · unfold keepρ; rw [if_neg (by simp only [stOf] at q; omega)]
  · cases hc : (stOf b N).h.get id with
    | none => rfl
    | some B =>
      obtain ⟨x, hx, rfl, e⟩ := heapOf_get b id _ hc
      have := (hb x hx).1.2
      simp only [stOf] at q
      omega

/-! rows: a load at an unknown place -/
noncomputable def rowX {α : Type} (enc : α → List Value) (ty : TypeId) (n : Nat) : OpX := fun o l s K => match o.op with
  | .load t a => (match evalO l a with
    | .pointer (some ⟨id, off, none⟩) => (match s.h.get id with
      | some (.cells cs _ _) => t = ty ∧ ∃ r : List α, cs = r.flatMap enc ∧ ∃ i : Nat, off = i * n ∧ ∃ x : α, r[i]? = some x ∧ K (.agg (enc x).toArray) (s.read id)
      | _ => False)
    | _ => False)
  | _ => False
theorem drop_flatMap {α : Type} {enc : α → List Value} {n : Nat} (hn : ∀ x, (enc x).length = n) : ∀ (r : List α) (i : Nat) (x : α), r[i]? = some x → (r.flatMap enc).drop (i * n) = enc x ++ (r.drop (i + 1)).flatMap enc ∧ i * n + n ≤ (r.flatMap enc).length
  | [], i, x, h => by simp at h
  | y :: t, 0, x, h => by
    simp at h; subst h
    simp [hn]
  | y :: t, i + 1, x, h => by
    have h' : t[i]? = some x := by simpa using h
    obtain ⟨a, b⟩ := drop_flatMap hn t i x h'
    refine ⟨?_, ?_⟩
    · rw [List.flatMap_cons, Nat.succ_mul, Nat.add_comm, List.drop_append, List.drop_eq_nil_of_le (by rw [hn]; omega), hn, List.nil_append, show n + i * n - n = i * n by omega]
      exact a
    · rw [List.flatMap_cons, List.length_append, hn, Nat.succ_mul]; omega
theorem rowX_ok {cw : Cw} {α : Type} {enc : α → List Value} {ty : TypeId} {n : Nat} (hn : ∀ x, (enc x).length = n + 1) (h1 : isAggB P ty = some true) (h2 : szOf P ty = some (n + 1)) {o : Oper} {l : Tmps} {s : St} {K : KV}
    (h : rowX enc ty (n + 1) o l s K) : opW P cw o l s K := by
  unfold rowX at h
  split at h
  case h_2 => exact h.elim
  rename_i t a ho
  split at h
  case h_2 => exact h.elim
  rename_i id off hp
  split at h
  case h_2 => exact h.elim
  rename_i cs e ro hg
  obtain ⟨rfl, r, rfl, i, rfl, x, hx, hK⟩ := h
  unfold opW
  rw [ho]
  simp only [hp]
  unfold loadW
  simp only [hg, h1, h2]
  obtain ⟨d1, d2⟩ := drop_flatMap hn r i x hx
  refine dropW_intro (by omega) ?_
  rw [d1]
  refine takeW_intro (by rw [List.length_append, hn]; omega) ?_
  rw [List.take_append_of_le_length (by rw [hn]; exact Nat.le_refl _), List.take_of_length_le (by rw [hn]; exact Nat.le_refl _)]
  exact hK

end Go.Det
