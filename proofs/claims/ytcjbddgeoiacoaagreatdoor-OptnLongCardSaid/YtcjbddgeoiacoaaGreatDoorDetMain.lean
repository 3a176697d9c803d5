/- A part of an evaluator of closed runs and of its soundness. -/
import Derived.Test.YtcjbddgeoiacoaaGreatDoorDetCode
namespace Go.Det
variable {P : Program}

section
variable {w0 : World} {n G : Nat}

/-- one result variable -/
def resOne (tmps : Array Value) : ResultVar → Sem Value
  | .tmp t => pure (tmps.getD t undef)
  | .cell a t => do loadVar t (← asAddr (tmps.getD a undef))

theorem loadD_run {s s' : St} {t : TypeId} {x x' v : Value} {φ : Ren} {w : World} (h : loadD P s t x = some (v, s')) (H : HR φ s.h w0 w) (hx : VR φ x x') :
    ∃ ad v', x' = .pointer (some ad) ∧ (loadVar t ad).run P w = .ok v' w ∧ VR φ v v' ∧ s'.h = s.h ∧ s'.next = s.next := by
  unfold loadD at h
  split at h
  case h_2 => cases h
  rename_i id off
  split at h
  case h_2 => cases h
  rename_i cs e ro hg
  obtain ⟨b, sh, sz, e1, hp⟩ := ptr_inv hx
  obtain ⟨b', sh', sz', c, fz, k⟩ := H.cells _ _ _ _ hg
  have := k.at_; rw [e1] at this; cases this
  split at h
  · rename_i hb
    split at h
    case h_2 => cases h
    rename_i n hn
    split at h
    case h_2 => cases h
    rename_i r hr
    simp only [Option.some.injEq, Prod.mk.injEq] at h
    obtain ⟨rfl, rfl⟩ := h
    rw [ldrop_eq] at hr
    obtain ⟨rfl, hle⟩ := ltake_some hr
    by_cases h0 : n = 0
    · subst h0
      refine ⟨_, .agg #[], hp, ?_, ?_, rfl, rfl⟩
      · simp [loadVar, isAggB_run hb, szOf_run hn, loadCells, loadCellsFrom]
      · rw [List.take_zero]; exact VR.agg_of (VRL.nil φ)
    · obtain ⟨r', hrun, hrel⟩ := loadCells_run (P := P) (n := n) (off := off) k (by simp at hle; omega)
      obtain ⟨r'⟩ := r'
      refine ⟨_, .agg ⟨r'⟩, hp, ?_, VR.agg_of hrel, rfl, rfl⟩
      simp [loadVar, isAggB_run hb, szOf_run hn, hrun]
  · rename_i hb
    split at h
    case h_2 => cases h
    rename_i v1 t1 hd
    simp only [Option.some.injEq, Prod.mk.injEq] at h
    obtain ⟨rfl, rfl⟩ := h
    rw [ldrop_eq] at hd
    have hlt : off < cs.length := by
      rcases Nat.lt_or_ge off cs.length with q | q
      · exact q
      · rw [List.drop_eq_nil_of_le q] at hd; cases hd
    have hv1 : cs.getD off und = v1 := by
      rw [List.getD_eq_getElem?_getD, show cs[off]? = (cs.drop off)[0]? by rw [List.getElem?_drop]; rfl, hd]; rfl
    have hc := k.cell off hlt
    rw [hv1] at hc
    have hcell := cell_at k.blk (sh + off) (by rw [k.size]; have := k.fit; omega)
    exact ⟨_, _, hp, by simp [loadVar, isAggB_run hb, hcell], hc, rfl, rfl⟩
  · cases h

theorem resD_ok {tmps : Array Value} {l : Tmps} : ∀ (rs : List ResultVar) {s : St} {vs : List Value} {s' : St} {φ : Ren} {w : World}, resD P l s rs = some (vs, s') → HR φ s.h w0 w → (∀ t, VR φ (lget l t) (tmps.getD t undef)) →
    ∃ vs', (rs.mapM (resOne tmps)).run P w = .ok vs' w ∧ VRL φ vs vs' ∧ s'.h = s.h ∧ s'.next = s.next
  | [], s, vs, s', φ, w, h, H, _ => by
    rw [resD_nil] at h
    cases h
    exact ⟨[], by simp, VRL.nil _, rfl, rfl⟩
  | .tmp t :: rest, s, vs, s', φ, w, h, H, hl => by
    rw [resD_tmp] at h
    split at h
    case h_2 => cases h
    rename_i vs1 s1 h1
    cases h
    obtain ⟨vs', r1, r3, r4, r5⟩ := resD_ok rest h1 H hl
    refine ⟨tmps.getD t undef :: vs', ?_, VRL.cons (hl t) r3, r4, r5⟩
    simp only [List.mapM_cons, resOne, pure_bind, Sem.run_bind, r1, Result.andThen_ok, Sem.run_pure]
  | .cell a t :: rest, s, vs, s', φ, w, h, H, hl => by
    rw [resD_cell] at h
    split at h
    case h_2 => cases h
    rename_i v s1 h1
    split at h
    case h_2 => cases h
    rename_i vs1 s2 h2
    cases h
    obtain ⟨ad, v', had, hr, hv, e1, e2⟩ := loadD_run h1 H (hl a)
    obtain ⟨vs', r1, r3, r4, r5⟩ := resD_ok rest h2 (by rw [e1]; exact H) hl
    refine ⟨v' :: vs', ?_, VRL.cons hv r3, r4.trans e1, r5.trans e2⟩
    simp only [List.mapM_cons, resOne, had, asAddr, pure_bind, Sem.run_bind, hr, r1, Result.andThen_ok, Sem.run_pure]

theorem results_run {fn : Func} {tmps : Array Value} {w w' : World} {vs : List Value} (h : (fn.results.toList.mapM (resOne tmps)).run P w = .ok vs w') :
    (results fn tmps).run P w = .ok (valOf vs) w' := by
  have e : results fn tmps = (do let vs ← fn.results.mapM (resOne tmps); pure (if h : vs.size = 1 then vs[0] else .tuple vs)) := by
    unfold results
    congr 1
  rw [e, Array.mapM_eq_mapM_toList]
  simp only [map_eq_pure_bind, bind_assoc, pure_bind, Sem.run_bind, h, Result.andThen_ok, Sem.run_pure]
  match vs with
  | [] => rfl
  | [v] => rfl
  | v :: u :: t => rfl

theorem valOf_ok {φ : Ren} {vs vs' : List Value} (h : VRL φ vs vs') : VR φ (valOf vs) (valOf vs') := by
  match vs, vs' with
  | [], [] => exact VR.tuple_of h
  | [v], [v'] => exact h.2 0
  | a :: b :: t, a' :: b' :: t' => exact VR.tuple_of h
  | [], _ :: _ => exact absurd h.1 (by simp)
  | _ :: _, [] => exact absurd h.1 (by simp)
  | [_], _ :: _ :: _ => exact absurd h.1 (by simp)
  | _ :: _ :: _, [_] => exact absurd h.1 (by simp)

theorem flat_inv {φ : Ren} {v v' : Value} (h : flat v = true) (k : VR φ v v') (hne : v ≠ und) : v' = v := by
  unfold flat at h
  split at h
  · cases k with
    | any => exact absurd rfl hne
    | tuple a a' e q => rw [flat2L_inv h ⟨e, q⟩]
  · exact flat2_inv h k
theorem flat_any {v v' : Value} {φ φ' : Ren} (h : flat v = true) (k : VR φ v v') : VR φ' v v' := by
  by_cases e : v = und
  · subst e; exact .any _
  · rw [flat_inv h k e]; exact flat_self h φ'

/-- Behind a call: what is new is forgotten, where nothing else is left. -/
theorem gc_ok {s y s' : St} {v v1 v' : Value} {φ φ1 : Ren} {w w' : World} (h : gcD s v1 y = some (v, s')) (H : HR φ s.h w0 w) (g : G1 (noWr s) y) (hf : ∀ id, s.next ≤ id → id < s'.hi → φ id = none) (hle : s.next ≤ s.hi)
    (e : Ext φ φ1 s.next y.next) (hv : VR φ1 v1 v') (H1 : HR φ1 y.h w0 w') : ∃ φ', Ext φ φ' s.next s'.next ∧ VR φ' v v' ∧ HR φ' s'.h w0 w' := by
  unfold gcD at h
  cases hc : (flat v1 && (Nat.beq (Nat.mod y.wr (Nat.shiftLeft 1 s.next)) 0 && Nat.ble (Nat.lor y.rd y.wr + 1) (Nat.shiftLeft 1 y.next))) <;> rw [hc] at h <;> simp only [Option.some.injEq, Prod.mk.injEq] at h <;> obtain ⟨rfl, rfl⟩ := h
  · exact ⟨φ1, e, hv, H1⟩
  · simp only [Bool.and_eq_true] at hc
    have hk : ∀ id, φ id ≠ none → y.h.get id = s.h.get id := by
      intro id hne
      refine g.frame id fun hb => ?_
      have h1 : id < y.next := bit_lt (Nat.le_of_ble_eq_true hc.2.2) (bit_or.2 (.inr hb))
      rcases Nat.lt_or_ge id s.next with q | q
      · have h2 := bit_mod.2 ⟨q, hb⟩
        rw [Nat.eq_of_beq_eq_true hc.2.1] at h2
        exact bit_zero h2
      · exact hne (hf id q (Nat.lt_of_lt_of_le h1 (g.inv hle)))
    refine ⟨φ, Ext.refl _ _ _, flat_any hc.1 hv, H.forget H1 e.le (fun id cs t ro hg => ?_) fun id es hg => ?_⟩
    · obtain ⟨b, sh, sz, c, fz, k⟩ := H.cells _ _ _ _ hg
      rw [hk id (by rw [k.at_]; simp)]; exact hg
    · obtain ⟨b, sh, sz, O, k⟩ := H.obs _ _ hg
      rw [hk id (by rw [k.at_]; simp)]; exact hg

noncomputable def okFunc (G : Nat) (fn : Func) : Bool := match fn.body with
  | some c => okCode fn.ntmps G c && !(fn.name == "runtime.NumGoroutine")
  | none => true

def IntrTr (intr : Intr) : Prop := ∀ f g, intr f = some g → ∀ args, Tr (g args)
def IntrOk (P : Program) (w0 : World) (G : Nat) (intr : Intr) : Prop := ∀ f g, intr f = some g → ∀ args s v s', g args s = some (v, s') → ∀ φ w args', HR φ s.h w0 w → Glob G φ → VRL φ args args' → (∀ id, s.next ≤ id → id < s'.hi → φ id = none) → Full s'.hi s →
    Gives P w0 φ s.next s' v ((callFunc f ⟨args'⟩).run P w)

theorem lget_nil (t : Nat) : lget [] t = und := by
  show lgetR und (lgetR [] [] (t / 8)) (t % 8) = und
  rw [lgetR_nil, lgetR_nil]
theorem lgetR_getD (l : List Value) : ∀ t, lgetR und l t = l.getD t und := by
  induction l with
  | nil => intro t; rw [lgetR_nil]; simp
  | cons x r ih =>
    intro t
    cases t with
    | zero => rfl
    | succ t => rw [lgetR_succ, ih]; simp
theorem lget_cons (r : List Value) (rest : Tmps) (t : Nat) : lget (r :: rest) t = if t < 8 then r.getD t und else lget rest (t - 8) := by
  show lgetR und (lgetR [] (r :: rest) (t / 8)) (t % 8) = _
  by_cases h : t < 8
  · rw [if_pos h, show t / 8 = 0 by omega, show t % 8 = t by omega, lgetR_zero, lgetR_getD]
  · rw [if_neg h, show t / 8 = (t - 8) / 8 + 1 by omega, lgetR_succ, show t % 8 = (t - 8) % 8 by omega]; rfl

theorem inTab_get : ∀ (k : Nat) (args : List Value) (t : Nat), lget (inTab args k) t = und ∨ lget (inTab args k) t = args.getD t und
  | 0, args, t => .inl (by rw [inTab]; exact lget_nil t)
  | k + 1, args, t => by
    unfold inTab
    split
    · rename_i a b c d e f g h r
      rw [lget_cons]
      by_cases q : t < 8
      · rw [if_pos q]
        right
        match t, q with
        | 0, _ | 1, _ | 2, _ | 3, _ | 4, _ | 5, _ | 6, _ | 7, _ => rfl
      · rw [if_neg q]
        obtain ⟨u, rfl⟩ : ∃ u, t = u + 8 := ⟨t - 8, by omega⟩
        have := inTab_get k r u
        simpa using this
    · exact .inl (lget_nil t)
    · rw [lget_cons]
      by_cases q : t < 8
      · rw [if_pos q]; exact .inr rfl
      · rw [if_neg q]; exact .inl (lget_nil _)

theorem enter_frame {φ : Ren} {args : List Value} {args' : List Value} {m : Nat} (h : VRL φ args args') (hm : args.length ≤ m) :
    Fr m φ (inTab args 8) { tmps := (⟨args'⟩ : Array Value) ++ Array.replicate (m - (⟨args'⟩ : Array Value).size) undef, defers := [] } := by
  refine ⟨?_, fun t => ?_, rfl⟩
  · have := h.1
    simp
    omega
  · rcases inTab_get 8 args t with e | e
    · rw [e]; exact .any _
    · rw [e]
      by_cases q : t < args.length
      · have hq : t < args'.length := by rw [← h.1]; exact q
        have := h.2 t
        have e2 : ((⟨args'⟩ : Array Value) ++ Array.replicate (m - (⟨args'⟩ : Array Value).size) undef).getD t undef = args'.getD t und := by
          rw [Array.getD_eq_getD_getElem?, Array.getElem?_append_left (by simpa using hq), List.getD_eq_getElem?_getD]
          simp [hq]
        rw [e2]; exact this
      · rw [List.getD_eq_getElem?_getD, List.getElem?_eq_none (by omega)]
        exact .any _

theorem callFunc_run {f : FuncId} {fn : Func} {c : Code} (hf : P.funcs[f]? = some fn) (hb : fn.body = some c) (hn : (fn.name == "runtime.NumGoroutine") = false) (args : Array Value) (w : World) :
    (callFunc f args).run P w = .ok (.enter f args) w := by
  have hn' : ¬ fn.name = "runtime.NumGoroutine" := by intro e; rw [e] at hn; simp at hn
  unfold callFunc
  simp [hf, hb, hn']

theorem callD_ok {intr : Intr} (hm : P.follows .mixedOrders = true) (hok : ∀ f fn, intr f = none → nth P.funcs.toList f = some fn → okFunc G fn = true) (hit : IntrTr intr) (hi : IntrOk P w0 G intr) (n : Nat) :
    ∀ k, CallOk P w0 G (callD P intr n k)
  | 0 => fun f args s v s' h => by rw [callD_zero] at h; cases h
  | k + 1 => by
    intro f args s v s' h φ w args' H hG hA hf hF
    rw [callD_succ] at h
    cases hfi : intr f with
    | some g =>
      simp only [hfi] at h
      exact hi f g hfi args s v s' h φ w args' H hG hA hf hF
    | none =>
      simp only [hfi] at h
      unfold bodyD at h
      split at h
      case h_2 => cases h
      rename_i fn hfn
      split at h
      case h_2 => cases h
      rename_i c hc
      have hk := hok f fn hfi hfn
      unfold okFunc at hk
      rw [hc] at hk
      simp only [Bool.and_eq_true, Bool.not_eq_true'] at hk
      rw [nth_getElem?, Array.getElem?_toList] at hfn
      have hT := callD_tr (P := P) hit n k
      have hcall := callD_ok hm hok hit hi n k
      simp only [enterD_eq] at h
      split at h
      case h_2 => cases h
      rename_i hle
      have hle := Nat.le_of_ble_eq_true hle
      split at h
      case h_2 => cases h
      rename_i x hx
      obtain ⟨v1, y⟩ := x
      simp only at h
      unfold obind asc at hx
      cases hr : codeD P (callD P intr n k) n c (inTab args 8) (noWr s) with
      | none => rw [hr] at hx; cases hx
      | some z =>
        obtain ⟨e, l1, y1⟩ := z
        rw [hr] at hx
        simp only at hx
        have g1 := (codeD_tr hT n c).g hr
        have hhi : y.hi = s'.hi := by
          unfold gcD at h
          split at h <;> simp only [Option.some.injEq, Prod.mk.injEq] at h <;> obtain ⟨_, rfl⟩ := h <;> rfl
        have hres : omap (resD P l1 y1 fn.results.toList) valOf = some (v1, y) := by
          cases e with
          | normal => exact hx
          | ret => exact hx
          | exit i => cases hx
        unfold omap at hres
        split at hres
        case h_2 => cases hres
        rename_i q hq
        obtain ⟨vs, y2⟩ := q
        simp only [Option.some.injEq, Prod.mk.injEq] at hres
        obtain ⟨rfl, rfl⟩ := hres
        have g2 := (resD_tr (P := P) l1 fn.results.toList y1 vs y2 hq).1
        rw [callFunc_run hfn hc hk.2]
        show Calls P f ⟨args'⟩ w _
        refine calls_of_wp hfn hc ?_
        have hpre : Pre w0 fn.ntmps G (inTab args 8) (noWr s) y1 φ { tmps := (⟨args'⟩ : Array Value) ++ Array.replicate (fn.ntmps - (⟨args'⟩ : Array Value).size) undef, defers := [] } w :=
          ⟨H, hG, enter_frame hA hle, fun id q1 q2 => hf id q1 (by rw [← hhi]; exact Nat.lt_of_lt_of_le q2 g2.hi), ⟨hF.le, fun id q1 q2 => hF.get id q1 (by rw [← hhi]; exact Nat.lt_of_lt_of_le q2 g2.hi)⟩⟩
        refine code_sound hcall hT hm n c hk.1 _ _ _ _ _ φ _ w hr hpre _ fun φ1 a1 w1 po => ?_
        obtain ⟨e1, H1, F1⟩ := po
        obtain ⟨vs', r1, r3, r4, r5⟩ := resD_ok fn.results.toList hq H1 F1.tmp
        have hgc := gc_ok h H (g1.trans g2) hf hF.le (e1.mono (Nat.le_refl _) (Nat.le_of_eq r5.symm)) (valOf_ok r3) (by rw [r4]; exact H1)
        have hend : a1.defers = [] ∧ ∃ v2, (results fn a1.tmps).run P w1 = .ok v2 w1 ∧ ∃ v' φ', Ending.returned v2 = .returned v' ∧ Ext φ φ' s.next s'.next ∧ VR φ' v v' ∧ HR φ' s'.h w0 w1 := by
          obtain ⟨φ', q1, q2, q3⟩ := hgc
          exact ⟨F1.defers, valOf vs', results_run r1, valOf vs', φ', rfl, q1, q2, q3⟩
        cases e with
        | normal => exact hend
        | ret => exact hend
        | exit i => cases hx

end
end Go.Det
